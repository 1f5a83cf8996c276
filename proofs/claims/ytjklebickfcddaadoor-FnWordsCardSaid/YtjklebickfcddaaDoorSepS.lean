/- The operations that only yield a value. -/
import Derived.Test.YtjklebickfcddaaDoorSepR
namespace Go.Proofs.YtjklebickfcddaaDoor.Sep
open Go.RowKit
set_option linter.unusedVariables false
set_option linter.unusedSimpArgs false
set_option linter.constructorNameAsVariable false

section
variable {ι ι' : Iota} {F g : H}

theorem toVal_R {v : V} {a r : Value} (h : toVal v = some a) (hr : R ι F v r) : r = a := by
  cases v <;> simp only [toVal, Option.some.injEq, reduceCtorEq] at h <;> simp only [R] at hr <;> rw [hr, h]

mutual
theorem ofVal_R : ∀ (r : Value), R ι F (ofVal r) r
  | .int k n => by simp [ofVal, R]
  | .bool b => by simp [ofVal, R]
  | .string s => by simp [ofVal, R]
  | .slice none 0 0 => by simp [ofVal, R]
  | .pointer none => by simp [ofVal, R]
  | .agg ⟨l⟩ => by simp only [ofVal, R]; exact ⟨l, rfl, ofVals_R l⟩
  | .func (.func f) ⟨[]⟩ ⟨[]⟩ => by simp only [ofVal, R]; exact ⟨[], rfl, by simp [RL]⟩
  | .float .. | .complex .. | .map .. | .chan .. | .nilFunc | .iface .. | .nilIface | .tuple .. => by simp [ofVal, R]
  | .pointer (some _) => by simp [ofVal, R]
  | .slice (some _) _ _ => by simp [ofVal, R]
  | .slice none (_ + 1) _ => by simp [ofVal, R]
  | .slice none 0 (_ + 1) => by simp [ofVal, R]
  | .func fn a c => by
    unfold ofVal
    split <;> simp_all [R, RL]
theorem ofVals_R : ∀ (l : List Value), RL ι F (ofVals l) l
  | [] => by simp [ofVals, RL]
  | r :: l => by simp only [ofVals, RL]; exact ⟨r, l, rfl, ofVal_R r, ofVals_R l⟩
end

theorem pev_R {t : Tp} {u : T} (h : ∀ k, R ι F (t k) (u k)) (x : Operand) : R ι F (pev t x) (ev u x) := by
  cases x with
  | tmp k => exact h k
  | const v => exact ofVal_R v
  | global g => simp [pev, R]
  | func f => simp only [pev, ev, R]; exact ⟨[], rfl, by simp [RL]⟩
theorem pevs_R {t : Tp} {u : T} (h : ∀ k, R ι F (t k) (u k)) : ∀ (l : List Operand), RL ι F (l.map (pev t)) (l.map (ev u))
  | [] => by simp [RL]
  | x :: l => by simp only [List.map_cons, RL]; exact ⟨_, _, rfl, pev_R h x, pevs_R h l⟩

theorem lift1_R {f : Value → Option Value} {x v : V} {rx : Value} (h : lift1 f x = some v) (hx : R ι F x rx) : ∃ rv, f rx = some rv ∧ R ι F v rv := by
  unfold lift1 at h
  simp only [Option.bind_eq_some_iff, Option.map_eq_some_iff] at h
  obtain ⟨a, ha, b, hb, rfl⟩ := h
  rw [toVal_R ha hx]
  exact ⟨b, hb, ofVal_R b⟩
theorem lift2_R {f : Value → Value → Option Value} {x y v : V} {rx ry : Value} (h : lift2 f x y = some v) (hx : R ι F x rx) (hy : R ι F y ry) : ∃ rv, f rx ry = some rv ∧ R ι F v rv := by
  unfold lift2 at h
  simp only [Option.bind_eq_some_iff, Option.map_eq_some_iff] at h
  obtain ⟨a, ha, b, hb, c, hc, rfl⟩ := h
  rw [toVal_R ha hx, toVal_R hb hy]
  exact ⟨c, hc, ofVal_R c⟩

theorem cell1_R {v : V} {r : Value} (hc : cell1 v = true) (hr : R ι F v r) : r.cells.toList = [r] ∧ r.oneCell' = true := by
  cases v <;> simp only [cell1, Bool.false_eq_true] at hc <;> simp only [R] at hr
  case int => subst hr; exact ⟨rfl, rfl⟩
  case bool => subst hr; exact ⟨rfl, rfl⟩
  case str => subst hr; exact ⟨rfl, rfl⟩
  case ptr => obtain ⟨_, _, _, _, rfl⟩ := hr; exact ⟨rfl, rfl⟩
  case nilp => subst hr; exact ⟨rfl, rfl⟩
  case pf => obtain ⟨_, _, _, _, _, _, rfl, _⟩ := hr; exact ⟨rfl, rfl⟩
  case sl => rcases hr with ⟨_, _, rfl | ⟨_, _, rfl⟩⟩ | ⟨_, _, _, rfl, _⟩ <;> exact ⟨rfl, rfl⟩
  case rf => obtain ⟨_, _, _, _, _, _, rfl, _⟩ := hr; exact ⟨rfl, rfl⟩
  case nils => subst hr; exact ⟨rfl, rfl⟩
  case fn => obtain ⟨_, rfl, _⟩ := hr; exact ⟨rfl, rfl⟩
  case fz =>
    obtain ⟨_, hr⟩ := hr
    rcases hr with ⟨_, h | ⟨_, _, h⟩⟩ | ⟨_, _, _, h, _⟩ <;> rw [h] <;> exact ⟨rfl, rfl⟩
theorem cells_R {v : V} {r : Value} (hc : cellOk v = true) (hr : R ι F v r) : RL ι F (cellsV v) r.cells.toList := by
  by_cases ha : ∃ l, v = .agg l
  · obtain ⟨l, rfl⟩ := ha
    simp only [R] at hr
    obtain ⟨cs, rfl, h⟩ := hr
    exact h
  · have h1 : cell1 v = true := by cases v <;> simp_all [cellOk]
    have h2 : cellsV v = [v] := by cases v <;> simp_all [cellsV]
    rw [h2, (cell1_R h1 hr).1]
    simp only [RL]
    exact ⟨r, [], rfl, hr, rfl⟩
theorem all1_R : ∀ {l : List V} {r : List Value}, l.all cell1 = true → RL ι F l r → all1 r = true
  | [], r, _, h => by simp only [RL] at h; simp [h, all1]
  | a :: l, r, hc, h => by
    simp only [RL] at h; obtain ⟨v, r', rfl, h1, h2⟩ := h
    simp only [List.all_cons, Bool.and_eq_true] at hc
    have := all1_R hc.2 h2
    simp only [all1, List.all_cons, Bool.and_eq_true] at this ⊢
    exact ⟨(cell1_R hc.1 h1).2, this⟩
theorem cellOk_of_all {v : V} (h : (cellsV v).all cell1 = true) : cellOk v = true := by
  cases v <;> simp_all [cellsV, cellOk]

theorem vcellsAt_R {l : List V} {cs : List Value} {o off : Nat} {n : Option Nat} {v : V} (hr : RL ι F l ((cs.drop o).take l.length)) (hl : o + l.length ≤ cs.length) (h : vcellsAt l off n = some v) :
    ∃ rv, cellsAt cs (o + off) n = some rv ∧ R ι F v rv := by
  cases n with
  | none =>
    obtain ⟨h1, h2⟩ := grd_some h
    cases h2
    refine ⟨_, by simp only [cellsAt, grd]; rw [if_pos (by omega)], ?_⟩
    have := RL_get hr off
    simp only [List.getD, List.getElem?_take, List.getElem?_drop, h1, if_true] at this ⊢
    exact this
  | some m =>
    obtain ⟨h1, h2⟩ := grd_some h
    cases h2
    refine ⟨_, by simp only [cellsAt, grd]; rw [if_pos (by omega)], ?_⟩
    have := RL_take m (RL_drop off hr)
    simp only [R]
    refine ⟨_, rfl, ?_⟩
    rw [List.drop_take, List.take_take, List.drop_drop] at this
    rwa [show min m (l.length - off) = m by omega] at this
theorem vcellsAt_R' {l : List V} {cs : List Value} {off : Nat} {n : Option Nat} {v : V} (hr : RL ι F l cs) (h : vcellsAt l off n = some v) : ∃ rv, cellsAt cs off n = some rv ∧ R ι F v rv := by
  have hl := RL_len hr
  have := vcellsAt_R (o := 0) (cs := cs) (by simpa [← hl] using hr) (by omega) h
  simpa using this

inductive PR (ι : Iota) (F : H) : List (Nat × Nat × V) → List (Nat × Nat × Value) → Prop
  | nil : PR ι F [] []
  | cons {off n : Nat} {v : V} {r : Value} {ps rs} : R ι F v r → PR ι F ps rs → PR ι F ((off, n, v) :: ps) ((off, n, r) :: rs)
theorem parts_R {t : Tp} {u : T} (h : ∀ k, R ι F (t k) (u k)) : ∀ (l : List (Nat × Nat × Operand)), PR ι F (l.map fun p => (p.1, p.2.1, pev t p.2.2)) (l.map fun p => (p.1, p.2.1, ev u p.2.2))
  | [] => .nil
  | p :: l => .cons (pev_R h _) (parts_R h l)
theorem vfill_R : ∀ {ps : List (Nat × Nat × V)} {rs : List (Nat × Nat × Value)} {cs : List V} {rc : List Value} {cs' : List V}, PR ι F ps rs → RL ι F cs rc → vfill cs ps = some cs' → ∃ rc', fillL rc rs = some rc' ∧ RL ι F cs' rc'
  | _, _, cs, rc, cs', .nil, hr, h => by cases h; exact ⟨rc, rfl, hr⟩
  | _, _, cs, rc, cs', .cons (off := off) (n := n) (v := v) (r := r) hv hp, hr, h => by
    obtain ⟨⟨h1, h2, h3⟩, h4⟩ := grd_some h
    have hc := cells_R h1 hv
    have hcl := RL_len hc
    have hrl := RL_len hr
    obtain ⟨rc', h5, h6⟩ := vfill_R hp (RL_append (RL_append (RL_take off hr) hc) (RL_drop (off + n) hr)) h4
    refine ⟨rc', ?_, h6⟩
    simp only [fillL, grd]
    rw [if_pos ⟨by rw [← Array.length_toList, hcl, h2], by omega⟩]
    exact h5

theorem vveq_R {s : Sg} {x y : V} {rx ry : Value} {b : Bool} (h : vveq s x y = some b) (hx : R ι F x rx) (hy : R ι F y ry) : veq s rx ry = some b := by
  unfold vveq at h
  simp only [Option.bind_eq_some_iff] at h
  obtain ⟨a, ha, c, hc, h⟩ := h
  rw [toVal_R ha hx, toVal_R hc hy]; exact h
theorem vleq_R : ∀ {sg : List Sg} {x y : List V} {rx ry : List Value} {b : Bool}, vleq sg x y = some b → RL ι F x rx → RL ι F y ry → leq sg rx ry = some b
  | [], [], [], rx, ry, b, h, hx, hy => by simp only [RL] at hx hy; subst hx; subst hy; exact h
  | s :: ss, x :: xs, y :: ys, rx, ry, b, h, hx, hy => by
    simp only [RL] at hx hy
    obtain ⟨vx, rx', rfl, hx1, hx2⟩ := hx
    obtain ⟨vy, ry', rfl, hy1, hy2⟩ := hy
    simp only [vleq, Option.bind_eq_some_iff] at h
    obtain ⟨c, hc, h⟩ := h
    simp only [leq, vveq_R hc hx1 hy1, Option.bind_some]
    cases c with
    | true => simp only [if_true] at h ⊢; exact vleq_R h hx2 hy2
    | false =>
      simp only [Bool.false_eq_true, if_false, Option.bind_eq_some_iff] at h ⊢
      obtain ⟨c2, hc2, h⟩ := h
      exact ⟨c2, vleq_R hc2 hx2 hy2, h⟩
  | [], _ :: _, _, _, _, _, h, _, _ => by simp [vleq] at h
  | [], [], _ :: _, _, _, _, h, _, _ => by simp [vleq] at h
  | _ :: _, [], _, _, _, _, h, _, _ => by simp [vleq] at h
  | _ :: _, _ :: _, [], _, _, _, h, _, _ => by simp [vleq] at h

theorem isAgg_R {x : V} {r : Value} (hc : cellOk x = true) (hr : R ι F x r) : isAggV r = isAggP x := by
  by_cases ha : ∃ l, x = .agg l
  · obtain ⟨l, rfl⟩ := ha
    simp only [R] at hr
    obtain ⟨cs, rfl, h⟩ := hr
    rfl
  · have h1 : cell1 x = true := by cases x <;> simp_all [cellOk]
    have h2 : isAggP x = false := by cases x <;> simp_all [isAggP]
    rw [h2]
    have := (cell1_R h1 hr).2
    cases r <;> simp_all [isAggV, Value.oneCell']

theorem veqa_R {neg ag : Bool} {sg : List Sg} {x y v : V} {rx ry : Value} (h : veqa neg ag sg x y = some v) (hx : R ι F x rx) (hy : R ι F y ry) :
    ∃ rv, grd (isAggV rx = ag ∧ isAggV ry = ag) (aeqa neg sg rx ry) = some rv ∧ R ι F v rv := by
  obtain ⟨⟨h1, h2, h3, h4⟩, h⟩ := grd_some h
  simp only [Option.bind_eq_some_iff, Option.some.injEq] at h
  obtain ⟨b, hb, rfl⟩ := h
  refine ⟨.bool (if neg then !b else b), ?_, by simp [R]⟩
  rw [isAgg_R h1 hx, isAgg_R h2 hy]
  simp only [grd, h3, h4, and_self, if_true, aeqa, vleq_R hb (cells_R h1 hx) (cells_R h2 hy), Option.bind_some]

theorem vpick_R {c a b v : V} {rc ra rb : Value} (h : vpick c a b = some v) (hc : R ι F c rc) (ha : R ι F a ra) (hb : R ι F b rb) : ∃ rv, apick rc ra rb = some rv ∧ R ι F v rv := by
  cases c <;> simp only [vpick, reduceCtorEq, Option.some.injEq] at h
  rename_i q
  simp only [R] at hc
  subst hc; subst h
  refine ⟨_, rfl, ?_⟩
  cases q <;> simpa

theorem vfa_R {off : Nat} {x v : V} {rx : Value} (h : vfa off x = some v) (hx : R ι F x rx) : ∃ rv, afa off rx = some rv ∧ R ι F v rv := by
  cases x <;> simp only [vfa, reduceCtorEq, Option.some.injEq] at h <;> subst h <;> simp only [R] at hx ⊢
  · obtain ⟨b', tot, sz, h1, rfl⟩ := hx
    exact ⟨_, rfl, b', tot, sz, h1, rfl⟩
  · obtain ⟨b, o, own, e, cs, ex, rfl, h2⟩ := hx
    exact ⟨_, rfl, b, o, own, e, cs, ex, by rw [Nat.add_assoc], h2⟩

theorem vfd_R {n : Option Nat} {off : Nat} {x v : V} {rx : Value} (h : vfd n off x = some v) (hx : R ι F x rx) : ∃ rv, afd n off rx = some rv ∧ R ι F v rv := by
  cases x <;> simp only [vfd, reduceCtorEq] at h
  simp only [R] at hx
  obtain ⟨cs, rfl, hx⟩ := hx
  simpa [afd] using vcellsAt_R' hx h

theorem vixA_R {len sz : Nat} {x i v : V} {rx ri : Value} (h : vixA len sz x i = some v) (hx : R ι F x rx) (hi : R ι F i ri) : ∃ rv, aixA len sz rx ri = some rv ∧ R ι F v rv := by
  cases x <;> cases i <;> simp only [vixA, reduceCtorEq] at h <;> obtain ⟨hb, h⟩ := grd_some h <;> cases h <;> simp only [R] at hx hi ⊢ <;> subst hi
  · obtain ⟨b', tot, sz, h1, rfl⟩ := hx
    exact ⟨_, by simp only [aixA, grd]; rw [if_pos hb], b', tot, sz, h1, rfl⟩
  · obtain ⟨b, o, own, e, cs, ex, rfl, h2⟩ := hx
    exact ⟨_, by simp only [aixA, grd]; rw [if_pos hb], b, o, own, e, cs, ex, by rw [Nat.add_assoc], h2⟩

theorem RL_bytes {ι : Iota} {F : H} : ∀ {l : List Int}, RL ι F (l.map (V.int .u8)) (l.map (Value.int .u8))
  | [] => by simp [RL]
  | a :: l => by simp only [List.map_cons, RL]; exact ⟨_, _, rfl, by simp [R], RL_bytes⟩
theorem RL_bytes_eq {ι : Iota} {F : H} : ∀ {l : List Int} {r : List Value}, RL ι F (l.map (V.int .u8)) r → r = l.map (Value.int .u8)
  | [], r, h => by simpa [RL] using h
  | a :: l, r, h => by
    simp only [List.map_cons, RL] at h
    obtain ⟨v, r', rfl, h1, h2⟩ := h
    simp only [R] at h1
    rw [h1, RL_bytes_eq h2]; rfl
theorem vixS_R {sz : Nat} {x i v : V} {rx ri : Value} (h : vixS sz x i = some v) (hx : R ι F x rx) (hi : R ι F i ri) : ∃ rv, aixS sz rx ri = some rv ∧ R ι F v rv := by
  cases x <;> cases i <;> simp only [vixS, reduceCtorEq] at h <;> obtain ⟨hb, h⟩ := grd_some h <;> cases h <;> simp only [R] at hx hi ⊢ <;> subst hi
  · obtain ⟨hx1, _⟩ | ⟨b, o, c, rfl, h2, h3⟩ := hx
    · omega
    · refine ⟨_, by simp only [aixS, grd]; rw [if_pos ⟨hb.1, hb.2.1⟩], ?_⟩
      rcases h3 with h3 | ⟨own, e, cs, ex, h3⟩
      · subst h3; simp at hb
      · exact ⟨b, o, own, e, cs, ex, rfl, h3⟩
  · obtain ⟨b', tot, sz2, off', c, h1, rfl, h2, h3⟩ := hx
    have : off' = _ := h2 (.inl (by omega))
    subst this
    exact ⟨_, by simp only [aixS, grd]; rw [if_pos hb], b', tot, sz2, h1, rfl⟩
  · obtain ⟨rfl, h⟩ := hx
    have hb1 := hb.1
    have hb2 := hb.2.1
    have hs := hb.2.2
    rcases h with ⟨h0, _⟩ | ⟨b, o, c, h1, h2, h3⟩
    · rw [h0] at hb2; simp at hb2; omega
    · refine ⟨_, by rw [h1]; simp only [aixS, grd]; rw [if_pos ⟨hb1, hb2⟩], ?_⟩
      rcases h3 with h0 | ⟨own, e, cs, ex, h3, h4, h5⟩
      · rw [h0] at hb2; simp at hb2; omega
      · rw [hs, Nat.mul_one]
        exact ⟨b, o, own, e, cs, ex, rfl, h3, by simpa using h4, by rw [List.length_map, h5]; exact RL_bytes⟩

theorem vixV_R {len sz : Nat} {n : Option Nat} {x i v : V} {rx ri : Value} (h : vixV len sz n x i = some v) (hx : R ι F x rx) (hi : R ι F i ri) : ∃ rv, aixV len sz n rx ri = some rv ∧ R ι F v rv := by
  cases x <;> cases i <;> simp only [vixV, reduceCtorEq] at h
  obtain ⟨hb, h⟩ := grd_some h
  simp only [R] at hx hi
  obtain ⟨cs, rfl, hx⟩ := hx
  subst hi
  obtain ⟨rv, h1, h2⟩ := vcellsAt_R' hx h
  exact ⟨rv, by simp only [aixV, grd]; rw [if_pos hb]; exact h1, h2⟩

theorem vixT_R {x i v : V} {rx ri : Value} (h : vixT x i = some v) (hx : R ι F x rx) (hi : R ι F i ri) : ∃ rv, aixT rx ri = some rv ∧ R ι F v rv := by
  cases x <;> cases i <;> simp only [vixT, reduceCtorEq] at h
  obtain ⟨hb, h⟩ := grd_some h
  cases h
  simp only [R] at hx hi
  subst hx; subst hi
  exact ⟨_, by simp only [aixT, grd]; rw [if_pos (by simpa [ByteArray.size] using hb)], by simp [R]⟩

theorem vext_R {i : Nat} {x v : V} {rx : Value} (h : vext i x = some v) (hx : R ι F x rx) : ∃ rv, aext i rx = some rv ∧ R ι F v rv := by
  cases x <;> simp only [vext, reduceCtorEq] at h
  simp only [R] at hx
  obtain ⟨cs, rfl, hx⟩ := hx
  obtain ⟨y, h1, h2⟩ := RL_get? hx h
  exact ⟨y, by simpa [aext] using h1, h2⟩

theorem vlenS_R {x v : V} {rx : Value} (h : vlenS x = some v) (hx : R ι F x rx) : ∃ rv, alenS rx = some rv ∧ R ι F v rv := by
  cases x <;> simp only [vlenS, reduceCtorEq, Option.some.injEq] at h <;> subst h <;> simp only [R] at hx ⊢
  · rcases hx with ⟨h1, h2, rfl | ⟨_, _, rfl⟩⟩ | ⟨b, o, c, rfl, h2⟩
    · subst h1; exact ⟨_, rfl, rfl⟩
    · subst h1; exact ⟨_, rfl, rfl⟩
    · exact ⟨_, rfl, rfl⟩
  · obtain ⟨b', tot, sz, off', c, h1, rfl, h2⟩ := hx; exact ⟨_, rfl, rfl⟩
  · subst hx; exact ⟨_, rfl, rfl⟩
  · obtain ⟨rfl, h⟩ := hx
    rcases h with ⟨rfl, rfl | ⟨_, _, rfl⟩⟩ | ⟨b, o, c, rfl, h2⟩
    · exact ⟨_, rfl, rfl⟩
    · exact ⟨_, rfl, rfl⟩
    · exact ⟨_, rfl, rfl⟩

theorem vlenT_R {x v : V} {rx : Value} (h : vlenT x = some v) (hx : R ι F x rx) : ∃ rv, alenT rx = some rv ∧ R ι F v rv := by
  cases x <;> simp only [vlenT, reduceCtorEq, Option.some.injEq] at h
  subst h; simp only [R] at hx ⊢; subst hx
  exact ⟨_, rfl, by simp [ByteArray.size]⟩

theorem vnilS_R {neg : Bool} {x v : V} {rx : Value} (h : vnilS neg x = some v) (hx : R ι F x rx) : ∃ rv, anilS neg rx = some rv ∧ R ι F v rv := by
  unfold vnilS at h
  split at h <;> first | (cases h; done) | skip
  all_goals
    simp only [Option.some.injEq] at h
    subst h
    simp only [R] at hx ⊢
  · subst hx; exact ⟨_, rfl, by cases neg <;> rfl⟩
  · obtain ⟨b', tot, sz, off', c, h1, rfl, h2⟩ := hx; exact ⟨_, rfl, by cases neg <;> rfl⟩
  · rcases hx with ⟨h1, h2, _⟩ | ⟨b, o, c, rfl, h2⟩
    · omega
    · exact ⟨_, rfl, by cases neg <;> rfl⟩

def OR (ι : Iota) (F : H) : Option V → Option Value → Prop
  | none, none => True
  | some v, some r => R ι F v r
  | _, _ => False
theorem opt_R {t : Tp} {u : T} (h : ∀ k, R ι F (t k) (u k)) : ∀ (o : Option Operand), OR ι F (o.map (pev t)) (o.map (ev u))
  | none => trivial
  | some x => pev_R h x
theorem vbnd_R {d : Nat} {o : Option V} {r : Option Value} {a : Int} (h : vbnd d o = some a) (ho : OR ι F o r) : abnd d r = some a := by
  cases o <;> cases r <;> simp only [OR] at ho
  · exact h
  · rename_i v r
    cases v <;> simp only [vbnd, reduceCtorEq, Option.some.injEq] at h
    simp only [R] at ho; subst ho; subst h; rfl

theorem vslS_R {sz : Nat} {x v : V} {lo hi : Option V} {rx : Value} {rlo rhi : Option Value} (h : vslS sz x lo hi = some v) (hx : R ι F x rx) (hlo : OR ι F lo rlo) (hhi : OR ι F hi rhi) :
    ∃ rv, aslS sz rx rlo rhi = some rv ∧ R ι F v rv := by
  cases x <;> simp only [vslS, reduceCtorEq, Option.bind_eq_some_iff] at h <;> obtain ⟨a, ha, m, hm, h⟩ := h <;> obtain ⟨hc, h⟩ := grd_some h <;> cases h
  · rename_i n l
    have ha' := vbnd_R ha hlo
    have hm' := vbnd_R hm hhi
    simp only [R] at hx
    rcases hx with ⟨h1, _⟩ | ⟨b, o, c, rfl, h2, h3⟩
    · omega
    · refine ⟨_, by simp only [aslS, ha', hm', Option.bind_some, grd]; rw [if_pos (by omega)], ?_⟩
      simp only [R]
      refine .inr ⟨b, _, _, rfl, by omega, ?_⟩
      by_cases he : (l.drop (a.toNat * sz)).take ((m.toNat - a.toNat) * sz) = []
      · exact .inl he
      · right
        have hne : m.toNat - a.toNat ≠ 0 := fun h0 => he (by rw [h0]; simp)
        rcases h3 with h3 | ⟨own, e, cs, ex, h3, h4, h5⟩
        · subst h3; simp at he
        · have hca : ¬ (c : Int) = a := by omega
          rw [if_neg hca]
          have hlen : ((l.drop (a.toNat * sz)).take ((m.toNat - a.toNat) * sz)).length ≤ l.length - a.toNat * sz := by simp; omega
          have hal : a.toNat * sz ≤ l.length := by
            have : a.toNat * sz ≤ n * sz := Nat.mul_le_mul_right _ (by omega)
            omega
          refine ⟨own, e, cs, ex, h3, by omega, ?_⟩
          have h6 := RL_take ((m.toNat - a.toNat) * sz) (RL_drop (a.toNat * sz) h5)
          rw [List.drop_take, List.take_take, List.drop_drop] at h6
          rw [List.length_take, List.length_drop]
          exact h6
  · rename_i b o n
    have ha' := vbnd_R ha hlo
    have hm' := vbnd_R hm hhi
    simp only [R] at hx
    obtain ⟨b', tot, sz2, off', c, h1, rfl, h2, h3, h4, h5⟩ := hx
    refine ⟨_, by simp only [aslS, ha', hm', Option.bind_some, grd]; rw [if_pos (by omega)], ?_⟩
    simp only [R]
    refine ⟨b', tot, sz2, _, _, h1, rfl, ?_, by omega, by omega, ?_⟩
    · intro hn
      by_cases hn0 : m.toNat - a.toNat = 0
      · have ho : o + a.toNat * sz = 0 := by rcases hn with hn | hn <;> omega
        have ho1 : o = 0 := by omega
        have ho2 : a.toNat * sz = 0 := by omega
        have : off' = o := h2 (.inr ho1)
        subst this
        split <;> omega
      · have : off' = o := h2 (.inl (by omega))
        subst this
        rw [if_neg (by omega)]
    · intro ho
      have ho1 : o = 0 := by omega
      have ho2 : a.toNat * sz = 0 := by omega
      have ha0 : a = 0 := by
        rcases hc.2.2.2 with h | h
        · have := Nat.mul_eq_zero.1 ho2; omega
        · exact h
      subst ha0
      simpa using h5 ho1
  · have ha' := vbnd_R ha hlo
    have hm' := vbnd_R hm hhi
    simp only [R] at hx
    subst hx
    obtain ⟨rfl, rfl⟩ := hc
    exact ⟨.slice none 0 0, by simp [aslS, ha', hm', grd], by simp [R]⟩

theorem vslT_R {x v : V} {lo hi : Option V} {rx : Value} {rlo rhi : Option Value} (h : vslT x lo hi = some v) (hx : R ι F x rx) (hlo : OR ι F lo rlo) (hhi : OR ι F hi rhi) :
    ∃ rv, aslT rx rlo rhi = some rv ∧ R ι F v rv := by
  cases x <;> simp only [vslT, reduceCtorEq, Option.bind_eq_some_iff] at h
  obtain ⟨a, ha, m, hm, h⟩ := h
  obtain ⟨hc, h⟩ := grd_some h
  cases h
  rename_i s
  simp only [R] at hx
  subst hx
  have ha' := vbnd_R ha hlo
  have hm' := vbnd_R hm hhi
  have hs : (⟨s.toArray⟩ : ByteArray).size = s.length := by simp [ByteArray.size]
  refine ⟨_, by simp only [aslT, hs, ha', hm', Option.bind_some, grd]; rw [if_pos (by omega)], ?_⟩
  simp only [R]
  congr 1
  have : ∀ (x y : ByteArray), x.data = y.data → x = y := fun x y h => by cases x; cases y; simp at h; rw [h]
  apply this
  rw [ByteArray.data_extract]
  apply Array.ext'
  simp [List.extract_eq_take_drop]

theorem vbytes_R : ∀ {l : List V} {s : List UInt8} {r : List Value}, vbytes l = some s → RL ι F l r → bytesOf r = some s
  | [], s, r, h, hr => by simp only [RL] at hr; subst hr; simpa [vbytes, bytesOf] using h
  | a :: l, s, r, h, hr => by
    simp only [RL] at hr; obtain ⟨v, r', rfl, h1, h2⟩ := hr
    unfold vbytes at h
    split at h
    · simp_all
    · rename_i n r2 heq
      simp only [List.cons.injEq] at heq
      obtain ⟨rfl, rfl⟩ := heq
      simp only [Option.bind_eq_some_iff, Option.some.injEq] at h
      obtain ⟨q, hq, rfl⟩ := h
      simp only [R] at h1
      subst h1
      simp [bytesOf, vbytes_R hq h2]
    · cases h

theorem vb2s_R {h : Hp} {D : Nat → H} (hh : Hold ι F h D g) {x v : V} {rx : Value} (hv : vb2s h x = some v) (hx : R ι F x rx) : ∃ rv, ab2s g rx = some rv ∧ R ι F v rv := by
  cases x <;> simp only [vb2s, reduceCtorEq] at hv
  · rename_i n l
    obtain ⟨hc, hv⟩ := grd_some hv
    simp only [Option.bind_eq_some_iff, Option.some.injEq] at hv
    obtain ⟨s, hs, rfl⟩ := hv
    simp only [R] at hx
    rcases hx with ⟨h1, _⟩ | ⟨b, o, c, rfl, h2, h3⟩
    · omega
    · rcases h3 with h3 | ⟨own, e, cs, ex, h3, h4, h5⟩
      · subst h3; simp at hc; omega
      · refine ⟨.string ⟨s.toArray⟩, ?_, by simp [R]⟩
        simp only [ab2s, hh.leF _ _ h3, grd]
        rw [if_pos (by omega)]
        have h6 := RL_take n h5
        rw [List.take_take, Nat.min_eq_left hc.2] at h6
        rw [vbytes_R hs h6]; rfl
  · rename_i b o n
    cases hb : h b with
    | free => simp [hb] at hv
    | dead => simp [hb] at hv
    | row e sz cs =>
      simp only [hb] at hv
      obtain ⟨hc, hv⟩ := grd_some hv
      simp only [Option.bind_eq_some_iff, Option.some.injEq] at hv
      obtain ⟨s, hs, rfl⟩ := hv
      simp only [R] at hx
      obtain ⟨b', tot, sz2, off', c, h1, rfl, h2, h3⟩ := hx
      obtain ⟨b2, rcs, ex, d', q1, q2, q3, q4, q5, q6, q7⟩ := hh.blk hb
      rw [h1] at q1; cases q1
      refine ⟨.string ⟨s.toArray⟩, ?_, by simp [R]⟩
      simp only [ab2s, q6, grd]
      by_cases hn : n = 0
      · subst hn
        simp only [List.take_zero, vbytes, Option.some.injEq] at hs
        subst hs
        have : off' = o := h2 (.inr (by omega))
        rw [if_pos (by omega)]; simp [bytesOf]
      · have : off' = o := h2 (.inl hn)
        subst this
        rw [if_pos (by omega)]
        obtain ⟨d1, h6, h7⟩ := OL_seg off' n q5
        rw [List.drop_take, List.take_take, Nat.min_eq_left (by omega)] at h6
        have hp : noOwn ((cs.drop off').take n) = true := by
          have : ∀ (l : List V) (s : List UInt8), vbytes l = some s → noOwn l = true := by
            intro l
            induction l with
            | nil => intro s _; rfl
            | cons a l ih =>
              intro s h
              unfold vbytes at h
              split at h
              · simp_all
              · rename_i heq
                simp only [List.cons.injEq] at heq
                obtain ⟨rfl, rfl⟩ := heq
                simp only [Option.bind_eq_some_iff] at h
                obtain ⟨q, hq, _⟩ := h
                have := ih q hq
                simp only [noOwn, List.all_cons, plain1, Bool.true_and] at this ⊢
                exact this
              · cases h
          exact this _ _ hs
        rw [vbytes_R hs (OL_plain hp h6).2]; rfl
  · cases hv
    simp only [R] at hx
    subst hx
    exact ⟨_, rfl, by simp only [R]; rfl⟩

theorem vmkf_R {fn : Fn} {a b : List V} {ra rb : List Value} {v : V} (h : vmkf fn a b = some v) (ha : RL ι F a ra) (hb : RL ι F b rb) : R ι F v (.func fn ra.toArray rb.toArray) := by
  unfold vmkf at h
  split at h
  · cases h
    simp only [RL] at ha
    subst ha
    simp only [R]
    exact ⟨rb, rfl, hb⟩
  · cases h

theorem vdet_sound {h : Hp} {D : Nat → H} (hh : Hold ι F h D g) {t : Tp} {u : T} (ht : ∀ k, R ι F (t k) (u k)) {op : AOp} {v : V} (hv : vdet h (pev t) op = some v) :
    op.class ≤ 1 ∧ ∃ rv, adet g (ev u) op = some rv ∧ R ι F v rv := by
  have p := pev_R ht
  cases op <;> simp only [vdet, reduceCtorEq] at hv <;> refine ⟨by simp [AOp.class], ?_⟩ <;> simp only [adet]
  case mv x => cases hv; exact ⟨_, rfl, p x⟩
  case pick c a b => exact vpick_R hv (p c) (p a) (p b)
  case bld z ps =>
    simp only [Option.bind_eq_some_iff, Option.some.injEq] at hv
    obtain ⟨cs, hcs, rfl⟩ := hv
    obtain ⟨rc, h1, h2⟩ := vfill_R (parts_R ht ps) (ofVals_R z) hcs
    exact ⟨.agg rc.toArray, by simp [abld, h1], by simp only [R]; exact ⟨rc, rfl, h2⟩⟩
  case bin o x y => exact lift2_R hv (p x) (p y)
  case eqa neg ag sg x y => exact veqa_R hv (p x) (p y)
  case un o x => exact lift1_R hv (p x)
  case cvi k x => exact lift1_R hv (p x)
  case slS sz x lo hi => exact vslS_R hv (p x) (opt_R ht lo) (opt_R ht hi)
  case slT x lo hi => exact vslT_R hv (p x) (opt_R ht lo) (opt_R ht hi)
  case fa off x => exact vfa_R hv (p x)
  case fd n off x => exact vfd_R hv (p x)
  case ixA len sz x i => exact vixA_R hv (p x) (p i)
  case ixS sz x i => exact vixS_R hv (p x) (p i)
  case ixV len sz n x i => exact vixV_R hv (p x) (p i)
  case ixT x i => exact vixT_R hv (p x) (p i)
  case ext x i => exact vext_R hv (p x)
  case lenS x => exact vlenS_R hv (p x)
  case lenT x => exact vlenT_R hv (p x)
  case nilS neg x => exact vnilS_R hv (p x)
  case max x y => exact lift2_R hv (p x) (p y)
  case min x y => exact lift2_R hv (p x) (p y)
  case mkf fn a b => exact ⟨_, rfl, vmkf_R hv (pevs_R ht a) (pevs_R ht b)⟩
  case b2s x => exact vb2s_R hh hv (p x)
  case cvs x => exact lift1_R hv (p x)
end
end Go.Proofs.YtjklebickfcddaaDoor.Sep

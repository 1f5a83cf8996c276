/- The code's transformer is sound; a function's contract out of its body. -/
import Derived.Test.YtjklebickfcddaaDoorSepJ
namespace Go.Proofs.YtjklebickfcddaaDoor.Sep
open Go.RowKit
set_option linter.unusedVariables false
set_option linter.unusedSimpArgs false
set_option linter.constructorNameAsVariable false

section
variable {P : Program} {B : Bd} {w0 : World} {N : Nat}

theorem mapM_get {α β : Type} {f : α → Option β} : ∀ {l : List α} {r : List β}, l.mapM f = some r → r.length = l.length ∧ ∀ (i : Nat) (y : β), r[i]? = some y → ∃ x, l[i]? = some x ∧ f x = some y
  | [], r, h => by simp at h; subst h; simp
  | x :: l, r, h => by
    rw [List.mapM_cons] at h
    cases hf : f x with
    | none => simp [hf] at h
    | some y =>
      cases hm : l.mapM f with
      | none => simp [hf, hm] at h
      | some r' =>
        simp [hf, hm] at h
        subst h
        obtain ⟨h1, h2⟩ := mapM_get hm
        refine ⟨by simp [h1], fun i z hi => ?_⟩
        cases i with
        | zero => simp at hi; subst hi; exact ⟨x, rfl, hf⟩
        | succ i => simp at hi ⊢; exact h2 i z hi

/-- How an operation was compiled. -/
structure Rel0 (P : Program) (N : Nat) (ops : Array Oper) (o : Oper) (x : AOper) : Prop where
  op : compOp P o = some x.op
  dst : x.dst = o.dst
  guard : compGuard ops o = some x.guard
  lt : ∀ k, x.dst = some k → k < N

theorem compOper_rel {ops : Array Oper} {o : Oper} {x : AOper} (h : compOper P N ops o = some x) : Rel0 P N ops o x := by
  unfold compOper at h
  simp only [Option.bind_eq_some_iff] at h
  obtain ⟨op, hop, g, hg, h⟩ := h
  split at h
  · rename_i hlt
    simp only [Option.some.injEq] at h
    subst h
    refine ⟨hop, rfl, hg, fun k hk => ?_⟩
    simp only at hk
    rw [hk] at hlt
    simpa using hlt
  · cases h

theorem retell {ops : Array Oper} {o : Oper} {x : AOper} (h : Rel0 P N ops o x) (l1 l2 : List AOper) (bef : List Nat) (i j : Nat) :
    Rel P N ops o (avoiding l2 bef j (based l1 bef i (pureCall x))) := by
  obtain ⟨dst, op, g⟩ := x
  have hop := h.op
  simp only at hop
  have hd : (avoiding l2 bef j (based l1 bef i (pureCall ⟨dst, op, g⟩))).dst = dst ∧ (avoiding l2 bef j (based l1 bef i (pureCall ⟨dst, op, g⟩))).guard = g ∧
      CompAs P o (avoiding l2 bef j (based l1 bef i (pureCall ⟨dst, op, g⟩))).op := by
    cases op <;> try (exact ⟨rfl, rfl, .inl hop⟩)
    case call f l => exact ⟨rfl, rfl, .inr (.inl ⟨f, l, rfl, hop⟩)⟩
    case ld n x =>
      have hb : based l1 bef i (pureCall ⟨dst, .ld n x, g⟩) = ⟨dst, .ldb (baseOf l1 20 x) n x, g⟩ ∨ based l1 bef i (pureCall ⟨dst, .ld n x, g⟩) = ⟨dst, .ld n x, g⟩ := by
        simp only [pureCall, based]
        split
        · exact .inl rfl
        · exact .inr rfl
      rcases hb with hb | hb <;> rw [hb]
      · exact ⟨rfl, rfl, .inr (.inr (.inr (.inl ⟨_, n, x, rfl, hop⟩)))⟩
      · exact ⟨rfl, rfl, .inl hop⟩
    case app e sz by' z av s x => exact ⟨rfl, rfl, .inr (.inr (.inl ⟨e, sz, by', z, _, av, s, x, rfl, hop⟩))⟩
    case st n a x =>
      simp only [pureCall, based, avoiding]
      split
      · exact ⟨rfl, rfl, .inl hop⟩
      · exact ⟨rfl, rfl, .inr (.inr (.inr (.inr ⟨_, n, a, x, rfl, hop⟩)))⟩
  exact ⟨hd.2.2, hd.1.trans h.dst, by rw [hd.2.1]; exact h.guard, fun k hk => h.lt k (by rw [hd.1] at hk; exact hk)⟩

theorem retellM {ops : Array Oper} {o : Oper} {x : AOper} (h : Rel0 P N ops o x) (m : Bool) (l0 l1 l2 : List AOper) (bef : List Nat) (k i j : Nat) :
    Rel P N ops o (avoiding l2 bef j (based l1 bef i (callAs m l0 bef k x))) := by
  have hp := retell h l1 l2 bef i j
  unfold callAs
  split
  · obtain ⟨dst, op, g⟩ := x
    cases op <;> try exact hp
    case call f l => exact ⟨.inl h.op, h.dst, h.guard, h.lt⟩
  · exact hp

theorem seq_sound {ops : Array Oper} {l : List AOper} (hl : Told P N ops l) (hll : l.length = ops.size) {K : T → H → Prop} {Q : Exit → Act → World → Prop} (hQ : ∀ a w, St B w0 N K a w → Q .normal a w) :
    ∀ (n k : Nat), k + n = ops.size → ∀ {t : T} {h : H} {a : Act} {w : World}, aops P (l.drop k) K t h → TR N t a → Sat B w0 w h → wpOps P ops Q (List.range' k n) a w
  | 0, k, hk, t, h, a, w, hK, ht, hw => by
    have : l.drop k = [] := List.drop_eq_nil_of_le (by omega)
    rw [this] at hK
    exact hQ _ _ ⟨t, h, ht, hw, hK⟩
  | n + 1, k, hk, t, h, a, w, hK, ht, hw => by
    have hlt : k < l.length := by omega
    rw [List.drop_eq_getElem_cons hlt] at hK
    obtain ⟨o, ho, hr⟩ := hl k l[k] (List.getElem?_eq_getElem hlt)
    rw [List.range'_succ, wpOps_cons]
    refine wpOp_mono ?_ (step_sound ho hr hK ht hw)
    rintro a' w' ⟨t', h', ht', hw', hK'⟩
    exact seq_sound hl hll hQ n (k + 1) (by omega) hK' ht' hw'

theorem nodup_len : ∀ (n : Nat) (c : List Nat), c.Nodup → (∀ x ∈ c, x < n) → c.length ≤ n
  | 0, c, _, h => by
    cases c with
    | nil => simp
    | cons x c => have := h x (List.mem_cons_self ..); omega
  | n + 1, c, hn, h => by
    have h1 := nodup_len n (c.erase n) (hn.erase n) (fun x hx => by
      have hx1 := h x (List.mem_of_mem_erase hx)
      have hx2 : x ≠ n := by
        rintro rfl
        exact (List.Nodup.mem_erase_iff hn).1 hx |>.1 rfl
      omega)
    have h2 : c.length ≤ (c.erase n).length + 1 := by
      rw [List.length_erase]; split <;> omega
    omega

theorem reg_sound {id : Nat} {ops : Array Oper} {draw : Bool} {l : List AOper} (hc : compReg P N ops draw = some l) {K : T → H → Prop} {Q : Exit → Act → World → Prop} (hQ : ∀ a w, St B w0 N K a w → Q .normal a w)
    {t : T} {h : H} (hK : aops P l K t h) {a : Act} {w : World} (ht : TR N t a) (hw : Sat B w0 w h) : (Code.region id ops draw).wp P Q a w := by
  unfold compReg at hc
  cases hm : ops.toList.mapM (compOper P N ops) with
  | none => simp [hm] at hc
  | some l0 =>
    simp only [hm, Option.bind_some] at hc
    obtain ⟨hlen, hget⟩ := mapM_get hm
    have hl0 : ∀ (i : Nat) (x : AOper), l0[i]? = some x → ∃ o, ops[i]? = some o ∧ Rel0 P N ops o x := fun i x hx => by
      obtain ⟨o, ho, hc⟩ := hget i x hx
      exact ⟨o, by simpa using ho, compOper_rel hc⟩
    cases draw with
    | false =>
      simp only [Bool.false_eq_true, if_false, Option.some.injEq] at hc
      subst hc
      refine wp_region ?_
      rw [List.range_eq_range']
      refine seq_sound (B := B) (w0 := w0) (N := N) (l := l0) (fun i x hx => ?_) (by simpa using hlen) hQ ops.size 0 (by omega) (by simpa using hK) ht hw
      obtain ⟨o, ho, hr⟩ := hl0 i x hx
      exact ⟨o, ho, .inl hr.op, hr.dst, hr.guard, hr.lt⟩
    | true =>
      simp only [if_true] at hc
      obtain ⟨m, hc⟩ : ∃ m, compRegD P ops l0 m = some l := by
        cases hd : compRegD P ops l0 true with
        | some r => rw [hd] at hc; exact ⟨true, by rw [hd]; exact hc⟩
        | none => rw [hd] at hc; exact ⟨false, hc⟩
      unfold compRegD at hc
      simp only at hc
      split at hc
      · rename_i hcond
        obtain ⟨hfol, hclen, hclt, hnd, htu, hbe, hto⟩ := hcond
        have hl : Told P N ops (retold m l0 (Region.before ops).toList) := fun i y hy => by
          unfold retold at hy
          simp only [List.getElem?_map, List.getElem?_zipIdx, Option.map_map, Option.map_eq_some_iff] at hy
          obtain ⟨x, hx, rfl⟩ := hy
          obtain ⟨o, ho, hr⟩ := hl0 i x hx
          exact ⟨o, ho, retellM hr _ _ _ _ _ _ _ _⟩
        have hll : (retold m l0 (Region.before ops).toList).length = ops.size := by simp [retold, hlen]
        generalize retold m l0 (Region.before ops).toList = lr at *
        generalize hcdef : canon lr (Region.before ops).toList ops.size (List.range ops.size) [] = c at *
        obtain ⟨_, hcget⟩ := mapM_get hc
        have hpick : pickAll lr c = l := by
          have : ∀ (c : List Nat) (l : List AOper), c.mapM (lr[·]?) = some l → pickAll lr c = l := by
            intro c
            induction c with
            | nil => intro l h; simp at h; simp [pickAll, h]
            | cons i c ih =>
              intro l h
              rw [List.mapM_cons] at h
              cases hi : lr[i]? with
              | none => simp [hi] at h
              | some x =>
                cases hr : c.mapM (lr[·]?) with
                | none => simp [hi, hr] at h
                | some r =>
                  simp [hi, hr] at h
                  subst h
                  have := ih r hr
                  simp only [pickAll] at this ⊢
                  simp [hi, this]
          exact this c l hc
        rw [← hpick] at hK
        refine wp_region_any hfol ?_
        have hclt' : ∀ i ∈ c, i < ops.size := fun i hi => by simpa using List.all_eq_true.1 hclt i hi
        have hall : ∀ i, i < ops.size → i ∈ c := fun i hi => by
          -- as many different numbers below the size as the size
          refine Classical.byContradiction fun hni => ?_
          have := nodup_len ops.size (i :: c) (List.nodup_cons.2 ⟨hni, hnd⟩) (fun x hx => by
            rcases List.mem_cons.1 hx with rfl | hx
            · exact hi
            · exact hclt' x hx)
          simp only [List.length_cons] at this
          omega
        refine any_sound hl hll hbe hQ ops.size c (Array.replicate ops.size false) t h a _ (by omega) hnd (by simp) (fun i hi => ?_) hclt' (fun j i hj hjn _ _ => absurd (hall j hj) hjn) htu hto hK ht hw.drew
        simp [hall i hi, hi]
      · cases hc

/-- What the exits of a piece of code owe. -/
def Post (B : Bd) (w0 : World) (N : Nat) (n : T → H → Prop) (e : Nat → T → H → Prop) (r : T → H → Prop) : Exit → Act → World → Prop
  | .normal, a, w => St B w0 N n a w
  | .exit i, a, w => St B w0 N (e i) a w
  | .ret, a, w => St B w0 N r a w
  | _, _, _ => False

theorem code_sound : ∀ (c : Code) {ac : ACode}, compC P N c = some ac → ∀ {n : T → H → Prop} {e : Nat → T → H → Prop} {r : T → H → Prop} {t : T} {h : H}, awp P ac n e r t h →
    ∀ {a : Act} {w : World}, TR N t a → Sat B w0 w h → c.wp P (Post B w0 N n e r) a w
  | .skip, ac, hc, n, e, r, t, h, hK, a, w, ht, hw => by
    simp only [compC, Option.some.injEq] at hc; subst hc
    exact wp_skip ⟨t, h, ht, hw, hK⟩
  | .label l, ac, hc, n, e, r, t, h, hK, a, w, ht, hw => by
    simp only [compC, Option.some.injEq] at hc; subst hc
    exact wp_label ⟨t, h, ht, hw, hK⟩
  | .region id ops draw, ac, hc, n, e, r, t, h, hK, a, w, ht, hw => by
    simp only [compC, Option.map_eq_some_iff] at hc
    obtain ⟨l, hl, rfl⟩ := hc
    exact reg_sound hl (fun a w hs => hs) hK ht hw
  | .seq x y, ac, hc, n, e, r, t, h, hK, a, w, ht, hw => by
    simp only [compC, Option.bind_eq_some_iff, Option.map_eq_some_iff] at hc
    obtain ⟨x', hx, y', hy, rfl⟩ := hc
    refine wp_seq (wp_mono (code_sound x hx hK ht hw) ?_)
    intro ex a' w' hp
    cases ex with
    | normal => obtain ⟨t', h', ht', hw', hK'⟩ := hp; exact code_sound y hy hK' ht' hw'
    | exit i => exact hp
    | ret => exact hp
    | goto l => exact hp
    | panic c => exact hp
    | outgrown => exact hp
  | .cond c x y, ac, hc, n, e, r, t, h, hK, a, w, ht, hw => by
    simp only [compC, Option.bind_eq_some_iff, Option.map_eq_some_iff] at hc
    obtain ⟨x', hx, y', hy, rfl⟩ := hc
    simp only [awp] at hK
    split at hK
    · rename_i v hv
      refine wp_cond_split (t := v) (by rw [ht.eval]; exact hv) (fun hv => ?_) (fun hv => ?_)
      · exact code_sound x hx (hK.1 hv) ht hw
      · exact code_sound y hy (hK.2 hv) ht hw
    · exact hK.elim
  | .block id b, ac, hc, n, e, r, t, h, hK, a, w, ht, hw => by
    simp only [compC, Option.map_eq_some_iff] at hc
    obtain ⟨b', hb, rfl⟩ := hc
    refine wp_block (wp_mono (code_sound b hb hK ht hw) ?_)
    intro ex a' w' hp
    cases ex with
    | exit i =>
      obtain ⟨t', h', ht', hw', hK'⟩ := hp
      simp only [Exit.inBlock]
      by_cases hi : i = id
      · rw [if_pos hi] at hK' ⊢; exact ⟨t', h', ht', hw', hK'⟩
      · rw [if_neg hi] at hK' ⊢; exact ⟨t', h', ht', hw', hK'⟩
    | _ => exact hp
  | .loop b, ac, hc, n, e, r, t, h, hK, a, w, ht, hw => by
    simp only [compC, Option.map_eq_some_iff] at hc
    obtain ⟨b', hb, rfl⟩ := hc
    obtain ⟨I, k, hI, hround⟩ := hK
    refine wp_loop_ghost (fun k a w => St B w0 N (I k) a w) k ⟨t, h, ht, hw, hI⟩ ?_
    rintro k a w ⟨t, h, ht, hw, hI⟩
    refine wp_mono (code_sound b hb (hround k t h hI) ht hw) ?_
    intro ex a' w' hp
    cases ex with
    | normal => obtain ⟨t', h', ht', hw', k', hk', hI'⟩ := hp; exact ⟨k', hk', t', h', ht', hw', hI'⟩
    | _ => exact hp
  | .exit id, ac, hc, n, e, r, t, h, hK, a, w, ht, hw => by
    simp only [compC, Option.some.injEq] at hc; subst hc
    exact wp_exit ⟨t, h, ht, hw, hK⟩
  | .ret, ac, hc, n, e, r, t, h, hK, a, w, ht, hw => by
    simp only [compC, Option.some.injEq] at hc; subst hc
    exact wp_ret ⟨t, h, ht, hw, hK⟩
  | .rangeFunc .., ac, hc, _, _, _, _, _, _, _, _, _, _ | .scope .., ac, hc, _, _, _, _, _, _, _, _, _, _ | .goto .., ac, hc, _, _, _, _, _, _, _, _, _, _ | .refuse .., ac, hc, _, _, _, _, _, _, _, _, _, _ => by cases hc

end
end Go.Proofs.YtjklebickfcddaaDoor.Sep

/- From what comes in, read as data, to trees; a law's row. -/
import Derived.Test.YtjklebickfcddaaDoorSepZ
import Derived.Carry
import Derived.Handed
import Derived.OpenShut
import Derived.ProofKit
namespace Go.Proofs.YtjklebickfcddaaDoor.Sep
open Go.RowKit Go.ChangeShapes Go.WideShapes
set_option linter.unusedVariables false
set_option linter.unusedSimpArgs false
set_option linter.constructorNameAsVariable false

inductive Ty where
  | bool
  | int (k : IntKind)
  | str
  | sl (e : Ty)
  | st (l : List Ty)
  | arr (n : Nat) (e : Ty)

mutual
def Ty.sz : Ty → Nat
  | .st l => Ty.szs l
  | .arr n e => n * e.sz
  | .bool => 1
  | .int _ => 1
  | .str => 1
  | .sl _ => 1
def Ty.szs : List Ty → Nat
  | [] => 0
  | t :: l => t.sz + Ty.szs l
end

def tyFs (P : Program) (sub : TypeId → Option Ty) : List Field → Nat → Option (List Ty)
  | [], _ => some []
  | f :: r, off => if f.offset = off then (sub f.type).bind fun T => if P.cellsOf f.type = T.sz then (tyFs P sub r (off + T.sz)).map (T :: ·) else none else none

def tyOf (P : Program) : Nat → TypeId → Option Ty
  | 0, _ => none
  | d + 1, t => match P.underlying t with
    | some .bool => some .bool
    | some (.int k) => some (.int k)
    | some .string => some .str
    | some (.slice e) => (tyOf P d e).bind fun T => if P.cellsOf e = T.sz ∧ 0 < T.sz then some (.sl T) else none
    | some (.struct fs) => (tyFs P (tyOf P d) fs.toList 0).bind fun l => if P.cellsOf t = Ty.szs l then some (.st l) else none
    | some (.array n e) => (tyOf P d e).bind fun T => if P.cellsOf e = T.sz ∧ P.cellsOf t = n * T.sz then some (.arr n T) else none
    | _ => none

mutual
/-- Cells of a type. -/
def Ty.fits : Ty → List V → Prop
  | .bool, l => ∃ b, l = [.bool b]
  | .int k, l => ∃ n, l = [.int k n] ∧ k.min ≤ n ∧ n ≤ k.max
  | .str, l => ∃ s, l = [.str s] ∧ s.length ≤ maxLen
  | .sl e, l => ∃ xs : List (List V), l = [.sl xs.length xs.flatten] ∧ xs.length ≤ maxLen ∧ ∀ x ∈ xs, e.fits x
  | .st ts, l => Ty.fitss ts l
  | .arr n e, l => ∃ xs : List (List V), xs.length = n ∧ l = xs.flatten ∧ ∀ x ∈ xs, e.fits x
def Ty.fitss : List Ty → List V → Prop
  | [], l => l = []
  | t :: ts, l => ∃ a b, l = a ++ b ∧ t.fits a ∧ Ty.fitss ts b
end
def Ty.isAgg : Ty → Bool
  | .st _ | .arr .. => true
  | _ => false
/-- A value of a type. -/
def Ty.ok (T : Ty) (v : V) : Prop := if T.isAgg = true then ∃ l, v = .agg l ∧ T.fits l else T.fits [v]
def Ty.oks : List Ty → List V → Prop
  | [], vs => vs = []
  | T :: Ts, vs => ∃ v r, vs = v :: r ∧ T.ok v ∧ Ty.oks Ts r

/-- All of a world's memory, as it lies. -/
def whole (w : World) : H := fun b => match w.heap[b]? with
  | some (.cells c e _) => some (.row false e c.toList 0)
  | _ => none

theorem whole_cell {w : World} {a : Addr} {v : Value} (h : w.cell? a = some v) : a.spot = none ∧ ∃ c e, whole w a.block = some (.row false e c 0) ∧ c[a.off]? = some v := by
  unfold World.cell? at h
  split at h
  · rename_i c e fr hb
    split at h
    · cases h
    · rename_i hs
      refine ⟨by simpa using hs, c.toList, e, by simp [whole, hb], by simpa using h⟩
  · cases h

theorem cells_seg {w : World} {base : Nat} {b o : Nat} {c : List Value} {e : TypeId} (hb : whole w b = some (.row false e c 0)) {n : Nat} {r : List Value} (h : w.cells? base ⟨b, o, none⟩ n = some r) :
    r.length = n ∧ r = (c.drop o).take n ∧ (n ≠ 0 → o + n ≤ c.length) := by
  unfold World.cells? at h
  split at h
  · obtain ⟨hl, hg⟩ := mapM_get h
    rw [List.length_range] at hl
    have key : ∀ i, i < n → r[i]? = c[o + i]? := fun i hi => by
      have hr : r[i]? = some (r[i]'(by omega)) := List.getElem?_eq_getElem (by omega)
      obtain ⟨x, hx, hc⟩ := hg i _ hr
      rw [List.getElem?_range hi] at hx
      cases hx
      rw [addr_add] at hc
      obtain ⟨_, c', e', h1, h2⟩ := whole_cell hc
      simp only at h1 h2
      rw [hb] at h1
      cases h1
      rw [hr, h2]
    refine ⟨hl, ?_, fun hn => ?_⟩
    · apply List.ext_getElem?
      intro i
      rw [List.getElem?_take]
      split
      · rename_i hi; rw [List.getElem?_drop]; exact key i hi
      · rw [List.getElem?_eq_none (by omega)]
    · have := key (n - 1) (by omega)
      have hr : r[n - 1]? = some (r[n - 1]'(by omega)) := List.getElem?_eq_getElem (by omega)
      rw [hr] at this
      rcases Nat.lt_or_ge (o + (n - 1)) c.length with h | h
      · omega
      · rw [List.getElem?_eq_none h] at this; cases this
  · cases h

section
variable {HH : Type} {enc : TypeId × Value → HH} {P : Program} {w : World}

/-- Elements side by side. -/
theorem segs {F : H} {T : Ty} {sz : Nat} {cs : List Value} : ∀ (n : Nat), n * sz ≤ cs.length → (∀ i, i < n → ∃ l, T.fits l ∧ RL ι0 F l ((cs.drop (i * sz)).take sz)) →
    ∃ xs : List (List V), xs.length = n ∧ (∀ x ∈ xs, T.fits x) ∧ RL ι0 F xs.flatten (cs.take (n * sz))
  | 0, _, _ => ⟨[], rfl, by simp, by simp [RL]⟩
  | n + 1, hn, h => by
    rw [Nat.add_mul, Nat.one_mul] at hn
    obtain ⟨xs, h1, h2, h3⟩ := segs n (by omega) (fun i hi => h i (by omega))
    obtain ⟨l, h4, h5⟩ := h n (by omega)
    refine ⟨xs ++ [l], by simp [h1], ?_, ?_⟩
    · intro x hx
      rcases List.mem_append.1 hx with hx | hx
      · exact h2 x hx
      · simp at hx; rw [hx]; exact h4
    · rw [List.flatten_append, Nat.add_mul, Nat.one_mul, List.take_add]
      simpa using RL_append h3 h5

theorem mapM_at {β : Type} {f : Nat → Option β} {n : Nat} {r : List β} (h : (List.range n).mapM f = some r) : r.length = n ∧ ∀ i, i < n → ∃ y, f i = some y := by
  obtain ⟨hl, hg⟩ := mapM_get h
  rw [List.length_range] at hl
  refine ⟨hl, fun i hi => ?_⟩
  have hr : r[i]? = some (r[i]'(by omega)) := List.getElem?_eq_getElem (by omega)
  obtain ⟨x, hx, hc⟩ := hg i _ hr
  rw [List.getElem?_range hi] at hx
  cases hx
  exact ⟨_, hc⟩

theorem addr_add' {a : Addr} (hs : a.spot = none) (n : Nat) : a.add n = ⟨a.block, a.off + n, none⟩ := by
  cases a; simp only at hs; subst hs; exact addr_add _ _ _

abbrev trd (enc : TypeId × Value → HH) (P : Program) (w : World) := DataW.trod enc P w 0 (fun _ => true) true

theorem trod_bool {t : TypeId} (hu : P.underlying t = some .bool) {fuel : Nat} {cs : List Value} {x : DataW HH × List MemPlace} (h : trd enc P w (fuel + 1) t cs = some x) : ∃ b, cs = [.bool b] := by
  unfold trd DataW.trod at h
  rw [hu] at h
  split at h <;> first | exact ⟨_, rfl⟩ | simp_all
theorem trod_int {t : TypeId} {k : IntKind} (hu : P.underlying t = some (.int k)) {fuel : Nat} {cs : List Value} {x : DataW HH × List MemPlace} (h : trd enc P w (fuel + 1) t cs = some x) :
    ∃ n, cs = [.int k n] ∧ k.min ≤ n ∧ n ≤ k.max := by
  unfold trd DataW.trod at h
  rw [hu] at h
  split at h <;> first | (rename_i he; cases he; done) | skip
  all_goals try (simp_all; done)
  rename_i k0 k' n he
  cases he
  split at h
  · rename_i hc
    obtain ⟨rfl, hw⟩ := hc
    refine ⟨n, rfl, ?_⟩
    simpa [Lit.wf] using hw
  · cases h
theorem trod_str {t : TypeId} (hu : P.underlying t = some .string) {fuel : Nat} {cs : List Value} {x : DataW HH × List MemPlace} (h : trd enc P w (fuel + 1) t cs = some x) : ∃ s, cs = [.string s] ∧ s.size ≤ maxLen := by
  unfold trd DataW.trod at h
  rw [hu] at h
  split at h <;> first | (rename_i he; cases he; done) | skip
  all_goals try (simp_all; done)
theorem trod_slice {t e : TypeId} (hu : P.underlying t = some (.slice e)) {fuel : Nat} {cs : List Value} {x : DataW HH × List MemPlace} (h : trd enc P w (fuel + 1) t cs = some x) :
    cs = [.slice none 0 0] ∨ ∃ a len cap, cs = [.slice (some a) len cap] ∧ len ≤ cap ∧ cap ≤ maxLen ∧ ∀ i, i < len → ∃ y, (w.cells? 0 (a.add (i * P.cellsOf e)) (P.cellsOf e)).bind (trd enc P w fuel e) = some y := by
  unfold trd DataW.trod at h
  rw [hu] at h
  split at h <;> first | (rename_i he; cases he; done) | skip
  all_goals try (simp_all; done)
  rename_i e0 a len cap he
  cases he
  split at h
  · rename_i hc
    refine .inr ⟨a, len, cap, rfl, hc.2.1, hc.2.2, ?_⟩
    simp only [Option.bind_eq_some_iff] at h
    obtain ⟨elems, hel, _⟩ := h
    exact (mapM_at hel).2
  · cases h
theorem trod_struct {t : TypeId} {fs : Array Field} (hu : P.underlying t = some (.struct fs)) {fuel : Nat} {cs : List Value} {x : DataW HH × List MemPlace} (h : trd enc P w (fuel + 1) t cs = some x) :
    cs.length = P.cellsOf t ∧ ∃ r, (fs.toList.mapM fun f => trd enc P w fuel f.type ((cs.drop f.offset).take (P.cellsOf f.type))) = some r := by
  unfold trd DataW.trod at h
  rw [hu] at h
  split at h <;> first | (rename_i he; cases he; done) | skip
  all_goals try (simp_all; done)
  rename_i fs0 he
  cases he
  split at h
  · rename_i hc
    simp only [Option.map_eq_some_iff] at h
    obtain ⟨r, hr, _⟩ := h
    exact ⟨hc, r, hr⟩
  · cases h
theorem trod_array {t e : TypeId} {n : Nat} (hu : P.underlying t = some (.array n e)) {fuel : Nat} {cs : List Value} {x : DataW HH × List MemPlace} (h : trd enc P w (fuel + 1) t cs = some x) :
    cs.length = P.cellsOf t ∧ ∀ i, i < n → ∃ y, trd enc P w fuel e ((cs.drop (i * P.cellsOf e)).take (P.cellsOf e)) = some y := by
  unfold trd DataW.trod at h
  rw [hu] at h
  split at h <;> first | (rename_i he; cases he; done) | skip
  all_goals try (simp_all; done)
  rename_i n0 e0 he
  cases he
  split at h
  · rename_i hc
    simp only [Option.map_eq_some_iff] at h
    obtain ⟨r, hr, _⟩ := h
    exact ⟨hc, (mapM_at hr).2⟩
  · cases h

theorem fields_fit {sub : TypeId → Option Ty} {g : TypeId → List Value → Option (DataW HH × List MemPlace)}
    (hsub : ∀ t T, sub t = some T → ∀ cs x, g t cs = some x → ∃ l, T.fits l ∧ RL ι0 (whole w) l cs) :
    ∀ (fs : List Field) (off : Nat) {Ts : List Ty}, tyFs P sub fs off = some Ts → ∀ {cs : List Value} {r}, (fs.mapM fun f => g f.type ((cs.drop f.offset).take (P.cellsOf f.type))) = some r →
      off + Ty.szs Ts = cs.length → ∃ l, Ty.fitss Ts l ∧ RL ι0 (whole w) l (cs.drop off)
  | [], off, Ts, hT, cs, r, hr, hl => by
    simp only [tyFs, Option.some.injEq] at hT
    subst hT
    simp only [Ty.szs] at hl
    exact ⟨[], by simp [Ty.fitss], by rw [List.drop_eq_nil_of_le (by omega)]; simp [RL]⟩
  | f :: fs, off, Ts, hT, cs, r, hr, hl => by
    simp only [tyFs] at hT
    split at hT
    · rename_i ho
      simp only [Option.bind_eq_some_iff] at hT
      obtain ⟨T, hsT, hT⟩ := hT
      split at hT
      · rename_i hsz
        simp only [Option.map_eq_some_iff] at hT
        obtain ⟨Ts', hTs, rfl⟩ := hT
        simp only [Ty.szs] at hl
        rw [List.mapM_cons] at hr
        cases hg : g f.type ((cs.drop f.offset).take (P.cellsOf f.type)) with
        | none => simp [hg] at hr
        | some y =>
          cases hm : fs.mapM fun f => g f.type ((cs.drop f.offset).take (P.cellsOf f.type)) with
          | none => simp [hg, hm] at hr
          | some r' =>
            obtain ⟨l1, h1, h2⟩ := hsub _ _ hsT _ _ hg
            obtain ⟨l2, h3, h4⟩ := fields_fit hsub fs (off + T.sz) hTs hm (by omega)
            refine ⟨l1 ++ l2, by simp only [Ty.fitss]; exact ⟨l1, l2, rfl, h1, h3⟩, ?_⟩
            have := RL_append h2 h4
            rw [ho, hsz] at this
            have he : cs.drop off = (cs.drop off).take T.sz ++ cs.drop (off + T.sz) := by
              rw [← List.drop_drop, List.take_append_drop]
            rw [he]; exact this
      · cases hT
    · cases hT

set_option maxRecDepth 10000 in
theorem trod_fits : ∀ (d : Nat) {T : Ty} {t : TypeId}, tyOf P d t = some T → ∀ (fuel : Nat) {cs : List Value} {x : DataW HH × List MemPlace},
    trd enc P w fuel t cs = some x → ∃ l, T.fits l ∧ RL ι0 (whole w) l cs
  | 0, T, t, hT, fuel, cs, x, h => by simp [tyOf] at hT
  | d + 1, T, t, hT, 0, cs, x, h => by simp [DataW.trod] at h
  | d + 1, T, t, hT, fuel + 1, cs, x, h => by
    simp only [tyOf] at hT
    split at hT
    · rename_i hu
      cases hT
      obtain ⟨b, rfl⟩ := trod_bool hu h
      exact ⟨[.bool b], by simp [Ty.fits], by simp [RL, R]⟩
    · rename_i k hu
      cases hT
      obtain ⟨n, rfl, h1, h2⟩ := trod_int hu h
      exact ⟨[.int k n], by simp [Ty.fits, h1, h2], by simp [RL, R]⟩
    · rename_i hu
      cases hT
      obtain ⟨s, rfl, h1⟩ := trod_str hu h
      exact ⟨[.str s.data.toList], by simp only [Ty.fits]; exact ⟨_, rfl, by rw [Array.length_toList]; exact h1⟩, by simp [RL, R]⟩
    · rename_i e hu
      simp only [Option.bind_eq_some_iff] at hT
      obtain ⟨E, hE, hT⟩ := hT
      split at hT
      · rename_i hsz
        cases hT
        rcases trod_slice hu h with rfl | ⟨a, len, cap, rfl, h1, h2, h3⟩
        · refine ⟨[.sl 0 []], by simp only [Ty.fits]; exact ⟨[], rfl, Nat.zero_le _, by simp⟩, ?_⟩
          simp [RL, R]
        · by_cases hlen : len = 0
          · subst hlen
            refine ⟨[.sl 0 []], by simp only [Ty.fits]; exact ⟨[], rfl, Nat.zero_le _, by simp⟩, ?_⟩
            simp [RL, R]
          · -- where it lies
            have hcell : ∀ i, i < len → ∃ cs', w.cells? 0 (a.add (i * E.sz)) E.sz = some cs' ∧ ∃ y, trd enc P w fuel e cs' = some y := fun i hi => by
              obtain ⟨y, hy⟩ := h3 i hi
              rw [hsz.1] at hy
              simp only [Option.bind_eq_some_iff] at hy
              obtain ⟨cs', h4, h5⟩ := hy
              exact ⟨cs', h4, y, h5⟩
            obtain ⟨c0, hc0, _⟩ := hcell 0 (by omega)
            have hw0 : ∃ v, w.cell? a = some v := by
              unfold World.cells? at hc0
              split at hc0
              · obtain ⟨_, hg⟩ := mapM_at hc0
                obtain ⟨y, hy⟩ := hg 0 hsz.2
                exact ⟨y, by simpa [Addr.add] using hy⟩
              · cases hc0
            obtain ⟨v0, hv0⟩ := hw0
            obtain ⟨hs, c, ee, hb, _⟩ := whole_cell hv0
            have hseg : ∀ i, i < len → ∃ cs', cs' = (c.drop (a.off + i * E.sz)).take E.sz ∧ a.off + i * E.sz + E.sz ≤ c.length ∧ ∃ y, trd enc P w fuel e cs' = some y := fun i hi => by
              obtain ⟨cs', h4, h5⟩ := hcell i hi
              rw [addr_add' hs] at h4
              obtain ⟨_, h6, h7⟩ := cells_seg hb h4
              exact ⟨cs', h6, h7 (by omega), h5⟩
            obtain ⟨_, _, hend, _⟩ := hseg (len - 1) (by omega)
            have hend' : a.off + len * E.sz ≤ c.length := by
              have : len * E.sz = (len - 1) * E.sz + E.sz := by
                conv => lhs; rw [show len = (len - 1) + 1 by omega]
                rw [Nat.add_mul, Nat.one_mul]
              omega
            obtain ⟨xs, g1, g2, g3⟩ := segs (F := whole w) (T := E) (sz := E.sz) (cs := c.drop a.off) len (by simp; omega) (fun i hi => by
              obtain ⟨cs', h4, _, y, h5⟩ := hseg i hi
              rw [List.drop_drop, ← h4]
              exact trod_fits d hE fuel h5)
            have hxl := RL_len g3
            rw [List.length_take, List.length_drop] at hxl
            refine ⟨[.sl len xs.flatten], by simp only [Ty.fits]; exact ⟨xs, by rw [g1], by omega, g2⟩, ?_⟩
            simp only [RL]
            refine ⟨_, [], rfl, ?_, rfl⟩
            simp only [R]
            refine .inr ⟨a.block, a.off, cap, ?_, h1, .inr ⟨false, ee, c, 0, hb, by omega, ?_⟩⟩
            · cases a; simp only at hs; subst hs; rfl
            · rw [show xs.flatten.length = len * E.sz by omega]; exact g3
      · cases hT
    · rename_i fs hu
      simp only [Option.bind_eq_some_iff] at hT
      obtain ⟨Ts, hTs, hT⟩ := hT
      split at hT
      · rename_i hsz
        cases hT
        obtain ⟨h1, r, h2⟩ := trod_struct hu h
        obtain ⟨l, h3, h4⟩ := fields_fit (fun t T hT cs x hx => trod_fits d hT fuel hx) fs.toList 0 hTs h2 (by omega)
        exact ⟨l, by simpa only [Ty.fits] using h3, by simpa using h4⟩
      · cases hT
    · rename_i n e hu
      simp only [Option.bind_eq_some_iff] at hT
      obtain ⟨E, hE, hT⟩ := hT
      split at hT
      · rename_i hsz
        cases hT
        obtain ⟨h1, h2⟩ := trod_array hu h
        rw [hsz.1] at h2
        obtain ⟨xs, g1, g2, g3⟩ := segs (F := whole w) (T := E) (sz := E.sz) (cs := cs) n (by omega) (fun i hi => by
          obtain ⟨y, hy⟩ := h2 i hi
          exact trod_fits d hE fuel hy)
        refine ⟨xs.flatten, by simp only [Ty.fits]; exact ⟨xs, g1, rfl, g2⟩, ?_⟩
        rwa [List.take_of_length_le (by omega)] at g3
      · cases hT
    · cases hT

/-- An argument. -/
theorem arg_tree {d : Nat} {T : Ty} {t : TypeId} (hT : tyOf P d t = some T) {base : Nat} {v : Value} (hv : Value.okWide P w .any base t v) {x : DataW HH} {ps : List MemPlace}
    (h : DataW.Trod enc P w 0 (fun _ => true) true t v x ps) : ∃ y, T.ok y ∧ R ι0 (whole w) y v := by
  obtain ⟨fuel, h⟩ := h
  obtain ⟨l, h1, h2⟩ := trod_fits d hT fuel h
  cases d with
  | zero => simp [tyOf] at hT
  | succ d =>
    simp only [tyOf] at hT
    simp only [Value.okWide] at hv
    have one : T.isAgg = false → v.cells.toList = [v] → ∃ y, T.ok y ∧ R ι0 (whole w) y v := fun ha hc => by
      rw [hc] at h2
      have hl := RL_len h2
      match l, hl, h1, h2 with
      | [y], _, h1, h2 =>
        simp only [RL] at h2
        obtain ⟨v', r', he, hr, _⟩ := h2
        simp only [List.cons.injEq] at he
        obtain ⟨rfl, rfl⟩ := he
        exact ⟨y, by simp only [Ty.ok, ha]; exact h1, hr⟩
    have agg : T.isAgg = true → ∀ cs, v = .agg cs → ∃ y, T.ok y ∧ R ι0 (whole w) y v := fun ha cs hc => by
      subst hc
      refine ⟨.agg l, by simp only [Ty.ok, ha, if_true]; exact ⟨l, rfl, h1⟩, ?_⟩
      simp only [R]
      exact ⟨cs.toList, rfl, h2⟩
    split at hT
    · rename_i hu
      cases hT
      rw [hu] at hv
      simp only [Cell.okWide, hu] at hv
      refine one rfl ?_
      cases v <;> first | rfl | simp_all [Cell.ok]
    · rename_i k hu
      cases hT
      rw [hu] at hv
      simp only [Cell.okWide, hu] at hv
      refine one rfl ?_
      cases v <;> first | rfl | simp_all [Cell.ok]
    · rename_i hu
      cases hT
      rw [hu] at hv
      simp only [Cell.okWide, hu] at hv
      refine one rfl ?_
      cases v <;> first | rfl | simp_all [Cell.ok]
    · rename_i e hu
      simp only [Option.bind_eq_some_iff] at hT
      obtain ⟨E, hE, hT⟩ := hT
      split at hT
      · cases hT
        rw [hu] at hv
        simp only [Cell.okWide, hu] at hv
        refine one rfl ?_
        cases v <;> first | rfl | simp_all [Cell.ok]
      · cases hT
    · rename_i fs hu
      simp only [Option.bind_eq_some_iff] at hT
      obtain ⟨E, hE, hT⟩ := hT
      split at hT
      · cases hT
        rw [hu] at hv
        obtain ⟨cs, rfl, _⟩ := hv
        exact agg rfl cs rfl
      · cases hT
    · rename_i n e hu
      simp only [Option.bind_eq_some_iff] at hT
      obtain ⟨E, hE, hT⟩ := hT
      split at hT
      · cases hT
        rw [hu] at hv
        obtain ⟨cs, rfl, _⟩ := hv
        exact agg rfl cs rfl
      · cases hT
    · cases hT

def tysOf (P : Program) (d : Nat) : List TypeId → Option (List Ty)
  | [] => some []
  | t :: ts => (tyOf P d t).bind fun T => (tysOf P d ts).map (T :: ·)
theorem args_tree {d base : Nat} : ∀ {ts : List TypeId} {Ts : List Ty} {vs : List Value} {ds : List (DataW HH)} {ps : List MemPlace}, tysOf P d ts = some Ts →
    (∀ (j : Nat) t v, ts[j]? = some t → vs[j]? = some v → Value.okWide P w .any base t v) → DataW.TrodAll enc P w 0 (fun _ => true) true ts vs ds ps → ∃ ys, Ty.oks Ts ys ∧ RL ι0 (whole w) ys vs
  | [], Ts, vs, ds, ps, hT, hv, h => by
    simp only [tysOf, Option.some.injEq] at hT
    subst hT
    cases vs with
    | nil => exact ⟨[], rfl, by simp [RL]⟩
    | cons => cases ds <;> simp [DataW.TrodAll] at h
  | t :: ts, Ts, vs, ds, ps, hT, hv, h => by
    simp only [tysOf, Option.bind_eq_some_iff, Option.map_eq_some_iff] at hT
    obtain ⟨T, h1, Ts', h2, rfl⟩ := hT
    obtain ⟨v, vs', x, ds', p, q, rfl, rfl, rfl, h3, h4⟩ := trodAll_cons h
    obtain ⟨y, h5, h6⟩ := arg_tree h1 (hv 0 t v rfl rfl) h3
    obtain ⟨ys, h7, h8⟩ := args_tree h2 (fun j t' v' hj hj' => hv (j + 1) t' v' hj hj') h4
    exact ⟨y :: ys, ⟨y, ys, rfl, h5, h7⟩, by simp only [RL]; exact ⟨v, vs', rfl, h6, h8⟩⟩

theorem whole_sat (w : World) : Sat ⟨w.heap.size, fun _ => True, 0⟩ w w (whole w) := by
  refine ⟨Below.refl _ _, Nat.le_refl _, fun b k hb => ?_, Nat.zero_le _, fun _ _ => .inl trivial⟩
  unfold whole at hb
  split at hb
  · rename_i c e fr ho
    simp only [Option.some.injEq] at hb
    subst hb
    refine ⟨⟨_, ho, c, fr, rfl, by simp, by rw [Array.length_toList, ← Array.length_toList, List.take_length], (fun h => by cases h), (fun h => by cases h)⟩, (fun h => by cases h)⟩
  · cases hb

/-- A law's call, out of its contract over trees. -/
theorem law_calls {P : Program} {HH : Type} {enc : TypeId × Value → HH} {d : Nat} {k : FuncId} {fn : Func} {Ts : List Ty} (hT : tysOf P d fn.params.toList = some Ts) (hs : ∀ xs, Ty.oks Ts xs → PSpec P k xs fun r => r = .bool true)
    {vars : List String} {W : World} {base : Nat} {args : Array Value} {ds gs : List (DataW HH)} {before : List MemPlace} (hval : ∀ (j : Nat) t v, fn.params[j]? = some t → args[j]? = some v → Value.okWide P W .any base t v)
    (hW : DataW.Whole enc P fn.params.toList vars false W args.toList ds gs before) : Calls P k args W fun e w' => e = .returned (.bool true) ∧ Below W.heap.size W w' := by
  obtain ⟨p, q, hA, _, _, _, _⟩ := hW
  obtain ⟨ys, h1, h2⟩ := args_tree hT (fun j t v hj hj' => hval j t v (by simpa using hj) (by simpa using hj')) hA
  have h3 := hs ys h1 (whole W) args.toList h2 (whole W) (fun _ _ h => h) _ W W (whole_sat W)
  refine h3.mono fun e w' ⟨r, dd, he, ⟨v, hv, ho⟩, _, hs⟩ => ⟨?_, hs.below⟩
  subst hv
  simp only [OV, R] at ho
  rw [he, ho.2]

def readables (P : Program) (ts : List TypeId) : Bool := ts.all fun t => P.readableRec t && decide (t < P.types.size)
theorem trodAll_lt {P : Program} {HH : Type} {enc : TypeId × Value → HH} {w : World} : ∀ {ts : List TypeId} {vs : List Value} {ds : List (DataW HH)} {ps : List MemPlace}, DataW.TrodAll enc P w 0 (fun _ => true) true ts vs ds ps → ∀ x ∈ ps, x.block < w.heap.size
  | [], vs, ds, ps, h => by cases vs <;> cases ds <;> simp_all [DataW.TrodAll]
  | t :: ts, vs, ds, ps, h => by
    obtain ⟨v, vs', x, ds', p, q, rfl, rfl, rfl, h3, h4⟩ := trodAll_cons h
    intro y hy
    rcases List.mem_append.1 hy with hy | hy
    · obtain ⟨m, hm⟩ := h3; exact DataW.trod_lt m _ _ _ hm y hy
    · exact trodAll_lt h4 y hy
theorem trodAll_below {P : Program} {HH : Type} {enc : TypeId × Value → HH} (hl : laidOutB P = true) {W W' : World} (hb : Below W.heap.size W W') :
    ∀ {ts : List TypeId} {vs : List Value} {ds : List (DataW HH)} {ps : List MemPlace}, readables P ts = true → DataW.TrodAll enc P W 0 (fun _ => true) true ts vs ds ps →
    DataW.TrodAll enc P W' 0 (fun b => decide (b < W.heap.size)) true ts vs ds ps
  | [], vs, ds, ps, hr, h => by cases vs <;> cases ds <;> simp_all [DataW.TrodAll]
  | t :: ts, vs, ds, ps, hr, h => by
    obtain ⟨v, vs', x, ds', p, q, rfl, rfl, rfl, h3, h4⟩ := trodAll_cons h
    simp only [readables, List.all_cons, Bool.and_eq_true, decide_eq_true_eq] at hr
    refine trodAll_cons_mk (Below.trod hl hr.1.1 hr.1.2 h3 hb fun y hy => ?_) (trodAll_below hl hb hr.2 h4)
    obtain ⟨m, hm⟩ := h3; exact DataW.trod_lt m _ _ _ hm y hy
theorem trodAll_dlen {P : Program} {HH : Type} {enc : TypeId × Value → HH} {w : World} : ∀ {ts : List TypeId} {vs : List Value} {ds : List (DataW HH)} {ps : List MemPlace}, DataW.TrodAll enc P w 0 (fun _ => true) true ts vs ds ps → ds.length = ts.length
  | [], vs, ds, ps, h => by cases vs <;> cases ds <;> simp_all [DataW.TrodAll]
  | t :: ts, vs, ds, ps, h => by
    obtain ⟨v, vs', x, ds', p, q, rfl, rfl, rfl, h3, h4⟩ := trodAll_cons h
    simp [trodAll_dlen h4]

/-- What a law's row says behind its call. -/
theorem law_post {P : Program} {HH : Type} {enc : TypeId × Value → HH} {fn : Func} {s : ChangeSpec} (hl : laidOutB P = true) (hr : readables P fn.params.toList = true) {tb : TypeId} (hres : fn.resultTypes = #[tb]) (htb : P.underlying tb = some .bool)
    (hvars : s.vars = []) (hfn : ∀ ds : List (DataW HH), ds.length = fn.params.toList.length → s.fn HH ds = { results := [.lit (.bool true)], args := ds })
    {W W' : World} {args : Array Value} {ds gs : List (DataW HH)} {before : List MemPlace} (hW : DataW.Whole enc P fn.params.toList s.vars false W args.toList ds gs before) (hb : Below W.heap.size W W') :
    s.post enc P fn false true false false W args (.bool true) W' := by
  have hW' := hW
  obtain ⟨p, q, hA, hV, _, _, _⟩ := hW
  rw [hvars] at hV
  obtain ⟨rfl, rfl⟩ := trodVars_none hV
  have hlen := trodAll_dlen hA
  refine ⟨ds, [], before, [], p, [], hW', ?_, ?_, ?_, hb.frame _, fun h => by cases h⟩
  · rw [List.append_nil, hfn ds hlen, hres]
    exact trodAll_mk1 (shut_bool htb _)
  · rw [List.append_nil, hfn ds hlen]
    exact trodAll_below hl hb hr hA
  · rw [List.append_nil, hfn ds hlen, hvars]
    rfl
end
end Go.Proofs.YtjklebickfcddaaDoor.Sep

/- Rows of records of numbers; what comes in as lists. -/
import Derived.Test.YtjklebickfcddaaDoorSepLaw
namespace Go.Proofs.YtjklebickfcddaaDoor.Sep
open Go.RowKit
set_option linter.unusedVariables false
set_option linter.unusedSimpArgs false
set_option linter.constructorNameAsVariable false

/-- A record's numbers, as many for each. -/
structure Rec (α : Type) where
  enc : α → List Int
  sz : Nat
  len : ∀ a, (enc a).length = sz
  dflt : α
def vr {α : Type} (r : Rec α) (k : IntKind) (l : List α) : List V := (l.map fun a => vi k (r.enc a)).flatten
section
variable {α : Type} {r : Rec α} {k : IntKind} {l m : List α} {i n : Nat} {a : α} {h : Hp}
theorem vr_eq : vr r k l = vi k (l.map r.enc).flatten := by
  induction l with
  | nil => rfl
  | cons a l ih => simp only [vr, List.map_cons, List.flatten_cons] at ih ⊢; rw [ih, vi_app]
theorem vr_len : (vr r k l).length = l.length * r.sz := by
  induction l with
  | nil => simp [vr]
  | cons a l ih =>
    have : vr r k (a :: l) = vi k (r.enc a) ++ vr r k l := by simp [vr]
    rw [this, List.length_append, ih, vi_len, r.len, List.length_cons, Nat.add_mul]; omega
theorem vr_cons : vr r k (a :: l) = vi k (r.enc a) ++ vr r k l := by simp [vr]
theorem vr_app : vr r k l ++ vr r k m = vr r k (l ++ m) := by simp [vr]
theorem vr_drop : ∀ {l : List α} {i : Nat}, i ≤ l.length → (vr r k l).drop (i * r.sz) = vr r k (l.drop i)
  | l, 0, _ => by simp
  | [], i + 1, h => by simp at h
  | a :: l, i + 1, h => by
    rw [vr_cons, List.drop_succ_cons, ← vr_drop (l := l) (i := i) (by simp at h; exact h)]
    rw [show (i + 1) * r.sz = (vi k (r.enc a)).length + i * r.sz from by rw [vi_len, r.len, Nat.add_mul]; omega]
    rw [List.drop_append]
    simp
theorem vr_at (hi : i < l.length) : ((vr r k l).drop (i * r.sz)).take r.sz = vi k (r.enc (l.getD i r.dflt)) := by
  rw [vr_drop (Nat.le_of_lt hi), List.drop_eq_getElem_cons hi, vr_cons, List.take_left' (by rw [vi_len, r.len])]
  simp [List.getD, hi]
theorem vr_take : ∀ {l : List α} {i : Nat}, i ≤ l.length → (vr r k l).take (i * r.sz) = vr r k (l.take i)
  | l, 0, _ => by simp [vr]
  | [], i + 1, h => by simp at h
  | a :: l, i + 1, h => by
    rw [vr_cons, List.take_succ_cons, vr_cons, ← vr_take (l := l) (i := i) (by simp at h; exact h)]
    rw [show (i + 1) * r.sz = (vi k (r.enc a)).length + i * r.sz from by rw [vi_len, r.len, Nat.add_mul]; omega]
    rw [List.take_length_add_append]
theorem vr_set (hi : i < l.length) : (vr r k l).take (i * r.sz) ++ vi k (r.enc a) ++ (vr r k l).drop ((i + 1) * r.sz) = vr r k (l.set i a) := by
  rw [vr_take (Nat.le_of_lt hi), vr_drop hi, List.append_assoc, ← vr_cons, vr_app]
  congr 1
  rw [List.set_eq_take_append_cons_drop, if_pos hi]
theorem vr_all : (vr r k l).all cell1 = true := by rw [vr_eq, vi_all]
theorem vr_own : noOwn (vr r k l) = true := by rw [vr_eq, vi_own]
theorem vr_vws : vws (vr r k l) = vr r k l := by rw [vr_eq, vi_vws]
theorem vr_dvs : dvs h (vr r k l) = vr r k l := by rw [vr_eq, vi_dvs]
theorem vr_clo : clos (vr r k l) = true := by rw [vr_eq, vi_clo]
theorem vr_nrf : nrfs (vr r k l) = true := by rw [vr_eq, vi_nrf]
theorem vr_fin : folds (fin (n + 1)) h (vr r k l) = some (vr r k l, h) := by rw [vr_eq, vi_fin]
theorem vr_rep : (List.replicate n (vi k (r.enc a))).flatten = vr r k (List.replicate n a) := by simp [vr]
end

/-! ### Pairs and triples -/
def R2 : Rec (Int × Int) := ⟨fun a => [a.1, a.2], 2, fun _ => rfl, (0, 0)⟩
def R3 : Rec (Int × Int × Int) := ⟨fun a => [a.1, a.2.1, a.2.2], 3, fun _ => rfl, (0, 0, 0)⟩
def v2 (k : IntKind) (l : List (Int × Int)) : List V := vr R2 k l
def v3 (k : IntKind) (l : List (Int × Int × Int)) : List V := vr R3 k l
def g2 (l : List (Int × Int)) (i : Nat) : Int × Int := l.getD i (0, 0)
def g3 (l : List (Int × Int × Int)) (i : Nat) : Int × Int × Int := l.getD i (0, 0, 0)
section
variable {k : IntKind} {l m : List (Int × Int)} {p q : List (Int × Int × Int)} {i n : Nat} {a b c : Int} {h : Hp}
theorem v2_len : (v2 k l).length = l.length * 2 := vr_len
theorem v3_len : (v3 k p).length = p.length * 3 := vr_len
theorem v2_at (hi : i < l.length) : ((v2 k l).drop (i * 2)).take 2 = [.int k (g2 l i).1, .int k (g2 l i).2] := vr_at (r := R2) hi
theorem v3_at (hi : i < p.length) : ((v3 k p).drop (i * 3)).take 3 = [.int k (g3 p i).1, .int k (g3 p i).2.1, .int k (g3 p i).2.2] := vr_at (r := R3) hi
theorem v2_app : v2 k l ++ v2 k m = v2 k (l ++ m) := vr_app
theorem v3_app : v3 k p ++ v3 k q = v3 k (p ++ q) := vr_app
theorem v2_one : v2 k l ++ [.int k a, .int k b] = v2 k (l ++ [(a, b)]) := by rw [← v2_app]; rfl
theorem v3_one : v3 k p ++ [.int k a, .int k b, .int k c] = v3 k (p ++ [(a, b, c)]) := by rw [← v3_app]; rfl
theorem v2_set' (hi : i < l.length) : List.take (i * 2) (v2 k l) ++ [.int k a, .int k b] ++ List.drop (i * 2 + 2) (v2 k l) = v2 k (l.set i (a, b)) := by
  have := vr_set (r := R2) (k := k) (a := (a, b)) hi
  rw [show (i + 1) * R2.sz = i * 2 + 2 from by show (i + 1) * 2 = _; omega] at this
  exact this
theorem v3_set' (hi : i < p.length) : List.take (i * 3) (v3 k p) ++ [.int k a, .int k b, .int k c] ++ List.drop (i * 3 + 3) (v3 k p) = v3 k (p.set i (a, b, c)) := by
  have := vr_set (r := R3) (k := k) (a := (a, b, c)) hi
  rw [show (i + 1) * R3.sz = i * 3 + 3 from by show (i + 1) * 3 = _; omega] at this
  exact this
theorem v2_set (hi : i < l.length) : setV (v2 k l) (i * 2) [.int k a, .int k b] = v2 k (l.set i (a, b)) := by
  rw [setV_more (by simp)]; exact v2_set' hi
theorem v3_set (hi : i < p.length) : setV (v3 k p) (i * 3) [.int k a, .int k b, .int k c] = v3 k (p.set i (a, b, c)) := by
  rw [setV_more (by simp)]; exact v3_set' hi
theorem v2_all : (v2 k l).all cell1 = true := vr_all
theorem v3_all : (v3 k p).all cell1 = true := vr_all
theorem v2_own : noOwn (v2 k l) = true := vr_own
theorem v3_own : noOwn (v3 k p) = true := vr_own
theorem v2_vws : vws (v2 k l) = v2 k l := vr_vws
theorem v3_vws : vws (v3 k p) = v3 k p := vr_vws
theorem v2_dvs : dvs h (v2 k l) = v2 k l := vr_dvs
theorem v3_dvs : dvs h (v3 k p) = v3 k p := vr_dvs
theorem v2_clo : clos (v2 k l) = true := vr_clo
theorem v3_clo : clos (v3 k p) = true := vr_clo
theorem v2_nrf : nrfs (v2 k l) = true := vr_nrf
theorem v3_nrf : nrfs (v3 k p) = true := vr_nrf
theorem v2_fin : folds (fin (n + 1)) h (v2 k l) = some (v2 k l, h) := vr_fin
theorem v3_fin : folds (fin (n + 1)) h (v3 k p) = some (v3 k p, h) := vr_fin
theorem v2_rep : (List.replicate n [V.int k a, V.int k b]).flatten = v2 k (List.replicate n (a, b)) := vr_rep (r := R2) (a := (a, b))
theorem v3_rep : (List.replicate n [V.int k a, V.int k b, V.int k c]).flatten = v3 k (List.replicate n (a, b, c)) := vr_rep (r := R3) (a := (a, b, c))
theorem v2_tk (hn : n = l.length * 2) : (v2 k l).take n = v2 k l := List.take_of_length_le (by rw [v2_len]; omega)
theorem v3_tk (hn : n = p.length * 3) : (v3 k p).take n = v3 k p := List.take_of_length_le (by rw [v3_len]; omega)
theorem v2_nil : v2 k [] = [] := rfl
theorem v3_nil : v3 k [] = [] := rfl
end
theorem g2_set {l : List (Int × Int)} {i j : Nat} {a : Int × Int} : g2 (l.set i a) j = if i = j ∧ j < l.length then a else g2 l j := by
  simp only [g2, List.getD, List.getElem?_set]
  by_cases h1 : i = j
  · subst h1; by_cases h2 : i < l.length <;> simp [h2]
  · simp [h1]
theorem g3_set {l : List (Int × Int × Int)} {i j : Nat} {a : Int × Int × Int} : g3 (l.set i a) j = if i = j ∧ j < l.length then a else g3 l j := by
  simp only [g3, List.getD, List.getElem?_set]
  by_cases h1 : i = j
  · subst h1; by_cases h2 : i < l.length <;> simp [h2]
  · simp [h1]
theorem getD_ext {α : Type} {d : α} {l m : List α} (h1 : l.length = m.length) (h2 : ∀ j, j < l.length → l.getD j d = m.getD j d) : l = m := by
  refine List.ext_getElem h1 fun j hj hk => ?_
  have := h2 j hj
  simpa [List.getD, hj, hk] using this
theorem g2_ext {l m : List (Int × Int)} (h1 : l.length = m.length) (h2 : ∀ j, j < l.length → g2 l j = g2 m j) : l = m := getD_ext h1 h2
theorem g3_ext {l m : List (Int × Int × Int)} (h1 : l.length = m.length) (h2 : ∀ j, j < l.length → g3 l j = g3 m j) : l = m := getD_ext h1 h2
theorem gi_ext {l m : List Int} (h1 : l.length = m.length) (h2 : ∀ j, j < l.length → gi l j = gi m j) : l = m := getD_ext h1 h2
theorem all_getD {α : Type} {d : α} {p : α → Bool} {l : List α} : l.all p = true ↔ ∀ j, j < l.length → p (l.getD j d) = true := by
  rw [List.all_eq_true]
  refine ⟨fun h j hj => ?_, fun h x hx => ?_⟩
  · simp only [List.getD, hj, List.getElem?_eq_getElem, Option.getD_some]; exact h _ (List.getElem_mem hj)
  · obtain ⟨j, hj, rfl⟩ := List.getElem_of_mem hx
    have := h j hj
    simpa only [List.getD, hj, List.getElem?_eq_getElem, Option.getD_some] using this
theorem drop_getD {α : Type} {d : α} {l : List α} {i : Nat} (hi : i < l.length) : l.drop i = l.getD i d :: l.drop (i + 1) := by
  rw [List.drop_eq_getElem_cons hi]; simp [List.getD, hi]

theorem tk_all {α : Type} {l : List α} {n : Nat} (hn : l.length ≤ n) : l.take n = l := List.take_of_length_le hn
theorem dr_all {α : Type} {l : List α} {n : Nat} (hn : l.length ≤ n) : l.drop n = [] := List.drop_of_length_le hn
theorem tk_app {α : Type} {l r : List α} {n : Nat} (hn : l.length = n) : (l ++ r).take n = l := List.take_left' hn
theorem dr_app {α : Type} {l r : List α} {n : Nat} (hn : l.length = n) : (l ++ r).drop n = r := List.drop_left' hn
theorem dr_app2 {α : Type} {l r : List α} {n : Nat} (hn : l.length < n) : (l ++ r).drop n = r.drop (n - l.length) := by rw [List.drop_append, List.drop_of_length_le (Nat.le_of_lt hn), List.nil_append]
theorem tk_app2 {α : Type} {l r : List α} {n : Nat} (hn : l.length < n) : (l ++ r).take n = l ++ r.take (n - l.length) := by rw [List.take_append, List.take_of_length_le (Nat.le_of_lt hn)]
theorem setV_full {cs vs : List V} (h : cs.length = vs.length) : setV cs 0 vs = vs := by
  match vs, h with
  | [], h => simp [setV]; simpa using h
  | [v], h =>
    match cs, h with
    | [c], _ => rfl
  | v :: w :: l, h => simp [setV]; simp at h; omega
theorem setV_cv {x y : V} {k k' : IntKind} {l m : List Int} (h : l.length = m.length) : setV (x :: vi k l) 0 (y :: vi k' m) = y :: vi k' m := setV_full (by simp [vi_len, h])
theorem setV_vv {k k' : IntKind} {l m : List Int} (h : l.length = m.length) : setV (vi k l) 0 (vi k' m) = vi k' m := setV_full (by simp [vi_len, h])
theorem setV_bb {l m : List Bool} (h : l.length = m.length) : setV (vb l) 0 (vb m) = vb m := setV_full (by simp [vb_len, h])
theorem vb_cons {x : Bool} {l : List Bool} : V.bool x :: vb l = vb (x :: l) := rfl
theorem gi_c0 {a : Int} {l : List Int} : gi (a :: l) 0 = a := rfl
theorem gi_c1 {a b : Int} {l : List Int} : gi (a :: b :: l) 1 = b := rfl
theorem gi_c2 {a b c : Int} {l : List Int} : gi (a :: b :: c :: l) 2 = c := rfl
theorem mul_lim {x y : Int} (B C : Int) (hx : -B ≤ x ∧ x ≤ B) (hy : -C ≤ y ∧ y ≤ C) : -(B * C) ≤ x * y ∧ x * y ≤ B * C := by
  have h := Int.natAbs_mul x y
  have h2 : x.natAbs * y.natAbs ≤ B.toNat * C.toNat := Nat.mul_le_mul (by omega) (by omega)
  have h3 : ((B.toNat * C.toNat : Nat) : Int) = B * C := by rw [Int.natCast_mul]; congr 1 <;> omega
  omega
theorem getD_1 {x d : V} {l : List V} {k : Nat} : (x :: l).getD (1 + k) d = l.getD k d := by rw [Nat.add_comm]; rfl
theorem getD_17 {x d : V} {l : List V} {k : Nat} : (x :: l).getD (17 + k) d = l.getD (16 + k) d := by rw [show 17 + k = (16 + k) + 1 from by omega]; rfl
theorem set_1 {x v : V} {l : List V} {k : Nat} : (x :: l).set (1 + k) v = x :: l.set k v := by rw [Nat.add_comm]; rfl
theorem set_17 {x v : V} {l : List V} {k : Nat} : (x :: l).set (17 + k) v = x :: l.set (16 + k) v := by rw [show 17 + k = (16 + k) + 1 from by omega]; rfl
theorem gi_appl {l m : List Int} {i : Nat} (h : i < l.length) : gi (l ++ m) i = gi l i := by rw [gi_app, if_pos h]
theorem gi_appr {l m : List Int} {i : Nat} (h : l.length ≤ i) : gi (l ++ m) i = gi m (i - l.length) := by rw [gi_app, if_neg (by omega)]
theorem set_appl {l m : List Int} {i : Nat} {v : Int} (h : i < l.length) : (l ++ m).set i v = l.set i v ++ m := List.set_append_left _ _ h
theorem set_appr {l m : List Int} {i : Nat} {v : Int} (h : l.length ≤ i) : (l ++ m).set i v = l ++ m.set (i - l.length) v := List.set_append_right _ _ h
theorem prod_eta {α β : Type} {p : α × β} : (p.1, p.2) = p := rfl
set_option linter.defProp false in
set_option maxRecDepth 10000 in
def E2 := And.intro @prod_eta <| And.intro @getD_1 <| And.intro @getD_17 <| And.intro @set_1 <| And.intro @set_17 <| And.intro @gi_appl <| And.intro @gi_appr <| And.intro @set_appl <| And.intro @set_appr <| And.intro @Nat.add_sub_cancel_left <| And.intro @Nat.add_lt_add_iff_left <| And.intro @gi_c0 <| And.intro @gi_c1 <| And.intro @gi_c2 <| And.intro @setV_bb <| And.intro @vb_cons <| And.intro @vi_cons <| And.intro @tk_app2 <| And.intro @setV_cv <| And.intro @setV_vv <| And.intro @tk_app <| And.intro @dr_app <| And.intro @dr_app2 <| And.intro @tk_all <| And.intro @dr_all <| And.intro @v2_len <| And.intro @v3_len <| And.intro @v2_at <| And.intro @v3_at <| And.intro @v2_app <| And.intro @v3_app <| And.intro @v2_one <| And.intro @v3_one <| And.intro @v2_set <| And.intro @v3_set <| And.intro @v2_set' <| And.intro @v3_set' <|
  And.intro @v2_all <| And.intro @v3_all <| And.intro @v2_own <| And.intro @v3_own <| And.intro @v2_vws <| And.intro @v3_vws <| And.intro @v2_dvs <| And.intro @v3_dvs <| And.intro @v2_clo <| And.intro @v3_clo <|
  And.intro @v2_nrf <| And.intro @v3_nrf <| And.intro @v2_fin <| And.intro @v3_fin <| And.intro @v2_rep <| And.intro @v3_rep <| And.intro @v2_tk <| And.intro @v3_tk <| And.intro @v2_nil @v3_nil

theorem sc_vi {ns : List Nat} {k : IntKind} {l : List Int} : scvs ns (vi k l) = true := by induction l <;> simp_all [vi, scvs, scv]
theorem sc_vb {ns : List Nat} {l : List Bool} : scvs ns (vb l) = true := by induction l <;> simp_all [vb, scvs, scv]
theorem sc_vt {ns : List Nat} {l : List (List UInt8)} : scvs ns (vt l) = true := by induction l <;> simp_all [vt, scvs, scv]
theorem sc_v2 {ns : List Nat} {k : IntKind} {l : List (Int × Int)} : scvs ns (v2 k l) = true := by unfold v2; rw [vr_eq]; exact sc_vi
theorem sc_v3 {ns : List Nat} {k : IntKind} {l : List (Int × Int × Int)} : scvs ns (v3 k l) = true := by unfold v3; rw [vr_eq]; exact sc_vi

/-! ### Rows of rows -/
def vo (e : TypeId) (ls : List (List Int)) : List V := ls.map fun l => V.own e 1 l.length (vi .i64 l)
def vl (ls : List (List Int)) : List V := ls.map fun l => V.sl l.length (vi .i64 l)
def gl (ls : List (List Int)) (i : Nat) : List Int := ls.getD i []
section
variable {e : TypeId} {ls ms : List (List Int)} {l : List Int} {i n : Nat} {ns : List Nat} {h : Hp}
theorem vo_len : (vo e ls).length = ls.length := by simp [vo]
theorem vl_len : (vl ls).length = ls.length := by simp [vl]
theorem vo_get (hi : i < ls.length) : (vo e ls).getD i .und = .own e 1 (gl ls i).length (vi .i64 (gl ls i)) := by simp [vo, gl, List.getD, hi]
theorem vl_get (hi : i < ls.length) : (vl ls).getD i .und = .sl (gl ls i).length (vi .i64 (gl ls i)) := by simp [vl, gl, List.getD, hi]
theorem vo_one (hn : l.length = n) : vo e ls ++ [.own e 1 n (vi .i64 l)] = vo e (ls ++ [l]) := by subst hn; simp [vo]
theorem vo_set (hn : l.length = n) : (vo e ls).set i (.own e 1 n (vi .i64 l)) = vo e (ls.set i l) := by subst hn; simp [vo, List.map_set]
theorem vo_take : (vo e ls).take n = vo e (ls.take n) := by simp [vo, List.map_take]
theorem vl_take : (vl ls).take n = vl (ls.take n) := by simp [vl, List.map_take]
theorem vo_drop : (vo e ls).drop n = vo e (ls.drop n) := by simp [vo, List.map_drop]
theorem vl_drop : (vl ls).drop n = vl (ls.drop n) := by simp [vl, List.map_drop]
theorem vl_all : (vl ls).all cell1 = true := by simp [vl, cell1]
theorem vl_own : noOwn (vl ls) = true := by simp [noOwn, vl, plain1]
theorem vo_vws : vws (vo e ls) = vl ls := by induction ls <;> simp_all [vo, vl, vws, vw, vi_vws]
theorem vl_vws : vws (vl ls) = vl ls := by induction ls <;> simp_all [vl, vws, vw, vi_vws]
theorem vl_dvs : dvs h (vl ls) = vl ls := by induction ls <;> simp_all [vl, dvs, dv, vi_vws]
theorem vo_clo : clos (vo e ls) = true := by induction ls <;> simp_all [vo, clos, clo, vi_clo]
theorem vo_nrf : nrfs (vo e ls) = true := by induction ls <;> simp_all [vo, nrfs, nrf, vi_nrf]
theorem vl_nrf : nrfs (vl ls) = true := by induction ls <;> simp_all [vl, nrfs, nrf, vi_nrf]
theorem vo_fin : folds (fin (n + 1)) h (vo e ls) = some (vo e ls, h) := folds_still (by simp [vo, still])
theorem vl_fin : folds (fin (n + 1)) h (vl ls) = some (vl ls, h) := folds_still (by simp [vl, still])
theorem sc_vo : scvs ns (vo e ls) = true := by induction ls <;> simp_all [vo, scvs, scv, sc_vi]
theorem sc_vl : scvs ns (vl ls) = true := by induction ls <;> simp_all [vl, scvs, scv, vi_nrf]
theorem vo_nil : vo e [] = [] := rfl
theorem vl_nil : vl [] = [] := rfl
theorem vl_cons {n : Nat} (hn : l.length = n) : V.sl n (vi .i64 l) :: vl ls = vl (l :: ls) := by subst hn; rfl
end
theorem gl_ext {l m : List (List Int)} (h1 : l.length = m.length) (h2 : ∀ j, j < l.length → gl l j = gl m j) : l = m := getD_ext h1 h2
theorem gl_set {l : List (List Int)} {i j : Nat} {a : List Int} : gl (l.set i a) j = if i = j ∧ j < l.length then a else gl l j := by
  simp only [gl, List.getD, List.getElem?_set]
  by_cases h1 : i = j
  · subst h1; by_cases h2 : i < l.length <;> simp [h2]
  · simp [h1]
theorem gl_app {l m : List (List Int)} {i : Nat} : gl (l ++ m) i = if i < l.length then gl l i else gl m (i - l.length) := by
  simp only [gl, List.getD, List.getElem?_append]; split <;> rfl
/-- Rows that are not there yet. -/
def vn (k : Nat) : List V := List.replicate k .nils
section
variable {k n : Nat} {v : V} {h : Hp} {ns : List Nat} {a b : List V} {i : Nat}
theorem vn_len : (vn k).length = k := by simp [vn]
theorem vn_set0 (hk : 0 < k) : (vn k).set 0 v = v :: vn (k - 1) := by
  cases k with
  | zero => omega
  | succ k => simp [vn, List.replicate_succ]
theorem vn_rep : (List.replicate k [V.nils]).flatten = vn k := by
  induction k with
  | zero => rfl
  | succ k ih => simp only [List.replicate_succ, List.flatten_cons, ih]; simp [vn, List.replicate_succ]
theorem vn_fin : folds (fin (n + 1)) h (vn k) = some (vn k, h) := folds_still (by simp [vn, still])
theorem vn_nrf : nrfs (vn k) = true := by induction k <;> simp_all [vn, List.replicate_succ, nrfs, nrf]
theorem vn_clo : clos (vn k) = true := by induction k <;> simp_all [vn, List.replicate_succ, clos, clo]
theorem sc_vn : scvs ns (vn k) = true := by induction k <;> simp_all [vn, List.replicate_succ, scvs, scv]
theorem setV_appr (hi : a.length ≤ i) : (a ++ b).set i v = a ++ b.set (i - a.length) v := List.set_append_right _ _ hi
end
/-! ### Loads beside an append -/
section
variable {h : Hp} {q : Option Nat} {K : V → Hp → Prop} {b b2 o o2 n : Nat} {x x' y y' : V}
@[congr] theorem pldb_congr (hx : x = x') (hy : y = y') : pldb h q K x y = pldb h q K x' y' := by rw [hx, hy]
theorem pldb_pp : pldb h q K (.ptr b o) (.ptr b2 o2) = Rq (b = b2) (pld h q K (.ptr b o)) := rfl
theorem pldb_pr : pldb h q K (.ptr b o) (.rf b2 o2 n) = Rq (b = b2) (pld h q K (.ptr b o)) := rfl
theorem pavsP_nil {x : V} : pavsP h x [] = True := rfl
theorem pavsP_cons {x y : V} {ys : List V} : pavsP h x (y :: ys) = (pavoidP h x y ∧ pavsP h x ys) := rfl
theorem pavoidP_pp {b o b2 o2 : Nat} : pavoidP h (.ptr b2 o2) (.ptr b o) = (b ≠ b2 ∧ isRow (h b)) := rfl
theorem pavoidP_pr {b o b2 o2 m : Nat} : pavoidP h (.ptr b2 o2) (.rf b o m) = (b ≠ b2 ∧ isRow (h b)) := rfl
theorem pavoid_pr : pavoid h (.rf b2 o2 n) (.ptr b o) = (b ≠ b2 ∧ isRow (h b)) := rfl
theorem pavoid_rr {m : Nat} : pavoid h (.rf b2 o2 n) (.rf b o m) = (b ≠ b2 ∧ isRow (h b)) := rfl
theorem pavoid_pn : pavoid h .nils (.ptr b o) = True := rfl
theorem pavoid_rn {m : Nat} : pavoid h .nils (.rf b o m) = True := rfl
theorem isRow_row {e : TypeId} {sz : Nat} {cs : List V} : isRow (.row e sz cs) = True := rfl
theorem vl_app {a b : List (List Int)} : vl a ++ vl b = vl (a ++ b) := by simp [vl]
theorem vo_app {e : TypeId} {a b : List (List Int)} : vo e a ++ vo e b = vo e (a ++ b) := by simp [vo]
end
set_option linter.defProp false in
def E3 := And.intro @pavsP_nil <| And.intro @pavsP_cons <| And.intro @pavoidP_pp <| And.intro @pavoidP_pr <| And.intro @pldb_pp <| And.intro @pldb_pr <| And.intro @pavoid_pr <| And.intro @pavoid_rr <| And.intro @pavoid_pn <| And.intro @pavoid_rn <| And.intro @isRow_row <| And.intro @vn_len <| And.intro @vn_set0 <| And.intro @vn_rep <| And.intro @vn_fin <| And.intro @vn_nrf <| And.intro @vn_clo <| And.intro @setV_appr <| And.intro @vo_len <| And.intro @vl_len <| And.intro @vo_get <| And.intro @vl_get <| And.intro @vo_one <| And.intro @vo_set <| And.intro @vo_take <| And.intro @vl_take <| And.intro @vo_drop <| And.intro @vl_drop <|
  And.intro @vl_all <| And.intro @vl_own <| And.intro @vo_vws <| And.intro @vl_vws <| And.intro @vl_dvs <| And.intro @vo_clo <| And.intro @vo_nrf <| And.intro @vl_nrf <| And.intro @vo_fin <| And.intro @vl_fin <|
  And.intro @vo_nil <| And.intro @vl_nil <| And.intro @vl_cons @folds_app

/-! ### What comes in -/
theorem ok_int {k : IntKind} {v : V} (h : Ty.ok (.int k) v) : ∃ n, v = .int k n ∧ k.min ≤ n ∧ n ≤ k.max := by
  simpa [Ty.ok, Ty.isAgg, Ty.fits] using h
theorem ok_bool {v : V} (h : Ty.ok .bool v) : ∃ b, v = .bool b := by
  simpa [Ty.ok, Ty.isAgg, Ty.fits] using h
theorem ok_str {v : V} (h : Ty.ok .str v) : ∃ s, v = .str s ∧ s.length ≤ 9223372036854775807 := by
  simpa [Ty.ok, Ty.isAgg, Ty.fits, maxLen] using h
theorem ok_sl {T : Ty} {v : V} (h : Ty.ok (.sl T) v) : ∃ xs : List (List V), v = .sl xs.length xs.flatten ∧ xs.length ≤ 9223372036854775807 ∧ ∀ x ∈ xs, T.fits x := by
  simpa [Ty.ok, Ty.isAgg, Ty.fits, maxLen] using h
theorem fits_list {α : Type} {T : Ty} {enc : α → List V} {Q : α → Prop} (hT : ∀ x, T.fits x → ∃ a, x = enc a ∧ Q a) : ∀ {xs : List (List V)}, (∀ x ∈ xs, T.fits x) → ∃ l : List α, xs = l.map enc ∧ ∀ a ∈ l, Q a
  | [], _ => ⟨[], rfl, by simp⟩
  | x :: xs, h => by
    obtain ⟨a, rfl, ha⟩ := hT x (h x (by simp))
    obtain ⟨l, rfl, h2⟩ := fits_list hT (xs := xs) fun y hy => h y (by simp [hy])
    exact ⟨a :: l, rfl, by simpa using ⟨ha, h2⟩⟩
theorem fits_int {k : IntKind} (x : List V) (h : Ty.fits (.int k) x) : ∃ a, x = [.int k a] ∧ k.min ≤ a ∧ a ≤ k.max := by simpa [Ty.fits] using h
theorem flat_vi {k : IntKind} {l : List Int} : (l.map fun a => [V.int k a]).flatten = vi k l := by
  induction l <;> simp_all [vi]
theorem ok_ints {k : IntKind} {v : V} (h : Ty.ok (.sl (.int k)) v) : ∃ l : List Int, v = .sl l.length (vi k l) ∧ l.length ≤ 9223372036854775807 ∧ ∀ a ∈ l, k.min ≤ a ∧ a ≤ k.max := by
  obtain ⟨xs, rfl, h1, h2⟩ := ok_sl h
  obtain ⟨l, rfl, h3⟩ := fits_list fits_int h2
  exact ⟨l, by rw [flat_vi]; simp, by simpa using h1, h3⟩
theorem fits_2 {k : IntKind} (x : List V) (h : Ty.fits (.st [.int k, .int k]) x) : ∃ a : Int × Int, x = [.int k a.1, .int k a.2] ∧ (k.min ≤ a.1 ∧ a.1 ≤ k.max) ∧ (k.min ≤ a.2 ∧ a.2 ≤ k.max) := by
  simp only [Ty.fits, Ty.fitss] at h
  obtain ⟨_, _, rfl, ⟨a, rfl, ha⟩, _, _, rfl, ⟨b, rfl, hb⟩, rfl⟩ := h
  exact ⟨(a, b), rfl, ha, hb⟩
theorem fits_3 {k : IntKind} (x : List V) (h : Ty.fits (.st [.int k, .int k, .int k]) x) :
    ∃ a : Int × Int × Int, x = [.int k a.1, .int k a.2.1, .int k a.2.2] ∧ (k.min ≤ a.1 ∧ a.1 ≤ k.max) ∧ (k.min ≤ a.2.1 ∧ a.2.1 ≤ k.max) ∧ (k.min ≤ a.2.2 ∧ a.2.2 ≤ k.max) := by
  simp only [Ty.fits, Ty.fitss] at h
  obtain ⟨_, _, rfl, ⟨a, rfl, ha⟩, _, _, rfl, ⟨b, rfl, hb⟩, _, _, rfl, ⟨c, rfl, hc⟩, rfl⟩ := h
  exact ⟨(a, b, c), rfl, ha, hb, hc⟩
theorem ok_2 {k : IntKind} {v : V} (h : Ty.ok (.st [.int k, .int k]) v) : ∃ a b, v = .agg [.int k a, .int k b] ∧ (k.min ≤ a ∧ a ≤ k.max) ∧ (k.min ≤ b ∧ b ≤ k.max) := by
  simp only [Ty.ok, Ty.isAgg, if_true] at h
  obtain ⟨l, rfl, h⟩ := h
  obtain ⟨a, rfl, h'⟩ := fits_2 _ h
  exact ⟨_, _, rfl, h'⟩
theorem ok_3 {k : IntKind} {v : V} (h : Ty.ok (.st [.int k, .int k, .int k]) v) : ∃ a b c, v = .agg [.int k a, .int k b, .int k c] ∧ (k.min ≤ a ∧ a ≤ k.max) ∧ (k.min ≤ b ∧ b ≤ k.max) ∧ (k.min ≤ c ∧ c ≤ k.max) := by
  simp only [Ty.ok, Ty.isAgg, if_true] at h
  obtain ⟨l, rfl, h⟩ := h
  obtain ⟨a, rfl, h'⟩ := fits_3 _ h
  exact ⟨_, _, _, rfl, h'⟩
theorem ok_2s {k : IntKind} {v : V} (h : Ty.ok (.sl (.st [.int k, .int k])) v) : ∃ l : List (Int × Int), v = .sl l.length (v2 k l) ∧ l.length ≤ 9223372036854775807 ∧ ∀ a ∈ l, (k.min ≤ a.1 ∧ a.1 ≤ k.max) ∧ (k.min ≤ a.2 ∧ a.2 ≤ k.max) := by
  obtain ⟨xs, rfl, h1, h2⟩ := ok_sl h
  obtain ⟨l, rfl, h3⟩ := fits_list fits_2 h2
  exact ⟨l, by rw [List.length_map]; rfl, by simpa using h1, h3⟩
theorem ok_3s {k : IntKind} {v : V} (h : Ty.ok (.sl (.st [.int k, .int k, .int k])) v) : ∃ l : List (Int × Int × Int), v = .sl l.length (v3 k l) ∧ l.length ≤ 9223372036854775807 ∧
    ∀ a ∈ l, (k.min ≤ a.1 ∧ a.1 ≤ k.max) ∧ (k.min ≤ a.2.1 ∧ a.2.1 ≤ k.max) ∧ (k.min ≤ a.2.2 ∧ a.2.2 ≤ k.max) := by
  obtain ⟨xs, rfl, h1, h2⟩ := ok_sl h
  obtain ⟨l, rfl, h3⟩ := fits_list fits_3 h2
  exact ⟨l, by rw [List.length_map]; rfl, by simpa using h1, h3⟩
theorem fits_ints (x : List V) (h : Ty.fits (.sl (.int .i64)) x) : ∃ a : List Int, x = [.sl a.length (vi .i64 a)] ∧ a.length ≤ 9223372036854775807 := by
  simp only [Ty.fits] at h
  obtain ⟨xs, rfl, h1, h2⟩ := h
  obtain ⟨l, rfl, h3⟩ := fits_list fits_int h2
  exact ⟨l, by rw [flat_vi]; simp, by simpa [maxLen] using h1⟩
theorem flat_vl {l : List (List Int)} : (l.map fun a => [V.sl a.length (vi .i64 a)]).flatten = vl l := by
  induction l <;> simp_all [vl]
theorem ok_rows {v : V} (h : Ty.ok (.sl (.sl (.int .i64))) v) : ∃ ls : List (List Int), v = .sl ls.length (vl ls) ∧ ls.length ≤ 9223372036854775807 ∧ ∀ l ∈ ls, l.length ≤ 9223372036854775807 := by
  obtain ⟨xs, rfl, h1, h2⟩ := ok_sl h
  obtain ⟨l, rfl, h3⟩ := fits_list fits_ints h2
  exact ⟨l, by rw [flat_vl]; simp, by simpa using h1, h3⟩
end Go.Proofs.YtjklebickfcddaaDoor.Sep

/- The rules of the evaluation, as few theorems. -/
import Derived.Test.YtjklebickfcddaaDoorSepX
namespace Go.Proofs.YtjklebickfcddaaDoor.Sep
open Go.RowKit
set_option linter.unusedVariables false
set_option linter.unusedSimpArgs false
set_option linter.constructorNameAsVariable false

theorem wrap_i64_of {n : Int} (h1 : -9223372036854775808 ≤ n) (h2 : n ≤ 9223372036854775807) : IntKind.i64.wrap n = n := by
  simp only [IntKind.wrap_i64, wrap64]; omega
theorem wrap_u8_of {n : Int} (h1 : 0 ≤ n) (h2 : n ≤ 255) : IntKind.u8.wrap n = n := by
  simp only [IntKind.wrap, IntKind.bits, IntKind.signed]; simp; omega
theorem wrap_u64_of {n : Int} (h1 : 0 ≤ n) (h2 : n ≤ 18446744073709551615) : IntKind.u64.wrap n = n := by
  simp only [IntKind.wrap, IntKind.bits, IntKind.signed]; simp; omega
theorem wrap_i32_of {n : Int} (h1 : -2147483648 ≤ n) (h2 : n ≤ 2147483647) : IntKind.i32.wrap n = n := by
  simp only [IntKind.wrap, IntKind.bits, IntKind.signed]; simp; omega

section
variable {P : Program} {n : Tp → Hp → Prop} {e : Nat → Tp → Hp → Prop} {r : Tp → Hp → Prop} {t : Tp} {h : Hp} {K : V → Hp → Prop}

theorem tput_at {d k : Nat} {v : V} : tput t d v k = if k = d then v else t k := rfl
theorem hput_at {b x : Nat} {s : Slot} : hput h b s x = if x = b then s else h x := rfl
theorem tund_at {k : Nat} : tund k = .und := rfl
theorem hnil_at {k : Nat} : hnil k = .free := rfl
theorem pev_tmp {k : Nat} : pev t (.tmp k) = t k := rfl
theorem pev_const {v : Value} : pev t (.const v) = ofVal v := rfl
theorem pev_func {f : FuncId} : pev t (.func f) = .fn f [] := rfl
theorem ofVal_int {k : IntKind} {n : Int} : ofVal (.int k n) = .int k n := rfl
theorem ofVal_bool {b : Bool} : ofVal (.bool b) = .bool b := rfl
theorem ofVal_str {l : List UInt8} : ofVal (.string ⟨⟨l⟩⟩) = .str l := by simp [ofVal]
theorem ofVal_nils : ofVal (.slice none 0 0) = .nils := by simp [ofVal]
theorem ofVal_nilp : ofVal (.pointer none) = .nilp := by simp [ofVal]
theorem ofVal_agg {l : List Value} : ofVal (.agg ⟨l⟩) = .agg (ofVals l) := by simp [ofVal]
theorem ofVals_nil : ofVals [] = [] := by simp [ofVals]
theorem ofVals_cons {v : Value} {l : List Value} : ofVals (v :: l) = ofVal v :: ofVals l := by simp [ofVals]

theorem argV_0 : argV [] = tund := by funext k; simp [argV, tund]
theorem argV_1 {a : V} : argV [a] = tput tund 0 a := by
  funext k; simp only [argV, tput, tund]; rcases k with _ | k <;> simp
theorem argV_2 {a b : V} : argV [a, b] = tput (tput tund 0 a) 1 b := by
  funext k; simp only [argV, tput, tund]; rcases k with _ | _ | k <;> simp
theorem argV_3 {a b c : V} : argV [a, b, c] = tput (tput (tput tund 0 a) 1 b) 2 c := by
  funext k; simp only [argV, tput, tund]; rcases k with _ | _ | _ | k <;> simp
theorem argV_4 {a b c d : V} : argV [a, b, c, d] = tput (tput (tput (tput tund 0 a) 1 b) 2 c) 3 d := by
  funext k; simp only [argV, tput, tund]; rcases k with _ | _ | _ | _ | k <;> simp
theorem argV_5 {a b c d e : V} : argV [a, b, c, d, e] = tput (tput (tput (tput (tput tund 0 a) 1 b) 2 c) 3 d) 4 e := by
  funext k; simp only [argV, tput, tund]; rcases k with _ | _ | _ | _ | _ | k <;> simp
theorem argV_6 {a b c d e f : V} : argV [a, b, c, d, e, f] = tput (tput (tput (tput (tput (tput tund 0 a) 1 b) 2 c) 3 d) 4 e) 5 f := by
  funext k; simp only [argV, tput, tund]; rcases k with _ | _ | _ | _ | _ | _ | k <;> simp
theorem argV_7 {a b c d e f g : V} : argV [a, b, c, d, e, f, g] = tput (tput (tput (tput (tput (tput (tput tund 0 a) 1 b) 2 c) 3 d) 4 e) 5 f) 6 g := by
  funext k; simp only [argV, tput, tund]; rcases k with _ | _ | _ | _ | _ | _ | _ | k <;> simp

theorem vpick_b {c : Bool} {a b : V} : vpick (.bool c) a b = some (if c then a else b) := rfl
section
variable {k k' : IntKind} {a b : Int}
theorem l_add : lift2 (abin .add) (.int k a) (.int k b) = some (.int k (k.wrap (a + b))) := by simp [lift2, toVal, abin, isSh, grd, aint, ofVal]
theorem l_sub : lift2 (abin .sub) (.int k a) (.int k b) = some (.int k (k.wrap (a - b))) := by simp [lift2, toVal, abin, isSh, grd, aint, ofVal]
theorem l_mul : lift2 (abin .mul) (.int k a) (.int k b) = some (.int k (k.wrap (a * b))) := by simp [lift2, toVal, abin, isSh, grd, aint, ofVal]
theorem l_quo : lift2 (abin .quo) (.int k a) (.int k b) = grd (b ≠ 0) (some (.int k (k.wrap (a.tdiv b)))) := by
  by_cases h : b = 0 <;> simp [lift2, toVal, abin, isSh, grd, aint, ofVal, h]
theorem l_rem : lift2 (abin .rem) (.int k a) (.int k b) = grd (b ≠ 0) (some (.int k (a.tmod b))) := by
  by_cases h : b = 0 <;> simp [lift2, toVal, abin, isSh, grd, aint, ofVal, h]
theorem l_and : lift2 (abin .and) (.int k a) (.int k b) = some (.int k (k.wrap ((BitVec.ofInt k.bits a &&& BitVec.ofInt k.bits b).toNat))) := by simp [lift2, toVal, abin, isSh, grd, aint, ofVal]
theorem l_or : lift2 (abin .or) (.int k a) (.int k b) = some (.int k (k.wrap ((BitVec.ofInt k.bits a ||| BitVec.ofInt k.bits b).toNat))) := by simp [lift2, toVal, abin, isSh, grd, aint, ofVal]
theorem l_xor : lift2 (abin .xor) (.int k a) (.int k b) = some (.int k (k.wrap ((BitVec.ofInt k.bits a ^^^ BitVec.ofInt k.bits b).toNat))) := by simp [lift2, toVal, abin, isSh, grd, aint, ofVal]
theorem l_eql : lift2 (abin .eql) (.int k a) (.int k b) = some (.bool (a == b)) := by simp [lift2, toVal, abin, isSh, grd, aint, ofVal]
theorem l_neq : lift2 (abin .neq) (.int k a) (.int k b) = some (.bool (a != b)) := by simp [lift2, toVal, abin, isSh, grd, aint, ofVal]
theorem l_lss : lift2 (abin .lss) (.int k a) (.int k b) = some (.bool (decide (a < b))) := by simp [lift2, toVal, abin, isSh, grd, aint, ofVal]
theorem l_leq : lift2 (abin .leq) (.int k a) (.int k b) = some (.bool (decide (a ≤ b))) := by simp [lift2, toVal, abin, isSh, grd, aint, ofVal]
theorem l_gtr : lift2 (abin .gtr) (.int k a) (.int k b) = some (.bool (decide (b < a))) := by simp [lift2, toVal, abin, isSh, grd, aint, ofVal]
theorem l_geq : lift2 (abin .geq) (.int k a) (.int k b) = some (.bool (decide (b ≤ a))) := by simp [lift2, toVal, abin, isSh, grd, aint, ofVal]
theorem l_shl : lift2 (abin .shl) (.int k a) (.int k' b) = grd (0 ≤ b) (some (.int k (k.wrap (a * 2 ^ (Nat.min b.toNat k.bits))))) := by
  by_cases h : 0 ≤ b <;> simp [lift2, toVal, abin, isSh, grd, ashift, ofVal, h]
theorem l_shr : lift2 (abin .shr) (.int k a) (.int k' b) = grd (0 ≤ b) (some (.int k (a.fdiv (2 ^ (Nat.min b.toNat k.bits))))) := by
  by_cases h : 0 ≤ b <;> simp [lift2, toVal, abin, isSh, grd, ashift, ofVal, h]
theorem l_not {b : Bool} : lift1 (aun .not) (.bool b) = some (.bool !b) := by simp [lift1, toVal, aun, ofVal]
theorem l_neg : lift1 (aun .neg) (.int k a) = some (.int k (k.wrap (-a))) := by simp [lift1, toVal, aun, ofVal]
theorem l_cvi : lift1 (acvi k) (.int k' a) = some (.int k (k.wrap a)) := by simp [lift1, toVal, acvi, ofVal]
theorem l_cvs {s : List UInt8} : lift1 acvs (.str s) = some (.str s) := by simp [lift1, toVal, acvs, ofVal]
theorem l_max : lift2 amax (.int k a) (.int k' b) = some (.int k (if a < b then b else a)) := by simp [lift2, toVal, amax, ofVal]
theorem l_min : lift2 amin (.int k a) (.int k' b) = some (.int k (if b < a then b else a)) := by simp [lift2, toVal, amin, ofVal]
theorem ba_app (s u : List UInt8) : (⟨s.toArray⟩ : ByteArray) ++ ⟨u.toArray⟩ = ⟨(s ++ u).toArray⟩ := by
  have : ∀ (x y : ByteArray), x.data = y.data → x = y := fun x y h => by cases x; cases y; simp at h; rw [h]
  apply this
  simp
theorem ba_list (s : List UInt8) : (⟨s.toArray⟩ : ByteArray).toList = s := by
  rw [ByteArray.toList_eq]
theorem ls_add {s u : List UInt8} : lift2 (abin .add) (.str s) (.str u) = grd ((s.length + u.length : Nat) ≤ (9223372036854775807 : Int)) (some (.str (s ++ u))) := by
  by_cases h : ((s.length + u.length : Nat) : Int) ≤ 9223372036854775807
  · simp only [lift2, toVal, abin, astr, grd, ByteArray.size, List.size_toArray, Option.bind_some, if_pos h, ba_app, Option.map_some, ofVal]
  · simp only [lift2, toVal, abin, astr, grd, ByteArray.size, List.size_toArray, Option.bind_some, if_neg h, Option.map_none]
theorem ls_eql {s u : List UInt8} : lift2 (abin .eql) (.str s) (.str u) = some (.bool (s == u)) := by simp [lift2, toVal, abin, astr, ofVal, ba_list]
theorem ls_neq {s u : List UInt8} : lift2 (abin .neq) (.str s) (.str u) = some (.bool (s != u)) := by simp [lift2, toVal, abin, astr, ofVal, ba_list, bne]
end

/-! ### What comes out -/
theorem VL_some {v : V} {K : V → Prop} : VL (some v) K = K v := rfl
theorem VL_none {K : V → Prop} : VL none K = False := rfl
theorem VL_grd {c : Prop} [Decidable c] {x : Option V} {K : V → Prop} : VL (grd c x) K = Rq c (VL x K) := by
  rw [VL_eq, VL_eq]; unfold OK grd Rq; by_cases hc : c <;> simp [hc]
theorem Rq_of {c X : Prop} (hc : c) : Rq c X = X := by simp [Rq, hc]
theorem Rq_and {a b X : Prop} : Rq (a ∧ b) X = Rq a (Rq b X) := by simp [Rq, and_assoc]
theorem Rq_true {X : Prop} : Rq True X = X := by simp [Rq]
theorem Rq_false {X : Prop} : Rq False X = False := by simp [Rq]
theorem Split_true {A B : Prop} : Split true A B = A := by simp [Split]
theorem Split_false {A B : Prop} : Split false A B = B := by simp [Split]
theorem pcond_sym {A B : Prop} {b : Bool} : pcond A B (.bool b) = Split b A B := rfl
theorem pgk_sym {w : Bool} {op : V → (V → Hp → Prop) → Prop} {k : V → V → Hp → Prop} {b : Bool} : pgk w h op k (.bool b) =
    Split b (cond w (op (.bool true) (k (.bool true))) (k (.bool true) (.tup []) h)) (cond w (k (.bool false) (.tup []) h) (op (.bool false) (k (.bool false)))) := rfl
theorem pgk_skip {w : Bool} {op : V → (V → Hp → Prop) → Prop} {k : V → V → Hp → Prop} : pgk w h op k (.tup []) = k (.tup []) (.tup []) h := rfl
theorem JN_def {F : (List V → Hp → Prop) → Prop} {G : List V → Hp → Prop} : JN F G = F G := rfl
theorem cond_t {α : Type} {x y : α} : cond true x y = x := rfl
theorem cond_f {α : Type} {x y : α} : cond false x y = y := rfl

/-! ### Congruences: nothing that is still to be evaluated is gone into while something comes out -/
section
@[congr] theorem VL_congr {x y : Option V} {K : V → Prop} (hx : x = y) : VL x K = VL y K := by rw [hx]
@[congr] theorem Rq_congr {c c' X : Prop} (hc : c = c') : Rq c X = Rq c' X := by rw [hc]
@[congr] theorem Split_congr {b b' : Bool} {A B : Prop} (hb : b = b') : Split b A B = Split b' A B := by rw [hb]
@[congr] theorem pcond_congr {A B : Prop} {v v' : V} (hv : v = v') : pcond A B v = pcond A B v' := by rw [hv]
@[congr] theorem pgk_congr {w : Bool} {op : V → (V → Hp → Prop) → Prop} {k : V → V → Hp → Prop} {v v' : V} (hv : v = v') : pgk w h op k v = pgk w h op k v' := by rw [hv]
@[congr] theorem pld_congr {m : Option Nat} {K : V → Hp → Prop} {v v' : V} (hv : v = v') : pld h m K v = pld h m K v' := by rw [hv]
@[congr] theorem pldB_congr {b off : Nat} {m : Option Nat} {K : V → Hp → Prop} {s s' : Slot} (hs : s = s') : pldB h b off m K s = pldB h b off m K s' := by rw [hs]
@[congr] theorem ldc_congr {b : Nat} {ty sz : Nat} {cs : List V} {off : Nat} {K : V → Hp → Prop} {v v' : V} (hv : v = v') : ldc h b ty sz cs off K v = ldc h b ty sz cs off K v' := by rw [hv]
@[congr] theorem pbox_congr {d' : Nat} {ty : TypeId} {cs cs' : List V} {K : Hp → Prop} (hc : cs = cs') : pbox h d' ty cs K = pbox h d' ty cs' K := by rw [hc]
@[congr] theorem palloc_congr {d' : Nat} {ty : TypeId} {cs cs' : List V} {K : Hp → Prop} (hc : cs = cs') : palloc h d' ty cs K = palloc h d' ty cs' K := by rw [hc]
@[congr] theorem pmks_congr {d' : Nat} {ty : TypeId} {zl len : Nat} {K : Hp → Prop} {x y : Option (List V)} (hx : x = y) : pmks h d' ty zl len K x = pmks h d' ty zl len K y := by rw [hx]
@[congr] theorem pmk_congr {d' : Nat} {ty : TypeId} {bytes : Nat} {z : List V} {K : V → Hp → Prop} {x x' y y' : V} (hx : x = x') (hy : y = y') : pmk h d' ty bytes z K x y = pmk h d' ty bytes z K x' y' := by rw [hx, hy]
@[congr] theorem pcp_congr {F : Nat → List V → Prop} {x y : Option (Nat × List V)} (hx : x = y) : pcp F x = pcp F y := by rw [hx]
@[congr] theorem pcpyV_congr {sz m : Nat} {K : V → Hp → Prop} {l l' : List V} {d d' : V} (hl : l = l') (hd : d = d') : pcpyV sz h K m l d = pcpyV sz h K m l' d' := by rw [hl, hd]
@[congr] theorem pclrV_congr {K : V → Hp → Prop} {z : List V} {d d' : V} (hd : d = d') : pclrV z h K d = pclrV z h K d' := by rw [hd]
@[congr] theorem papp_congr {K : Nat → List V → Prop} {av av' : Prop} {x y : Option (Nat × List V)} (ha : av = av') (hx : x = y) : papp h K av x = papp h K av' y := by rw [ha, hx]
@[congr] theorem papV_congr {ty : TypeId} {sz bytes d' m : Nat} {K : V → Hp → Prop} {news news' : List V} {s s' : V} (hn : news = news') (hs : s = s') : papV ty sz bytes d' h K m news s = papV ty sz bytes d' h K m news' s' := by rw [hn, hs]
@[congr] theorem papB_congr {ty : TypeId} {sz bytes d' b k m : Nat} {K : V → Hp → Prop} {news : List V} {s s' : Slot} (hs : s = s') : papB ty sz bytes d' h K b k m news s = papB ty sz bytes d' h K b k m news s' := by rw [hs]
@[congr] theorem pst_congr {m : Nat} {vs vs' : List V} {K : V → Hp → Prop} {a a' : V} (hv : vs = vs') (ha : a = a') : pst h m vs K a = pst h m vs' K a' := by rw [hv, ha]
@[congr] theorem pstB_congr {b off m : Nat} {vs : List V} {K : V → Hp → Prop} {s s' : Slot} (hs : s = s') : pstB h b off m vs K s = pstB h b off m vs K s' := by rw [hs]
@[congr] theorem pcal_congr {f : FuncId} {d' : Nat} {K : V → Hp → Prop} {vs vs' : List V} (hv : vs = vs') : pcal P f d' h K vs = pcal P f d' h K vs' := by rw [hv]
@[congr] theorem pcallv_congr {d' : Nat} {K : V → Hp → Prop} {vs vs' : List V} {f f' : V} (hv : vs = vs') (hf : f = f') : pcallv P vs d' h K f = pcallv P vs' d' h K f' := by rw [hv, hf]
@[congr] theorem FIN_congr {v v' : V} {Φ : V → Prop} (hv : v = v') : FIN h v Φ = FIN h v' Φ := by rw [hv]
@[congr] theorem OK_congr {α : Type} {x y : Option α} {K : α → Prop} (hxy : x = y) : OK x K = OK y K := by rw [hxy]
end

/-! ### Values -/
section
variable {l : List V} {b o off m s : Nat} {i : Int} {k : IntKind}
theorem vfa_ptr : vfa off (.ptr b o) = some (.ptr b (o + off)) := rfl
theorem vfa_pf : vfa off (.pf l o) = some (.pf l (o + off)) := rfl
theorem vfd_agg {q : Option Nat} : vfd q off (.agg l) = vcellsAt l off q := rfl
theorem vcell_none : vcellsAt l off none = grd (off < l.length) (some (l.getD off .und)) := rfl
theorem vcell_some : vcellsAt l off (some m) = grd (off + m ≤ l.length) (some (.agg ((l.drop off).take m))) := rfl
theorem vixA_ptr : vixA m s (.ptr b o) (.int k i) = grd (0 ≤ i ∧ i < m) (some (.ptr b (o + i.toNat * s))) := rfl
theorem vixA_pf : vixA m s (.pf l o) (.int k i) = grd (0 ≤ i ∧ i < m) (some (.pf l (o + i.toNat * s))) := rfl
theorem vixS_rf : vixS s (.rf b o m) (.int k i) = grd (0 ≤ i ∧ i < m) (some (.ptr b (o + i.toNat * s))) := rfl
theorem vixS_fz {x : Value} {l : List Int} : vixS s (.fz x l) (.int k i) = grd (0 ≤ i ∧ i < l.length ∧ s = 1) (some (.pf (l.map (V.int .u8)) i.toNat)) := rfl
theorem vixS_sl : vixS s (.sl m l) (.int k i) = grd (0 ≤ i ∧ i < m ∧ i.toNat * s < l.length) (some (.pf l (i.toNat * s))) := rfl
theorem vixV_agg {q : Option Nat} : vixV m s q (.agg l) (.int k i) = grd (0 ≤ i ∧ i < m) (vcellsAt l (i.toNat * s) q) := rfl
theorem vixT_str {u : List UInt8} : vixT (.str u) (.int k i) = grd (0 ≤ i ∧ i < u.length) (some (.int .u8 (u.getD i.toNat 0).toNat)) := rfl
theorem vext_tup {j : Nat} : vext j (.tup l) = l[j]? := rfl
theorem vlenS_rf : vlenS (.rf b o m) = some (.int .i64 m) := rfl
theorem vlenS_fz {x : Value} {l : List Int} : vlenS (.fz x l) = some (.int .i64 l.length) := rfl
theorem vlenS_sl : vlenS (.sl m l) = some (.int .i64 m) := rfl
theorem vlenS_nils : vlenS .nils = some (.int .i64 0) := rfl
theorem vlenT_str {u : List UInt8} : vlenT (.str u) = some (.int .i64 u.length) := rfl
theorem vnilS_nils {g : Bool} : vnilS g .nils = some (.bool !g) := rfl
theorem vnilS_rf {g : Bool} : vnilS g (.rf b o m) = some (.bool g) := rfl
theorem vbnd_none {d : Nat} : vbnd d none = some (d : Int) := rfl
theorem vbnd_some {d : Nat} : vbnd d (some (.int k i)) = some i := rfl
theorem vslS_sl {lo hi : Option V} : vslS s (.sl m l) lo hi = (vbnd 0 lo).bind fun a => (vbnd m hi).bind fun c =>
      grd (0 < m ∧ 0 ≤ a ∧ a ≤ c ∧ c ≤ m ∧ m * s ≤ l.length) (some (.sl (c.toNat - a.toNat) ((l.drop (a.toNat * s)).take ((c.toNat - a.toNat) * s)))) := rfl
theorem vslS_rf {lo hi : Option V} : vslS s (.rf b o m) lo hi = (vbnd 0 lo).bind fun a => (vbnd m hi).bind fun c =>
      grd (0 ≤ a ∧ a ≤ c ∧ c ≤ m ∧ (0 < s ∨ a = 0)) (some (.rf b (o + a.toNat * s) (c.toNat - a.toNat))) := rfl
theorem vslS_nils {lo hi : Option V} : vslS s .nils lo hi = (vbnd 0 lo).bind fun a => (vbnd 0 hi).bind fun c => grd (a = 0 ∧ c = 0) (some .nils) := rfl
theorem vslT_str {u : List UInt8} {lo hi : Option V} : vslT (.str u) lo hi = (vbnd 0 lo).bind fun a => (vbnd u.length hi).bind fun c =>
      grd (0 ≤ a ∧ a ≤ c ∧ c ≤ u.length) (some (.str ((u.drop a.toNat).take (c.toNat - a.toNat)))) := rfl
theorem vmkf_f {f : FuncId} : vmkf (.func f) [] l = some (.fn f l) := rfl
theorem bind_some' {α β : Type} {a : α} {f : α → Option β} : (some a).bind f = f a := rfl
theorem bind_none' {α β : Type} {f : α → Option β} : (none : Option α).bind f = none := rfl
theorem vbld_some : vbld (some l) = some (.agg l) := rfl
theorem vbld_grd {c : Prop} [Decidable c] {x : Option (List V)} : vbld (grd c x) = grd c (vbld x) := by by_cases hc : c <;> simp [vbld, grd, hc]
theorem vfill_nil : vfill l [] = some l := rfl
theorem vfill_cons {j q : Nat} {v : V} {ps : List (Nat × Nat × V)} : vfill l ((j, q, v) :: ps) = grd (cellOk v = true ∧ (cellsV v).length = q ∧ j + q ≤ l.length) (vfill (l.take j ++ cellsV v ++ l.drop (j + q)) ps) := rfl
theorem veqa_def {g ag : Bool} {sg : List Sg} {x y : V} : veqa g ag sg x y = grd (cellOk x = true ∧ cellOk y = true ∧ isAggP x = ag ∧ isAggP y = ag) ((vleq sg (cellsV x) (cellsV y)).bind fun b => some (.bool (if g then !b else b))) := rfl
theorem vleq_nil : vleq [] [] [] = some true := rfl
theorem vleq_cons {a : Sg} {as : List Sg} {x y : V} {xs ys : List V} : vleq (a :: as) (x :: xs) (y :: ys) = (vveq a x y).bind fun b => if b then vleq as xs ys else (vleq as xs ys).bind fun _ => some false := rfl
theorem vveq_i {a c : Int} : vveq (.i k) (.int k a) (.int k c) = some (a == c) := by simp [vveq, toVal, veq, grd]
theorem vveq_b {a c : Bool} : vveq .b (.bool a) (.bool c) = some (a == c) := rfl
theorem ite_bool {α : Type} {c : Bool} {x y : α} : (if c = true then x else y) = cond c x y := by cases c <;> rfl
theorem vleq_if {c d : Bool} : (if c = true then some d else (some d : Option Bool).bind fun _ => some false) = some (c && d) := by cases c <;> rfl
theorem vleq_if2 {c d : Bool} : (if c = true then some d else some false) = some (c && d) := by cases c <;> rfl
theorem boolEq_true {c : Bool} : (c == true) = c := by cases c <;> rfl
theorem bneb {c : Bool} : (if (true : Bool) = true then !c else c) = !c := rfl
theorem beqb {c : Bool} : (if (false : Bool) = true then !c else c) = c := rfl

theorem cellsV_agg : cellsV (.agg l) = l := rfl
theorem cellsV_int {a : Int} : cellsV (.int k a) = [.int k a] := rfl
theorem cellsV_bool {c : Bool} : cellsV (.bool c) = [.bool c] := rfl
theorem cellsV_str {u : List UInt8} : cellsV (.str u) = [.str u] := rfl
theorem cellsV_ptr : cellsV (.ptr b o) = [.ptr b o] := rfl
theorem cellsV_rf : cellsV (.rf b o m) = [.rf b o m] := rfl
theorem cellsV_fz {x : Value} {l : List Int} : cellsV (.fz x l) = [.fz x l] := rfl
theorem cellsV_sl : cellsV (.sl m l) = [.sl m l] := rfl
theorem cellsV_nils : cellsV .nils = [.nils] := rfl
theorem cellsV_nilp : cellsV .nilp = [.nilp] := rfl
theorem cellsV_fn {f : FuncId} : cellsV (.fn f l) = [.fn f l] := rfl
theorem cellOk_agg : cellOk (.agg l) = true := rfl
theorem cellOk_int {a : Int} : cellOk (.int k a) = true := rfl
theorem cellOk_bool {c : Bool} : cellOk (.bool c) = true := rfl
theorem cellOk_str {u : List UInt8} : cellOk (.str u) = true := rfl
theorem cellOk_ptr : cellOk (.ptr b o) = true := rfl
theorem cellOk_rf : cellOk (.rf b o m) = true := rfl
theorem cellOk_fz {x : Value} {l : List Int} : cellOk (.fz x l) = true := rfl
theorem cellOk_sl : cellOk (.sl m l) = true := rfl
theorem cellOk_nils : cellOk .nils = true := rfl
theorem cell1_int {a : Int} : cell1 (.int k a) = true := rfl
theorem cell1_bool {c : Bool} : cell1 (.bool c) = true := rfl
theorem cell1_str {u : List UInt8} : cell1 (.str u) = true := rfl
theorem cell1_ptr : cell1 (.ptr b o) = true := rfl
theorem cell1_rf : cell1 (.rf b o m) = true := rfl
theorem cell1_fz {x : Value} {l : List Int} : cell1 (.fz x l) = true := rfl
theorem cell1_sl : cell1 (.sl m l) = true := rfl
theorem cell1_nils : cell1 .nils = true := rfl
theorem cell1_fn {f : FuncId} : cell1 (.fn f l) = true := rfl
theorem plain1_int {a : Int} : plain1 (.int k a) = true := rfl
theorem plain1_bool {c : Bool} : plain1 (.bool c) = true := rfl
theorem plain1_str {u : List UInt8} : plain1 (.str u) = true := rfl
theorem plain1_ptr : plain1 (.ptr b o) = true := rfl
theorem plain1_rf : plain1 (.rf b o m) = true := rfl
theorem plain1_fz {x : Value} {l : List Int} : plain1 (.fz x l) = true := rfl
theorem plain1_sl : plain1 (.sl m l) = true := rfl
theorem plain1_nils : plain1 .nils = true := rfl
theorem plain1_fn {f : FuncId} : plain1 (.fn f l) = true := rfl
theorem noOwn_nil : noOwn [] = true := rfl
theorem noOwn_cons {v : V} : noOwn (v :: l) = (plain1 v && noOwn l) := rfl
theorem noOwn_app {l' : List V} : noOwn (l ++ l') = (noOwn l && noOwn l') := by simp [noOwn]
theorem isAggP_agg : isAggP (.agg l) = true := rfl
theorem isAggP_int {a : Int} : isAggP (.int k a) = false := rfl
theorem isAggP_bool {c : Bool} : isAggP (.bool c) = false := rfl
theorem isAggP_str {u : List UInt8} : isAggP (.str u) = false := rfl

/-! ### Memory -/
variable {ty sz : Nat} {cs vs : List V}
theorem pld_ptr {q : Option Nat} : pld h q K (.ptr b off) = pldB h b off q K (h b) := rfl
theorem pld_pf {q : Option Nat} : pld h q K (.pf l off) = VL (vcellsAt l off q) fun v => K v h := by rw [VL_eq]; rfl
theorem pldB_none : pldB h b off none K (.row ty sz cs) = Rq (off < cs.length) (ldc h b ty sz cs off K (cs.getD off .und)) := rfl
theorem pldB_some : pldB h b off (some m) K (.row ty sz cs) = Rq (off + m ≤ cs.length ∧ noOwn ((cs.drop off).take m) = true) (K (.agg ((cs.drop off).take m)) h) := rfl
theorem ldc_int {a : Int} : ldc h b ty sz cs off K (.int k a) = K (.int k a) h := rfl
theorem ldc_bool {a : Bool} : ldc h b ty sz cs off K (.bool a) = K (.bool a) h := rfl
theorem ldc_str {a : List UInt8} : ldc h b ty sz cs off K (.str a) = K (.str a) h := rfl
theorem ldc_ptr {b2 o2 : Nat} : ldc h b ty sz cs off K (.ptr b2 o2) = K (.ptr b2 o2) h := rfl
theorem ldc_rf {b2 o2 m2 : Nat} : ldc h b ty sz cs off K (.rf b2 o2 m2) = K (.rf b2 o2 m2) h := rfl
theorem ldc_fz {x : Value} {l : List Int} : ldc h b ty sz cs off K (.fz x l) = K (.fz x l) h := rfl
theorem ldc_sl : ldc h b ty sz cs off K (.sl m l) = K (.sl m l) h := rfl
theorem ldc_nils : ldc h b ty sz cs off K .nils = K .nils h := rfl
theorem ldc_nilp : ldc h b ty sz cs off K .nilp = K .nilp h := rfl
theorem ldc_fn {f : FuncId} : ldc h b ty sz cs off K (.fn f l) = K (.fn f l) h := rfl
theorem ldc_frz {e2 : TypeId} {sz2 n2 : Nat} {l2 : List V} (H : K (.sl n2 (vws l2)) (hput h b (.row ty sz (cs.set off (.sl n2 (vws l2)))))) : ldc h b ty sz cs off K (.own e2 sz2 n2 l2) := .inl H
theorem ldc_open {e2 : TypeId} {sz2 n2 : Nat} {l2 : List V} (d : Nat) (h64 : 64 ≤ d) (H : Rq (h d = .free) (K (.rf d 0 n2) (hput (hput h b (.row ty sz (cs.set off (.rf d 0 n2)))) d (.row e2 sz2 l2)))) : ldc h b ty sz cs off K (.own e2 sz2 n2 l2) :=
  .inr ⟨d, ⟨h64, H.1⟩, H.2⟩
theorem pst_ptr : pst h m vs K (.ptr b off) = pstB h b off m vs K (h b) := rfl
theorem pstB_row : pstB h b off m vs K (.row ty sz cs) = Rq (vs.length = m ∧ off + m ≤ cs.length ∧ vs.all cell1 = true) (K .und (hput h b (.row ty sz (setV cs off vs)))) := rfl
theorem setV_one {v : V} : setV cs off [v] = cs.set off v := rfl
theorem setV_two {v v' : V} : setV cs off (v :: v' :: l) = cs.take off ++ (v :: v' :: l) ++ cs.drop (off + (l.length + 2)) := rfl
theorem hput_same {s s' : Slot} : hput (hput h b s) b s' = hput h b s' := by funext x; simp only [hput]; split <;> rfl
theorem setV_more (hm : vs.length ≠ 1) : setV cs off vs = cs.take off ++ vs ++ cs.drop (off + vs.length) := by
  unfold setV; split
  · simp at hm
  · rfl
theorem pbox_def {d : Nat} {G : Hp → Prop} : pbox h d ty cs G = Rq (h d = .free ∧ cs.all cell1 = true) (G (hput h d (.row ty 1 cs))) := rfl
theorem pmks_some {d zl len : Nat} {G : Hp → Prop} : pmks h d ty zl len G (some cs) = Rq (h d = .free ∧ cs.all cell1 = true ∧ len ≤ maxLen ∧ (zl = if len = 0 then 0 else len * (zl / len)) ∧ (len = 0 ∨ zl ≠ 0)) (G (hput h d (.row ty (if len = 0 then 0 else zl / len) cs))) := by
  simp [pmks, OK]
theorem pmks_grd {d zl len : Nat} {G : Hp → Prop} {c : Prop} [Decidable c] {x : Option (List V)} : pmks h d ty zl len G (grd c x) = Rq c (pmks h d ty zl len G x) := by
  by_cases hc : c <;> simp [pmks, OK, grd, Rq, hc]
theorem palloc_def {d : Nat} {G : Hp → Prop} : palloc h d ty cs G = Rq (h d = .free) (G (hput h d (.row ty 1 cs))) := rfl
theorem pmk_int {d bytes : Nat} {z : List V} {G : V → Hp → Prop} {k1 k2 : IntKind} {a c : Int} : pmk h d ty bytes z G (.int k1 a) (.int k2 c) =
    Rq (h d = .free ∧ 0 ≤ a ∧ a ≤ c ∧ (bytes : Int) * c ≤ 281474976710656 ∧ c ≤ maxLen ∧ z ≠ []) (G (.rf d 0 a.toNat) (hput h d (.row ty z.length ((List.replicate c.toNat z).flatten)))) := rfl
theorem pcp_some {G : Nat → List V → Prop} : pcp G (some (m, vs)) = G m vs := by simp [pcp, OK]
theorem pcp_grd {G : Nat → List V → Prop} {c : Prop} [Decidable c] {x : Option (Nat × List V)} : pcp G (grd c x) = Rq c (pcp G x) := by
  by_cases hc : c <;> simp [pcp, OK, grd, Rq, hc]
theorem pcpyV_nils {l : List V} : pcpyV sz h K m l .nils = K (.int .i64 0) h := rfl
theorem pcpyV_rf0 {l : List V} {b o n : Nat} (h0 : m = 0 ∨ n = 0) : pcpyV sz h K m l (.rf b o n) = K (.int .i64 0) h := by
  simp only [pcpyV]; rw [if_pos (by omega)]
theorem pcpyV_rf {l : List V} {b o n : Nat} (h0 : 0 < m ∧ 0 < n) : pcpyV sz h K m l (.rf b o n) = pst h (min m n * sz) (l.take (min m n * sz)) (fun _ h => K (.int .i64 (min m n : Nat)) h) (.ptr b o) := by
  simp only [pcpyV]; rw [if_neg (by omega)]
theorem pclrV_nils {z : List V} : pclrV z h K .nils = K (.tup []) h := rfl
theorem pclrV_rf0 {z : List V} {b o n : Nat} (h0 : n = 0) : pclrV z h K (.rf b o n) = K (.tup []) h := by
  simp only [pclrV]; rw [if_pos h0]
theorem pclrV_rf {z : List V} {b o n : Nat} (h0 : 0 < n) : pclrV z h K (.rf b o n) = pst h (n * z.length) (List.replicate n z).flatten (fun _ h => K (.tup []) h) (.ptr b o) := by
  simp only [pclrV]; rw [if_neg (by omega)]
theorem papp_some {G : Nat → List V → Prop} {av : Prop} : papp h G av (some (m, vs)) = Rq (vs.all cell1 = true ∧ av) (G m vs) := by simp [papp, OK]
theorem papp_grd {G : Nat → List V → Prop} {av c : Prop} [Decidable c] {x : Option (Nat × List V)} : papp h G av (grd c x) = Rq c (papp h G av x) := by
  by_cases hc : c <;> simp [papp, OK, grd, Rq, hc]
theorem preadS_nils : preadS sz h .nils = some (0, []) := rfl
theorem preadS_sl : preadS sz h (.sl m l) = grd (0 < sz ∧ m * sz ≤ l.length) (some (m, l.take (m * sz))) := rfl
theorem preadS_rf : preadS sz h (.rf b o m) = preadB sz o m (h b) := rfl
theorem preadB_row {s2 : Nat} : preadB sz o m (.row ty s2 cs) = grd (o + m * sz ≤ cs.length ∧ noOwn ((cs.drop o).take (m * sz)) = true) (some (m, (cs.drop o).take (m * sz))) := rfl
theorem papV_rf {bytes d q : Nat} : papV ty sz bytes d h K q vs (.rf b 0 m) = papB ty sz bytes d h K b m q vs (h b) := rfl
theorem papV_nils {bytes d q : Nat} : papV ty sz bytes d h K q vs .nils = ((q = 0 → K .nils h) ∧ (0 < q → Rq (0 < sz ∧ q ≤ maxLen ∧ q * bytes ≤ 140737488355328 ∧ h d = .free) (K (.rf d 0 q) (hput h d (.row ty sz vs))))) := rfl
theorem papV_nils1 {bytes d q : Nat} (hq : 0 < q) : papV ty sz bytes d h K q vs .nils = Rq (0 < sz ∧ q ≤ maxLen ∧ q * bytes ≤ 140737488355328 ∧ h d = .free) (K (.rf d 0 q) (hput h d (.row ty sz vs))) := by
  have : q ≠ 0 := by omega
  simp [papV, this, hq]
theorem papB_row {bytes d q e' s' : Nat} : papB ty sz bytes d h K b m q vs (.row e' s' cs) = Rq (e' = ty ∧ (s' = sz ∨ s' = 0) ∧ 0 < sz ∧ m * sz ≤ cs.length ∧ m + q ≤ maxLen ∧ (m + q) * bytes ≤ 140737488355328 ∧ h d = .free)
      (K (.rf d 0 (m + q)) (hput (hput h b .dead) d (.row ty sz (cs.take (m * sz) ++ vs)))) := rfl
theorem pavs_nil {x : V} : pavs h x [] = True := rfl
theorem pavs_cons {x y : V} {ys : List V} : pavs h x (y :: ys) = (pavoid h x y ∧ pavs h x ys) := rfl
theorem pops1_nil : pops1 t [] = [] := rfl
theorem pops1_cons {x : Operand} {ys : List Operand} : pops1 t (x :: ys) = pev t x :: pops1 t ys := rfl
theorem pparts_nil : pparts t [] = [] := rfl
theorem pparts_cons {a q : Nat} {x : Operand} {ys : List (Nat × Nat × Operand)} : pparts t ((a, q, x) :: ys) = (a, q, pev t x) :: pparts t ys := rfl
theorem popt_none : popt t none = none := rfl
theorem popt_some {x : Operand} : popt t (some x) = some (pev t x) := rfl

/-! ### Results -/
variable {Φ : V → Prop} {res : List ARes}
theorem FIN_def {v : V} : FIN h v Φ = OK (fin 5 h v) fun p => Rq (clo p.1 = true) (Φ p.1) := rfl
def pcellB (off : Nat) (q : Option Nat) : Slot → Option V
  | .row _ _ cs => grd (noOwn cs = true) (vcellsAt cs off q)
  | _ => none
theorem pcellV_ptr {q : Option Nat} : pcellV h q (.ptr b off) = pcellB off q (h b) := rfl
theorem pcellB_row {q : Option Nat} : pcellB off q (.row ty sz cs) = grd (noOwn cs = true) (vcellsAt cs off q) := rfl
theorem OK_some {α : Type} {x : α} {G : α → Prop} : OK (some x) G = G x := by simp [OK]
theorem OK_none {α : Type} {G : α → Prop} : OK none G = False := by simp [OK]
theorem OK_grd {α : Type} {c : Prop} [Decidable c] {x : Option α} {G : α → Prop} : OK (grd c x) G = Rq c (OK x G) := by
  unfold OK grd Rq; by_cases hc : c <;> simp [hc]
theorem OK_bind {α β : Type} {x : Option α} {f : α → Option β} {G : β → Prop} : OK (x.bind f) G = OK x fun v => OK (f v) G := by
  cases x <;> simp [OK]
theorem OK_map {α β : Type} {x : Option α} {f : α → β} {G : β → Prop} : OK (x.map f) G = OK x fun v => G (f v) := by
  cases x <;> simp [OK]
theorem fin_int {q : Nat} {a : Int} : fin (q + 1) h (.int k a) = some (.int k a, h) := rfl
theorem fin_bool {q : Nat} {a : Bool} : fin (q + 1) h (.bool a) = some (.bool a, h) := rfl
theorem fin_str {q : Nat} {a : List UInt8} : fin (q + 1) h (.str a) = some (.str a, h) := rfl
theorem fin_fz {q : Nat} {x : Value} {l : List Int} : fin (q + 1) h (.fz x l) = some (.fz x l, h) := rfl
theorem fin_sl {q : Nat} : fin (q + 1) h (.sl m l) = some (.sl m l, h) := rfl
theorem fin_nils {q : Nat} : fin (q + 1) h .nils = some (.nils, h) := rfl
theorem fin_nilp {q : Nat} : fin (q + 1) h .nilp = some (.nilp, h) := rfl
theorem fin_fn {q : Nat} {f : FuncId} : fin (q + 1) h (.fn f l) = some (.fn f l, h) := rfl
theorem fin_own {q : Nat} : fin (q + 1) h (.own ty sz m l) = some (.own ty sz m l, h) := rfl
theorem fin_agg {q : Nat} : fin (q + 1) h (.agg l) = (folds (fin q) h l).map fun p => (.agg p.1, p.2) := rfl
theorem fin_tup {q : Nat} : fin (q + 1) h (.tup l) = (folds (fin q) h l).map fun p => (.tup p.1, p.2) := rfl
def finB (q : Nat) (h : Hp) (b m : Nat) : Slot → Option (V × Hp)
  | .row e sz cs => grd (m * sz ≤ cs.length ∧ (sz = 0 → cs = [])) ((folds (fin q) (hput h b .dead) (cs.take (m * sz))).map fun p => (.own e sz m p.1, p.2))
  | _ => none
theorem fin_rf {q : Nat} : fin (q + 1) h (.rf b 0 m) = finB q h b m (h b) := by
  simp only [fin, finB]; cases h b <;> simp [true_and]
theorem finB_row {q : Nat} : finB q h b m (.row ty sz cs) = grd (m * sz ≤ cs.length ∧ (sz = 0 → cs = [])) ((folds (fin q) (hput h b .dead) (cs.take (m * sz))).map fun p => (.own ty sz m p.1, p.2)) := rfl
theorem folds_nil {f : Hp → V → Option (V × Hp)} : folds f h [] = some ([], h) := rfl
theorem folds_cons {f : Hp → V → Option (V × Hp)} {v : V} : folds f h (v :: l) = (f h v).bind fun p => (folds f p.2 l).map fun q => (p.1 :: q.1, q.2) := rfl
theorem folds_app {f : Hp → V → Option (V × Hp)} : ∀ {l l' : List V} {h : Hp}, folds f h (l ++ l') = (folds f h l).bind fun p => (folds f p.2 l').map fun q => (p.1 ++ q.1, q.2)
  | [], l', h => by simp only [List.nil_append, folds_nil, bind_some']; cases folds f h l' <;> rfl
  | v :: l, l', h => by
    simp only [List.cons_append, folds_cons]
    cases f h v with
    | none => rfl
    | some p =>
      simp only [bind_some', folds_app (l := l) (l' := l') (h := p.2)]
      cases folds f p.2 l with
      | none => rfl
      | some p2 => simp only [bind_some', Option.map_some]; cases folds f p2.2 l' <;> rfl
/-- Nothing is to be taken out. -/
def still : V → Bool
  | .rf .. | .ptr .. | .agg _ | .tup _ => false
  | _ => true
theorem fin_still {q : Nat} {v : V} (hv : still v = true) : fin (q + 1) h v = some (v, h) := by cases v <;> simp_all [still, fin]
theorem folds_still {q : Nat} : ∀ {l : List V}, l.all still = true → folds (fin (q + 1)) h l = some (l, h)
  | [], _ => rfl
  | v :: l, hl => by
    simp only [List.all_cons, Bool.and_eq_true] at hl
    rw [folds_cons, fin_still hl.1, bind_some', folds_still hl.2]; rfl
theorem clo_int {a : Int} : clo (.int k a) = true := by simp [clo]
theorem clo_bool {a : Bool} : clo (.bool a) = true := by simp [clo]
theorem clo_str {a : List UInt8} : clo (.str a) = true := by simp [clo]
theorem clo_nils : clo .nils = true := by simp [clo]
theorem clo_fz {x : Value} {l : List Int} : clo (.fz x l) = false := by simp [clo]
theorem clo_nilp : clo .nilp = true := by simp [clo]
theorem clo_und : clo .und = true := by simp [clo]
theorem clo_agg : clo (.agg l) = clos l := by simp [clo]
theorem clo_tup : clo (.tup l) = clos l := by simp [clo]
theorem clo_own : clo (.own ty sz m l) = clos l := by simp [clo]
theorem clos_nil : clos [] = true := by simp [clos]
theorem clos_cons {v : V} : clos (v :: l) = (clo v && clos l) := by simp [clos]
theorem clos_app : ∀ {l l' : List V}, clos (l ++ l') = (clos l && clos l')
  | [], l' => by simp [clos]
  | v :: l, l' => by simp [clos, clos_app (l := l), Bool.and_assoc]
end
end

/-! ### Calls -/
section
variable {P : Program} {h : Hp} {K : V → Hp → Prop} {k : IntKind} {l l' : List V} {b o n c : Nat} {ty sz : Nat} {cs : List V}
def dvB (n off : Nat) : Slot → V
  | .row _ sz cs => .sl n (vws ((cs.drop off).take (n * sz)))
  | _ => .und
theorem dv_int {a : Int} : dv h (.int k a) = .int k a := by simp [dv]
theorem dv_bool {a : Bool} : dv h (.bool a) = .bool a := by simp [dv]
theorem dv_str {a : List UInt8} : dv h (.str a) = .str a := by simp [dv]
theorem dv_nils : dv h .nils = .nils := by simp [dv]
theorem dv_fz {x : Value} {l : List Int} : dv h (.fz x l) = .fz x l := by simp [dv]
theorem dv_nilp : dv h .nilp = .nilp := by simp [dv]
theorem dv_und : dv h .und = .und := by simp [dv]
def dvP (o : Nat) : Slot → V
  | .row _ _ cs => .pf (vws cs) o
  | _ => .und
theorem dv_ptr : dv h (.ptr b o) = dvP o (h b) := by simp only [dv]; cases h b <;> rfl
theorem dvP_row : dvP o (.row ty sz cs) = .pf (vws cs) o := rfl
theorem dv_sl : dv h (.sl n l) = .sl n (vws l) := by simp [dv]
theorem dv_rf : dv h (.rf b o n) = dvB n o (h b) := by simp only [dv]; cases h b <;> rfl
theorem dvB_row : dvB n o (.row ty sz cs) = .sl n (vws ((cs.drop o).take (n * sz))) := rfl
theorem dv_agg : dv h (.agg l) = .agg (dvs h l) := by simp [dv]
theorem dv_tup : dv h (.tup l) = .tup (dvs h l) := by simp [dv]
theorem dv_fn {f : FuncId} : dv h (.fn f l) = .fn f (dvs h l) := by simp [dv]
theorem dvs_nil : dvs h [] = [] := by simp [dvs]
theorem dvs_cons {v : V} : dvs h (v :: l) = dv h v :: dvs h l := by simp [dvs]
theorem dvs_app : dvs h (l ++ l') = dvs h l ++ dvs h l' := by induction l <;> simp_all [dvs]
theorem vw_int {a : Int} : vw (.int k a) = .int k a := by simp [vw]
theorem vw_bool {a : Bool} : vw (.bool a) = .bool a := by simp [vw]
theorem vw_str {a : List UInt8} : vw (.str a) = .str a := by simp [vw]
theorem vw_nils : vw .nils = .nils := by simp [vw]
theorem vw_fz {x : Value} {l : List Int} : vw (.fz x l) = .fz x l := by simp [vw]
theorem vw_nilp : vw .nilp = .nilp := by simp [vw]
theorem vw_sl : vw (.sl n l) = .sl n (vws l) := by simp [vw]
theorem vw_own : vw (.own ty sz n l) = .sl n (vws l) := by simp [vw]
theorem vw_agg : vw (.agg l) = .agg (vws l) := by simp [vw]
theorem vw_tup : vw (.tup l) = .tup (vws l) := by simp [vw]
theorem vws_nil : vws [] = [] := by simp [vws]
theorem vws_cons {v : V} : vws (v :: l) = vw v :: vws l := by simp [vws]
theorem vws_app : vws (l ++ l') = vws l ++ vws l' := by induction l <;> simp_all [vws]
theorem mat_int {a : Int} : mat (.int k a) c = (.int k a, [], c) := by simp [mat]
theorem mat_bool {a : Bool} : mat (.bool a) c = (.bool a, [], c) := by simp [mat]
theorem mat_str {a : List UInt8} : mat (.str a) c = (.str a, [], c) := by simp [mat]
theorem mat_nils : mat .nils c = (.nils, [], c) := by simp [mat]
theorem mat_fz {x : Value} {l : List Int} : mat (.fz x l) c = (.fz x l, [], c) := by simp [mat]
theorem mat_nilp : mat .nilp c = (.nilp, [], c) := by simp [mat]
theorem mat_sl : mat (.sl n l) c = (.sl n l, [], c) := by simp [mat]
theorem mat_own : mat (.own ty sz n l) c = (.rf c 0 n, [(c, ty, sz, l)], c + 1000) := by simp [mat]
theorem mat_agg : mat (.agg l) c = (.agg (mats l c).1, (mats l c).2) := by simp [mat]
theorem mat_tup : mat (.tup l) c = (.tup (mats l c).1, (mats l c).2) := by simp [mat]
theorem mats_nil : mats [] c = ([], [], c) := by simp [mats]
theorem mats_cons {v : V} : mats (v :: l) c = ((mat v c).1 :: (mats l (mat v c).2.2).1, (mat v c).2.1 ++ (mats l (mat v c).2.2).2.1, (mats l (mat v c).2.2).2.2) := by simp [mats]
theorem hputs_nil : hputs h [] = h := rfl
theorem hputs_cons {r : List (Nat × TypeId × Nat × List V)} : hputs h ((b, ty, sz, l) :: r) = hputs (hput h b (.row ty sz l)) r := rfl
theorem allFree_nil : allFree h [] = True := rfl
theorem allFree_cons {r : List (Nat × TypeId × Nat × List V)} : allFree h ((b, ty, sz, l) :: r) = (h b = .free ∧ allFree (hput h b (.row ty sz l)) r) := rfl

/-- A call, its arguments as they are seen; 'o': as they are, and whether it may turn blocks. -/
def pcd (P : Program) (f : FuncId) (d : Nat) (h : Hp) (K : V → Hp → Prop) (ws : List V) (m : Bool) (o : List V) : Prop :=
  ((∃ Φ, PSpec P f ws Φ ∧ ((∀ v, Φ v → K (vw v) h) ∨ (∀ v, Φ v → Rq (allFree h (mat v d).2.1) (K (mat v d).1 (hputs h (mat v d).2.1))))) ∨
    (nrfs o = true ∧ ∃ Φ, PSpecV P f o Φ ∧ ((∀ v, Φ v → K (vw v) h) ∨ (∀ v, Φ v → Rq (allFree h (mat v d).2.1) (K (mat v d).1 (hputs h (mat v d).2.1)))))) ∨ (m = true ∧ (Turns P f o d h K ∨ PNew P f o d h K))
theorem pcal_def {f : FuncId} {d : Nat} {vs : List V} : pcal P f d h K vs = pcd P f d h K (dvs h vs) true vs := by simp [pcal, pcd, pcall, Pure]
theorem pcalp_def {f : FuncId} {d : Nat} {vs : List V} : pcalp P f d h K vs = pcd P f d h K (dvs h vs) false vs := by simp [pcalp, pcd, Pure]
@[congr] theorem pcd_congr {f : FuncId} {d : Nat} {m : Bool} {ws ws' : List V} {o o' : List V} (hw : ws = ws') (ho : o = o') : pcd P f d h K ws m o = pcd P f d h K ws' m o' := by rw [hw, ho]
theorem pcallv_fn {f : FuncId} {d : Nat} {vs cap : List V} : pcallv P vs d h K (.fn f cap) = Rq (isFn P f = true) (pcal P f d h K (vs ++ cap)) := rfl
section
variable {f : FuncId} {d : Nat} {ws : List V} {m : Bool} {o : List V}
/-- A call whose result is only looked at. -/
theorem pcd_v {r : V} (hs : PSpec P f ws fun v => v = r) (hK : K (vw r) h) : pcd P f d h K ws m o := .inl (.inl ⟨_, hs, .inl fun v hv => by rw [hv]; exact hK⟩)
/-- A call whose result is one's own. -/
theorem pcd_o {r : V} (hs : PSpec P f ws fun v => v = r) (hK : Rq (allFree h (mat r d).2.1) (K (mat r d).1 (hputs h (mat r d).2.1))) : pcd P f d h K ws m o :=
  .inl (.inl ⟨_, hs, .inr fun v hv => by rw [hv]; exact hK⟩)
theorem pcd_r {Φ : V → Prop} (hs : PSpec P f ws Φ) (hK : ∀ v, Φ v → K (vw v) h) : pcd P f d h K ws m o := .inl (.inl ⟨_, hs, .inl hK⟩)
/-- The same of a call whose result may share memory with what it was given. -/
theorem pcd_wv {r : V} (hn : nrfs o = true) (hs : PSpecV P f o fun v => v = r) (hK : K (vw r) h) : pcd P f d h K ws m o := .inl (.inr ⟨hn, _, hs, .inl fun v hv => by rw [hv]; exact hK⟩)
theorem pcd_wo {r : V} (hn : nrfs o = true) (hs : PSpecV P f o fun v => v = r) (hK : Rq (allFree h (mat r d).2.1) (K (mat r d).1 (hputs h (mat r d).2.1))) : pcd P f d h K ws m o :=
  .inl (.inr ⟨hn, _, hs, .inr fun v hv => by rw [hv]; exact hK⟩)
/-- A call that returns the address of a new block. -/
theorem pcn {vs : List V} {e : TypeId} {cells : List V} (hs : PSpecB P f vs fun e' c => e' = e ∧ c = cells) (hn : nrfs vs = true) (hK : Rq (h d = .free) (K (.ptr d 0) (hput h d (.row e 1 cells)))) : pcd P f d h K ws true vs :=
  .inr ⟨rfl, .inr ⟨hn, _, hs, fun e' c ⟨e1, e2⟩ => by rw [e1, e2]; exact hK⟩⟩
/-- A call that turns the blocks 'bs'. -/
theorem pcm {vs : List V} (bs : List Nat) (hb : (decide bs.Nodup && decide (bs.length ≤ 64)) = true)
    (H : OK (closeAll h bs) fun h1 => OK (handB h1 bs 0) fun q => Rq (nrfss q.2 = true) (CallM P f d h1 K bs q.1 q.2 (mvs bs h1 vs))) : pcd P f d h K ws true vs := .inr ⟨rfl, .inl (.inl ⟨bs, hb, H⟩)⟩
/-- A call that turns the blocks 'bs' and returns a slice of one of them. -/
theorem pcmr {vs : List V} (bs : List Nat) (hb : (decide bs.Nodup && decide (bs.length ≤ 64)) = true)
    (H : OK (closeAll h bs) fun h1 => OK (handB h1 bs 0) fun q => Rq (nrfss q.2 = true) (CallMR P f h1 K bs q.1 q.2 (mvs bs h1 vs))) : pcd P f d h K ws true vs := .inr ⟨rfl, .inl (.inr ⟨bs, hb, H⟩)⟩
end
section
variable {f : FuncId} {d : Nat} {bs : List Nat} {bx bx' : List (Nat × TypeId × Nat)} {cells cells' cs : List (List V)} {ws ws' : List V}
@[congr] theorem CallM_congr (h1 : bx = bx') (h2 : cells = cells') (h3 : ws = ws') : CallM P f d h K bs bx cells ws = CallM P f d h K bs bx' cells' ws' := by rw [h1, h2, h3]
@[congr] theorem CallMR_congr (h1 : bx = bx') (h2 : cells = cells') (h3 : ws = ws') : CallMR P f h K bs bx cells ws = CallMR P f h K bs bx' cells' ws' := by rw [h1, h2, h3]
theorem callMR_r {j o n b : Nat} (hs : PSpecMR P f ws bx cells fun j' o' n' c => j' = j ∧ o' = o ∧ n' = n ∧ c = cs) (hb : bs[j]? = some b) (hK : K (.rf b o n) (hputs2 h bs bx cs)) : CallMR P f h K bs bx cells ws :=
  ⟨_, hs, fun j' o' n' c ⟨e1, e2, e3, e4⟩ b' hb' => by subst e1; subst e2; subst e3; subst e4; rw [hb] at hb'; cases hb'; exact hK⟩
theorem callM_v {r : V} (hs : PSpecM P f ws bx cells fun v c => v = r ∧ c = cs) (hK : K (vw r) (hputs2 h bs bx cs)) : CallM P f d h K bs bx cells ws :=
  ⟨_, hs, .inl fun v c hv => by rw [hv.1, hv.2]; exact hK⟩
theorem callM_o {r : V} (hs : PSpecM P f ws bx cells fun v c => v = r ∧ c = cs) (hK : Rq (allFree (hputs2 h bs bx cs) (mat r d).2.1) (K (mat r d).1 (hputs (hputs2 h bs bx cs) (mat r d).2.1))) : CallM P f d h K bs bx cells ws :=
  ⟨_, hs, .inr fun v c hv => by rw [hv.1, hv.2]; exact hK⟩
end
section
variable {bs : List Nat} {j x : Nat} {bx : List (Nat × TypeId × Nat)} {cells : List (List V)} {e : TypeId} {r : Option (List (Nat × TypeId × Nat) × List (List V))}
def closeS (h : Hp) (b : Nat) : Slot → Option Hp
  | .row e sz cs => (folds (fin 4) (hput h b .dead) cs).map fun p => hput p.2 b (.row e sz p.1)
  | _ => none
theorem closeAll_nil : closeAll h [] = some h := rfl
theorem closeAll_cons {b : Nat} : closeAll h (b :: bs) = (closeS h b (h b)).bind fun h' => closeAll h' bs := by simp only [closeAll, closeB, closeS]; cases h b <;> rfl
theorem closeS_row {b : Nat} {sz : Nat} {cs : List V} : closeS h b (.row e sz cs) = (folds (fin 4) (hput h b .dead) cs).map fun p => hput p.2 b (.row e sz p.1) := rfl
def handS (r : Option (List (Nat × TypeId × Nat) × List (List V))) (j : Nat) : Slot → Option (List (Nat × TypeId × Nat) × List (List V))
  | .row e sz cs => r.map fun p => ((j, e, sz) :: p.1, cs :: p.2)
  | _ => none
theorem handB_nil : handB h [] j = some ([], []) := rfl
theorem handB_cons {b : Nat} : handB h (b :: bs) j = handS (handB h bs (j + 1)) j (h b) := by simp only [handB, handS]; cases h b <;> rfl
theorem handS_row {sz : Nat} {cs : List V} : handS r j (.row e sz cs) = r.map fun p => ((j, e, sz) :: p.1, cs :: p.2) := rfl
theorem nm_nil : nm [] x = none := rfl
theorem nm_cons {b : Nat} : nm (b :: bs) x = if x = b then some 0 else (nm bs x).map (· + 1) := rfl
theorem mvR_some {b o n i : Nat} : mvR h b o n (some i) = .rf i o n := rfl
theorem mvR_none {b o n : Nat} : mvR h b o n none = dv h (.rf b o n) := rfl
theorem mvP_some {b o i : Nat} : mvP h b o (some i) = .ptr i o := rfl
theorem mvP_none {b o : Nat} : mvP h b o none = dv h (.ptr b o) := rfl
theorem mv_int {k : IntKind} {n : Int} : mv bs h (.int k n) = .int k n := by simp [mv]
theorem mv_bool {b : Bool} : mv bs h (.bool b) = .bool b := by simp [mv]
theorem mv_str {l : List UInt8} : mv bs h (.str l) = .str l := by simp [mv]
theorem mv_nils : mv bs h .nils = .nils := by simp [mv]
theorem mv_fz {x : Value} {l : List Int} : mv bs h (.fz x l) = .fz x l := by simp [mv]
theorem mv_nilp : mv bs h .nilp = .nilp := by simp [mv]
theorem mv_und : mv bs h .und = .und := by simp [mv]
theorem mv_ptr {b o : Nat} : mv bs h (.ptr b o) = mvP h b o (nm bs b) := by simp [mv]
theorem mv_rf {b o n : Nat} : mv bs h (.rf b o n) = mvR h b o n (nm bs b) := by simp [mv]
theorem mv_sl {n : Nat} {l : List V} : mv bs h (.sl n l) = .sl n (vws l) := by simp [mv]
theorem mv_agg {l : List V} : mv bs h (.agg l) = .agg (mvs bs h l) := by simp [mv]
theorem mv_tup {l : List V} : mv bs h (.tup l) = .tup (mvs bs h l) := by simp [mv]
theorem mv_fn {f : FuncId} {l : List V} : mv bs h (.fn f l) = .fn f (mvs bs h l) := by simp [mv]
theorem mvs_nil : mvs bs h [] = [] := by simp [mvs]
theorem mvs_cons {v : V} {l : List V} : mvs bs h (v :: l) = mv bs h v :: mvs bs h l := by simp [mvs]
theorem hputs2_nil : hputs2 h [] bx cells = h := by cases bx <;> rfl
theorem hputs2_cons {b sz : Nat} {cs : List V} : hputs2 h (b :: bs) ((j, e, sz) :: bx) (cs :: cells) = hputs2 (hput h b (.row e sz cs)) bs bx cells := rfl
theorem names_nil : names [] = [] := rfl
theorem names_cons {sz : Nat} : names ((j, e, sz) :: bx) = j :: names bx := rfl
theorem closs_nil : closs [] = true := rfl
theorem closK_nil : closK cells [] = True := by cases cells <;> simp [closK]
theorem closK_cons {a c : List V} {r : List (List V)} : closK (a :: r) (c :: cells) = ((clos c = true ∨ fzH a c) ∧ closK r cells) := by simp [closK]
theorem fzH_fz {x y : Value} {l m : List Int} {a c : List V} : fzH (.fz x l :: a) (.fz y m :: c) = ((y = x ∧ m = l) ∧ clos c = true) := rfl
theorem closs_cons {l : List V} : closs (l :: cells) = (clos l && closs cells) := rfl
theorem FINV_def {v : V} {Φ : V → Prop} : FINV h v Φ = OK (fin 5 h v) fun p => Rq (nrf p.1 = true) (Φ p.1) := rfl
theorem FINMR_rf {ks : List (List V)} {bx : List (Nat × TypeId × Nat)} {Φ : Nat → Nat → Nat → List (List V) → Prop} {j o n : Nat} : FINMR ks bx h Φ (.rf j o n) = OK (closeAll h (names bx)) fun h' => OK (boxesOf h' bx) fun cells => Rq (closK ks cells ∧ (names bx).contains j = true) (Φ j o n cells) := rfl
@[congr] theorem FINMR_congr {ks : List (List V)} {bx : List (Nat × TypeId × Nat)} {v v' : V} {Φ : Nat → Nat → Nat → List (List V) → Prop} (hv : v = v') : FINMR ks bx h Φ v = FINMR ks bx h Φ v' := by rw [hv]
@[congr] theorem FINV_congr {v v' : V} {Φ : V → Prop} (hv : v = v') : FINV h v Φ = FINV h v' Φ := by rw [hv]
theorem FINM_def {ks : List (List V)} {v : V} {Φ : V → List (List V) → Prop} : FINM ks bx h v Φ = OK (fin 5 h v) fun p => OK (closeAll p.2 (names bx)) fun h' => OK (boxesOf h' bx) fun cells => Rq (clo p.1 = true ∧ closK ks cells) (Φ p.1 cells) := rfl
@[congr] theorem FINM_congr {ks : List (List V)} {v v' : V} {Φ : V → List (List V) → Prop} (hv : v = v') : FINM ks bx h v Φ = FINM ks bx h v' Φ := by rw [hv]
end
/-! ### Loops -/
theorem boxesOf_nil : boxesOf h [] = some [] := rfl
def boxB (e sz : Nat) (r : Option (List (List V))) : Slot → Option (List (List V))
  | .row e' sz' cs => grd (e' = e ∧ sz' = sz) (r.map (cs :: ·))
  | _ => none
theorem boxesOf_cons {r : List (Nat × TypeId × Nat)} : boxesOf h ((b, ty, sz) :: r) = boxB ty sz (boxesOf h r) (h b) := by simp only [boxesOf]; cases h b <;> rfl
theorem boxB_row {e' sz' : Nat} {r : Option (List (List V))} : boxB e' sz' r (.row ty sz cs) = grd (ty = e' ∧ sz = sz') (r.map (cs :: ·)) := rfl
theorem hputb_nil {cells : List (List V)} : hputb h [] cells = h := by cases cells <;> rfl
theorem hputb_cons {r : List (Nat × TypeId × Nat)} {cells : List (List V)} : hputb h ((b, ty, sz) :: r) (cs :: cells) = hput (hputb h r cells) b (.row ty sz cs) := rfl
theorem lheap_def {c0 : Nat} {bx : List (Nat × TypeId × Nat)} {vals : List V} {cells : List (List V)} : lheap c0 bx vals cells = hputs (hputb hnil bx cells) (mats vals c0).2.1 := rfl
theorem ColV_def {bx : List (Nat × TypeId × Nat)} {wv lv lv0 : List V} {G : List V → List (List V) → Prop} : ColV bx wv lv lv0 h G =
    OK (folds (fin 4) h wv) fun p => OK (closeAll p.2 (names bx)) fun h' => OK (boxesOf h' bx) fun cells => Rq (nrfs p.1 = true ∧ nrfss cells = true ∧ lv = lv0) (G p.1 cells) := rfl
theorem nrfss_nil : nrfss [] = true := rfl
theorem nrfss_cons {r : List (List V)} : nrfss (l :: r) = (nrfs l && nrfss r) := rfl
theorem nrf_int {a : Int} : nrf (.int k a) = true := by simp [nrf]
theorem nrf_bool {a : Bool} : nrf (.bool a) = true := by simp [nrf]
theorem nrf_str {a : List UInt8} : nrf (.str a) = true := by simp [nrf]
theorem nrf_nils : nrf .nils = true := by simp [nrf]
theorem nrf_fz {x : Value} {m : List Int} : nrf (.fz x m) = true := by simp [nrf]
theorem nrf_sl : nrf (.sl n l) = nrfs l := by simp [nrf]
theorem nrf_own : nrf (.own ty sz n l) = nrfs l := by simp [nrf]
theorem nrf_agg : nrf (.agg l) = nrfs l := by simp [nrf]
theorem nrf_tup : nrf (.tup l) = nrfs l := by simp [nrf]
theorem nrfs_nil : nrfs [] = true := by simp [nrfs]
theorem nrfs_cons {v : V} : nrfs (v :: l) = (nrf v && nrfs l) := by simp [nrfs]
theorem nrfs_app : nrfs (l ++ l') = (nrfs l && nrfs l') := by induction l <;> simp_all [nrfs, Bool.and_assoc]

/-- A loop: at a round's head, for some 's' of which 'J' holds, its temporaries have the trees 'vals s', its blocks the cells 'cells s'; 'μ s' falls. -/
theorem LP_ofE {σ : Type} (ss : List Nat) (c0 : Nat) (bx : List (Nat × TypeId × Nat)) (vals : σ → List V) (cells : σ → List (List V)) (J : σ → Prop) (μ : σ → Nat) (s0 : σ) {vs ls : List Nat}
    {B : List V → List V → Hp → (List V → List V → Hp → Prop) → Prop} {wv lv : List V} (hf : frameOk c0 (lpz ls lv) bx = true) (h0 : J s0)
    (he : ColV bx wv lv lv h fun v c => rts ss v = vals s0 ∧ c = cells s0)
    (hr : ∀ s, J s → B (mats (vals s) c0).1 lv (lheap c0 bx (vals s) (cells s)) fun wv' lv' h' => ColV bx wv' lv' lv h' fun v c => ∃ s', v = vals s' ∧ c = cells s' ∧ J s' ∧ μ s' < μ s) :
    LP vs ls B wv lv h := by
  refine ⟨c0, bx, fun k v c => ∃ s, v = vals s ∧ c = cells s ∧ J s ∧ μ s = k, ss, hf, ?_, ?_⟩
  · obtain ⟨p, h1, hp, hcl, cs, h2, h3, h4, h5⟩ := he
    exact ⟨p, h1, hp, hcl, cs, h2, h3, μ s0, s0, h4, h5, h0, rfl⟩
  · rintro k v c ⟨s, rfl, rfl, hJ, rfl⟩
    have := hr s hJ
    have hcol : (fun (wv' lv' : List V) (h' : Hp) => ColV bx wv' lv' lv h' fun vals_1 cells_1 => ∃ k', k' < μ s ∧ ∃ s_1, vals_1 = vals s_1 ∧ cells_1 = cells s_1 ∧ J s_1 ∧ μ s_1 = k') =
        fun wv' lv' h' => ColV bx wv' lv' lv h' fun v c => ∃ s', v = vals s' ∧ c = cells s' ∧ J s' ∧ μ s' < μ s := by
      funext wv' lv' h'
      congr 1
      funext v c
      exact propext ⟨fun ⟨k', hk, s', a1, a2, a3, a4⟩ => ⟨s', a1, a2, a3, a4 ▸ hk⟩, fun ⟨s', a1, a2, a3, a4⟩ => ⟨μ s', a4, s', a1, a2, a3, rfl⟩⟩
    rw [hcol]
    exact this
theorem LP_of {σ : Type} (c0 : Nat) (bx : List (Nat × TypeId × Nat)) (vals : σ → List V) (cells : σ → List (List V)) (J : σ → Prop) (μ : σ → Nat) (s0 : σ) {vs ls : List Nat}
    {B : List V → List V → Hp → (List V → List V → Hp → Prop) → Prop} {wv lv : List V} (hf : frameOk c0 (lpz ls lv) bx = true) (h0 : J s0)
    (he : ColV bx wv lv lv h fun v c => v = vals s0 ∧ c = cells s0)
    (hr : ∀ s, J s → B (mats (vals s) c0).1 lv (lheap c0 bx (vals s) (cells s)) fun wv' lv' h' => ColV bx wv' lv' lv h' fun v c => ∃ s', v = vals s' ∧ c = cells s' ∧ J s' ∧ μ s' < μ s) :
    LP vs ls B wv lv h := LP_ofE [] c0 bx vals cells J μ s0 hf h0 (by simpa only [rts_nil] using he) hr
theorem rts_cons {s : Nat} {ss : List Nat} {v : V} {l : List V} : rts (s :: ss) (v :: l) = rt1 s v :: rts ss l := rfl
theorem rts_nil' {l : List V} : rts [] l = l := rts_nil
theorem rt1_e {e s : Nat} : rt1 s (.own e 0 0 []) = .own e s 0 [] := rfl
theorem rt1_i {s : Nat} {k : IntKind} {n : Int} : rt1 s (.int k n) = .int k n := rfl
theorem rt1_b {s : Nat} {b : Bool} : rt1 s (.bool b) = .bool b := rfl
theorem rt1_o {e s sz n : Nat} {l : List V} (h : ¬ sz = 0) : rt1 s (.own e sz n l) = .own e sz n l := by
  unfold rt1; split
  · rename_i heq; cases heq; exact absurd rfl h
  · rfl
end

/- The rules of control: they go ahead of what is inside; and those of values. -/
set_option linter.defProp false in
set_option maxRecDepth 10000 in
def EC := And.intro @pcal_def <|
  And.intro @pcalp_def <|
  And.intro @VL_some <|
  And.intro @VL_none <|
  And.intro @VL_grd <|
  And.intro @Rq_true <|
  And.intro @Rq_false <|
  And.intro @Split_true <|
  And.intro @Split_false <|
  And.intro @pcond_sym <|
  And.intro @pgk_sym <|
  And.intro @pgk_skip <|
  And.intro @JN_def <|
  And.intro @cond_t <|
  And.intro @cond_f <|
  And.intro @hput_at <|
  And.intro @hnil_at <|
  And.intro @pld_ptr <|
  And.intro @pld_pf <|
  And.intro @OK_some <|
  And.intro @OK_none @palloc_def
set_option linter.defProp false in
set_option maxRecDepth 10000 in
def EV := And.intro @vleq_if2 <|
  And.intro @setV_two <|
  And.intro @hput_same <|
  And.intro @dv_int <|
  And.intro @dv_bool <|
  And.intro @dv_str <|
  And.intro @dv_nils <|
  And.intro @dv_nilp <|
  And.intro @dv_fz <|
  And.intro @vw_fz <|
  And.intro @mat_fz <|
  And.intro @nrf_fz <|
  And.intro @dv_und <|
  And.intro @dv_ptr <|
  And.intro @dvP_row <|
  And.intro @dv_sl <|
  And.intro @dv_rf <|
  And.intro @dvB_row <|
  And.intro @dv_agg <|
  And.intro @dv_tup <|
  And.intro @dv_fn <|
  And.intro @dvs_nil <|
  And.intro @dvs_cons <|
  And.intro @dvs_app <|
  And.intro @vw_int <|
  And.intro @vw_bool <|
  And.intro @vw_str <|
  And.intro @vw_nils <|
  And.intro @vw_nilp <|
  And.intro @vw_sl <|
  And.intro @vw_own <|
  And.intro @vw_agg <|
  And.intro @vw_tup <|
  And.intro @vws_nil <|
  And.intro @vws_cons <|
  And.intro @vws_app <|
  And.intro @mat_int <|
  And.intro @mat_bool <|
  And.intro @mat_str <|
  And.intro @mat_nils <|
  And.intro @mat_nilp <|
  And.intro @mat_sl <|
  And.intro @mat_own <|
  And.intro @mat_agg <|
  And.intro @mat_tup <|
  And.intro @mats_nil <|
  And.intro @mats_cons <|
  And.intro @hputs_nil <|
  And.intro @hputs_cons <|
  And.intro @allFree_nil <|
  And.intro @allFree_cons <|
  And.intro @pcallv_fn <|
  And.intro @boxesOf_nil <|
  And.intro @boxesOf_cons <|
  And.intro @boxB_row <|
  And.intro @hputb_nil <|
  And.intro @hputb_cons <|
  And.intro @lheap_def <|
  And.intro @ColV_def <|
  And.intro @rts_cons <|
  And.intro @rts_nil' <|
  And.intro @rt1_e <|
  And.intro @rt1_i <|
  And.intro @rt1_b <|
  And.intro @rt1_o <|
  And.intro @nrfss_nil <|
  And.intro @nrfss_cons <|
  And.intro @nrf_int <|
  And.intro @nrf_bool <|
  And.intro @nrf_str <|
  And.intro @nrf_nils <|
  And.intro @nrf_sl <|
  And.intro @nrf_own <|
  And.intro @nrf_agg <|
  And.intro @nrf_tup <|
  And.intro @nrfs_nil <|
  And.intro @nrfs_cons <|
  And.intro @nrfs_app <|
  And.intro @vpick_b <|
  And.intro @l_add <|
  And.intro @l_sub <|
  And.intro @l_mul <|
  And.intro @l_quo <|
  And.intro @l_rem <|
  And.intro @l_and <|
  And.intro @l_or <|
  And.intro @l_xor <|
  And.intro @l_eql <|
  And.intro @l_neq <|
  And.intro @l_lss <|
  And.intro @l_leq <|
  And.intro @l_gtr <|
  And.intro @l_geq <|
  And.intro @l_shl <|
  And.intro @l_shr <|
  And.intro @l_not <|
  And.intro @l_neg <|
  And.intro @l_cvi <|
  And.intro @l_cvs <|
  And.intro @l_max <|
  And.intro @l_min <|
  And.intro @ls_add <|
  And.intro @ls_eql <|
  And.intro @ls_neq <|
  And.intro @Rq_and <|
  And.intro @vfa_ptr <|
  And.intro @vfa_pf <|
  And.intro @vfd_agg <|
  And.intro @vcell_none <|
  And.intro @vcell_some <|
  And.intro @vixA_ptr <|
  And.intro @vixA_pf <|
  And.intro @vixS_rf <|
  And.intro @vixS_sl <|
  And.intro @vixS_fz <|
  And.intro @vlenS_fz <|
  And.intro @cellsV_fz <|
  And.intro @cellOk_fz <|
  And.intro @cell1_fz <|
  And.intro @plain1_fz <|
  And.intro @ldc_fz <|
  And.intro @fin_fz <|
  And.intro @clo_fz <|
  And.intro @mv_fz <|
  And.intro @vixV_agg <|
  And.intro @vixT_str <|
  And.intro @vext_tup <|
  And.intro @vlenS_rf <|
  And.intro @vlenS_sl <|
  And.intro @vlenS_nils <|
  And.intro @vlenT_str <|
  And.intro @vnilS_nils <|
  And.intro @vnilS_rf <|
  And.intro @vbnd_none <|
  And.intro @vbnd_some <|
  And.intro @vslS_sl <|
  And.intro @vslS_rf <|
  And.intro @vslS_nils <|
  And.intro @vslT_str <|
  And.intro @vmkf_f <|
  And.intro @bind_some' <|
  And.intro @bind_none' <|
  And.intro @vbld_some <|
  And.intro @vbld_grd <|
  And.intro @vfill_nil <|
  And.intro @vfill_cons <|
  And.intro @veqa_def <|
  And.intro @vleq_nil <|
  And.intro @vleq_cons <|
  And.intro @vveq_i <|
  And.intro @vveq_b <|
  And.intro @vleq_if <|
  And.intro @bneb <|
  And.intro @beqb <|
  And.intro @cellsV_agg <|
  And.intro @cellsV_int <|
  And.intro @cellsV_bool <|
  And.intro @cellsV_str <|
  And.intro @cellsV_ptr <|
  And.intro @cellsV_rf <|
  And.intro @cellsV_sl <|
  And.intro @cellsV_nils <|
  And.intro @cellsV_nilp <|
  And.intro @cellsV_fn <|
  And.intro @cellOk_agg <|
  And.intro @cellOk_int <|
  And.intro @cellOk_bool <|
  And.intro @cellOk_str <|
  And.intro @cellOk_ptr <|
  And.intro @cellOk_rf <|
  And.intro @cellOk_sl <|
  And.intro @cellOk_nils <|
  And.intro @cell1_int <|
  And.intro @cell1_bool <|
  And.intro @cell1_str <|
  And.intro @cell1_ptr <|
  And.intro @cell1_rf <|
  And.intro @cell1_sl <|
  And.intro @cell1_nils <|
  And.intro @cell1_fn <|
  And.intro @plain1_int <|
  And.intro @plain1_bool <|
  And.intro @plain1_str <|
  And.intro @plain1_ptr <|
  And.intro @plain1_rf <|
  And.intro @plain1_sl <|
  And.intro @plain1_nils <|
  And.intro @plain1_fn <|
  And.intro @noOwn_nil <|
  And.intro @noOwn_cons <|
  And.intro @noOwn_app <|
  And.intro @isAggP_agg <|
  And.intro @isAggP_int <|
  And.intro @isAggP_bool <|
  And.intro @isAggP_str <|
  And.intro @pldB_none <|
  And.intro @pldB_some <|
  And.intro @ldc_int <|
  And.intro @ldc_bool <|
  And.intro @ldc_str <|
  And.intro @ldc_ptr <|
  And.intro @ldc_rf <|
  And.intro @ldc_sl <|
  And.intro @ldc_nils <|
  And.intro @ldc_nilp <|
  And.intro @ldc_fn <|
  And.intro @pst_ptr <|
  And.intro @pstB_row <|
  And.intro @setV_one <|
  And.intro @pbox_def <|
  And.intro @pmks_some <|
  And.intro @pmks_grd <|
  And.intro @pmk_int <|
  And.intro @pcp_some <|
  And.intro @pcp_grd <|
  And.intro @pcpyV_nils <|
  And.intro @pcpyV_rf0 <|
  And.intro @pcpyV_rf <|
  And.intro @pclrV_nils <|
  And.intro @pclrV_rf0 <|
  And.intro @pclrV_rf <|
  And.intro @papp_some <|
  And.intro @papp_grd <|
  And.intro @preadS_nils <|
  And.intro @preadS_sl <|
  And.intro @preadS_rf <|
  And.intro @preadB_row <|
  And.intro @papV_rf <|
  And.intro @papV_nils1 <|
  And.intro @papB_row <|
  And.intro @pavs_nil <|
  And.intro @pavs_cons <|
  And.intro @FIN_def <|
  And.intro @FINM_def <|
  And.intro @FINV_def <|
  And.intro @FINMR_rf <|
  And.intro @closeAll_nil <|
  And.intro @closeAll_cons <|
  And.intro @closeS_row <|
  And.intro @handB_nil <|
  And.intro @handB_cons <|
  And.intro @handS_row <|
  And.intro @nm_nil <|
  And.intro @nm_cons <|
  And.intro @mvR_some <|
  And.intro @mvR_none <|
  And.intro @mvP_some <|
  And.intro @mvP_none <|
  And.intro @mv_int <|
  And.intro @mv_bool <|
  And.intro @mv_str <|
  And.intro @mv_nils <|
  And.intro @mv_nilp <|
  And.intro @mv_und <|
  And.intro @mv_ptr <|
  And.intro @mv_rf <|
  And.intro @mv_sl <|
  And.intro @mv_agg <|
  And.intro @mv_tup <|
  And.intro @mv_fn <|
  And.intro @mvs_nil <|
  And.intro @mvs_cons <|
  And.intro @hputs2_nil <|
  And.intro @hputs2_cons <|
  And.intro @names_nil <|
  And.intro @names_cons <|
  And.intro @closs_nil <|
  And.intro @closK_nil <|
  And.intro @closK_cons <|
  And.intro @fzH_fz <|
  And.intro @closs_cons <|
  And.intro @pcellV_ptr <|
  And.intro @pcellB_row <|
  And.intro @OK_grd <|
  And.intro @OK_bind <|
  And.intro @OK_map <|
  And.intro @fin_int <|
  And.intro @fin_bool <|
  And.intro @fin_str <|
  And.intro @fin_sl <|
  And.intro @fin_nils <|
  And.intro @fin_nilp <|
  And.intro @fin_fn <|
  And.intro @fin_own <|
  And.intro @fin_agg <|
  And.intro @fin_tup <|
  And.intro @fin_rf <|
  And.intro @finB_row <|
  And.intro @folds_nil <|
  And.intro @folds_cons <|
  And.intro @clo_int <|
  And.intro @clo_bool <|
  And.intro @clo_str <|
  And.intro @clo_nils <|
  And.intro @clo_nilp <|
  And.intro @clo_und <|
  And.intro @clo_agg <|
  And.intro @clo_tup <|
  And.intro @clo_own <|
  And.intro @clos_nil <|
  And.intro @clos_cons @clos_app
end Go.Proofs.YtjklebickfcddaaDoor.Sep

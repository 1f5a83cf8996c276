/- The transformer as it is printed for each function: with what is alive where ways meet and at the loops' heads. -/
import Derived.Test.YtjklebickfcddaaDoorSepW
namespace Go.Proofs.YtjklebickfcddaaDoor.Sep
open Go.RowKit
set_option linter.unusedVariables false
set_option linter.unusedSimpArgs false
set_option linter.constructorNameAsVariable false

/-- Two ways. -/
def Split (b : Bool) (A B : Prop) : Prop := (b = true → A) ∧ (b = false → B)
theorem Split.mk {b : Bool} {A B : Prop} (h1 : b = true → A) (h2 : b = false → B) : Split b A B := ⟨h1, h2⟩
/-- Where ways meet: 'F' goes on by 'G'. -/
def JN (F : (List V → Hp → Prop) → Prop) (G : List V → Hp → Prop) : Prop := F G

/-- An operation that yields a value. -/
def VL : Option V → (V → Prop) → Prop
  | some v, K => K v
  | none, _ => False
theorem VL_eq (x : Option V) (K : V → Prop) : VL x K = OK x K := by cases x <;> simp [VL, OK]

def pcond (A B : Prop) : V → Prop
  | .bool v => Split v A B
  | _ => False
/-- A guarded operation: its test is put where it lies. -/
def pgk (w : Bool) (h : Hp) (op : V → (V → Hp → Prop) → Prop) (k : V → V → Hp → Prop) : V → Prop
  | .bool b => Split b (cond w (op (.bool true) (k (.bool true))) (k (.bool true) (.tup []) h)) (cond w (k (.bool false) (.tup []) h) (op (.bool false) (k (.bool false))))
  | .tup [] => k (.tup []) (.tup []) h
  | _ => False

def pops1 (t : Tp) : List Operand → List V
  | [] => []
  | x :: l => pev t x :: pops1 t l
theorem pops1_eq (t : Tp) : ∀ l : List Operand, l.map (pev t) = pops1 t l
  | [] => rfl
  | x :: l => by simp [pops1, pops1_eq t l]
def pparts (t : Tp) : List (Nat × Nat × Operand) → List (Nat × Nat × V)
  | [] => []
  | p :: l => (p.1, p.2.1, pev t p.2.2) :: pparts t l
theorem pparts_eq (t : Tp) : ∀ l : List (Nat × Nat × Operand), (l.map fun p => (p.1, p.2.1, pev t p.2.2)) = pparts t l
  | [] => rfl
  | x :: l => by simp [pparts, pparts_eq t l]
def popt (t : Tp) : Option Operand → Option V
  | none => none
  | some x => some (pev t x)
theorem popt_eq (t : Tp) (o : Option Operand) : o.map (pev t) = popt t o := by cases o <;> rfl
def vbld (x : Option (List V)) : Option V := x.bind fun cs => some (.agg cs)

def pbox (h : Hp) (d : Nat) (ty : TypeId) (cs : List V) (K : Hp → Prop) : Prop := Rq (h d = .free ∧ cs.all cell1 = true) (K (hput h d (.row ty 1 cs)))
def palloc (h : Hp) (d : Nat) (ty : TypeId) (cs : List V) (K : Hp → Prop) : Prop := Rq (h d = .free) (K (hput h d (.row ty 1 cs)))
def pmks (h : Hp) (d : Nat) (ty : TypeId) (zl len : Nat) (K : Hp → Prop) (cs : Option (List V)) : Prop :=
  OK cs fun cs => Rq (h d = .free ∧ cs.all cell1 = true ∧ len ≤ maxLen ∧ (zl = if len = 0 then 0 else len * (zl / len)) ∧ (len = 0 ∨ zl ≠ 0)) (K (hput h d (.row ty (if len = 0 then 0 else zl / len) cs)))
def pmk (h : Hp) (d : Nat) (ty : TypeId) (bytes : Nat) (z : List V) (K : V → Hp → Prop) : V → V → Prop
  | .int _ l, .int _ c => Rq (h d = .free ∧ 0 ≤ l ∧ l ≤ c ∧ (bytes : Int) * c ≤ 281474976710656 ∧ c ≤ maxLen ∧ z ≠ []) (K (.rf d 0 l.toNat) (hput h d (.row ty z.length ((List.replicate c.toNat z).flatten))))
  | _, _ => False
def pavs (h : Hp) (s : V) : List V → Prop
  | [] => True
  | y :: l => pavoid h s y ∧ pavs h s l
theorem pavs_eq (h : Hp) (s : V) (t : Tp) : ∀ l : List Operand, (∀ y ∈ l, pavoid h s (pev t y)) = pavs h s (pops1 t l)
  | [] => by simp [pavs, pops1]
  | x :: l => by simp only [List.mem_cons, forall_eq_or_imp, pavs, pops1, pavs_eq h s t l]
def pavsP (h : Hp) (s : V) : List V → Prop
  | [] => True
  | y :: l => pavoidP h s y ∧ pavsP h s l
theorem pavsP_eq (h : Hp) (s : V) (t : Tp) : ∀ l : List Operand, (∀ y ∈ l, pavoidP h s (pev t y)) = pavsP h s (pops1 t l)
  | [] => by simp [pavsP, pops1]
  | x :: l => by simp only [List.mem_cons, forall_eq_or_imp, pavsP, pops1, pavsP_eq h s t l]
/-- A copy, of what is read first. -/
def pcp (F : Nat → List V → Prop) (x : Option (Nat × List V)) : Prop := OK x fun r => F r.1 r.2
def papp (h : Hp) (K : Nat → List V → Prop) (av : Prop) (x : Option (Nat × List V)) : Prop := OK x fun r => Rq (r.2.all cell1 = true ∧ av) (K r.1 r.2)
def pcal (P : Program) (f : FuncId) (d : Nat) (h : Hp) (K : V → Hp → Prop) (vs : List V) : Prop := pcall P f vs d h K
def pcalp (P : Program) (f : FuncId) (d : Nat) (h : Hp) (K : V → Hp → Prop) (vs : List V) : Prop := Pure P f vs d h K
def pldb (h : Hp) (n : Option Nat) (K : V → Hp → Prop) (x b : V) : Prop := Rq (sameB x b) (pld h n K x)

def qop (P : Program) (d : Nat) (op : AOp) (t : Tp) (h : Hp) (K : V → Hp → Prop) : Prop :=
  match op with
  | .mv x => K (pev t x) h
  | .pick c a b => VL (vpick (pev t c) (pev t a) (pev t b)) fun v => K v h
  | .bld z ps => VL (vbld (vfill (ofVals z) (pparts t ps))) fun v => K v h
  | .bin o x y => VL (lift2 (abin o) (pev t x) (pev t y)) fun v => K v h
  | .eqa neg ag sg x y => VL (veqa neg ag sg (pev t x) (pev t y)) fun v => K v h
  | .un o x => VL (lift1 (aun o) (pev t x)) fun v => K v h
  | .cvi k x => VL (lift1 (acvi k) (pev t x)) fun v => K v h
  | .slS s x lo hi => VL (vslS s (pev t x) (popt t lo) (popt t hi)) fun v => K v h
  | .slT x lo hi => VL (vslT (pev t x) (popt t lo) (popt t hi)) fun v => K v h
  | .fa o x => VL (vfa o (pev t x)) fun v => K v h
  | .fd n o x => VL (vfd n o (pev t x)) fun v => K v h
  | .ixA a s x i => VL (vixA a s (pev t x) (pev t i)) fun v => K v h
  | .ixS s x i => VL (vixS s (pev t x) (pev t i)) fun v => K v h
  | .ixV a s n x i => VL (vixV a s n (pev t x) (pev t i)) fun v => K v h
  | .ixT x i => VL (vixT (pev t x) (pev t i)) fun v => K v h
  | .ext x i => VL (vext i (pev t x)) fun v => K v h
  | .lenS x => VL (vlenS (pev t x)) fun v => K v h
  | .lenT x => VL (vlenT (pev t x)) fun v => K v h
  | .nilS neg x => VL (vnilS neg (pev t x)) fun v => K v h
  | .max x y => VL (lift2 amax (pev t x) (pev t y)) fun v => K v h
  | .min x y => VL (lift2 amin (pev t x) (pev t y)) fun v => K v h
  | .mkf f a b => VL (vmkf f (pops1 t a) (pops1 t b)) fun v => K v h
  | .b2s x => VL (vb2s h (pev t x)) fun v => K v h
  | .cvs x => VL (lift1 acvs (pev t x)) fun v => K v h
  | .ld n x => pld h n K (pev t x)
  | .ldb b n x => pldb h n K (pev t x) (pev t b)
  | .alloc e z => palloc h d e (ofVals z) fun h => K (.ptr d 0) h
  | .box e x => pbox h d e (cellsV (pev t x)) fun h => K (.ptr d 0) h
  | .mks e z len ps => pmks h d e z.length len (fun h => K (.rf d 0 len) h) (vfill (ofVals z) (pparts t ps))
  | .mk e bytes z l c => pmk h d e bytes (ofVals z) K (pev t l) (pev t c)
  | .app e sz bytes z av s x => papp h (fun m news => papV e sz bytes d h K m news (pev t s)) (pavs h (pev t s) (pops1 t av)) (preadS sz h (pev t x))
  | .st n a x => pst h n (cellsV (pev t x)) K (pev t a)
  | .cpy sz x y => pcp (fun m news => pcpyV sz h K m news (pev t x)) (preadS sz h (pev t y))
  | .clr z x => pclrV (ofVals z) h K (pev t x)
  | .sta av n a x => Rq (pavsP h (pev t a) (pops1 t av)) (pst h n (cellsV (pev t x)) K (pev t a))
  | .call f as => pcal P f d h K (pops1 t as)
  | .callp f as => pcalp P f d h K (pops1 t as)
  | .callv f as => pcallv P (pops1 t as) d h K (pev t f)
  | _ => False

def qops (P : Program) : List AOper → (Tp → Hp → Prop) → Tp → Hp → Prop
  | [], K, t, h => K t h
  | o :: r, K, t, h => match o.guard with
    | none => qop P (o.dst.getD 0 + 64) o.op t h fun v h => qops P r K (tputo t o.dst v) h
    | some (g, w) => pgk w h (fun gv k => qop P (o.dst.getD 0 + 64) o.op (tput t g gv) h k) (fun gv v h => qops P r K (tputo (tput t g gv) o.dst v) h) (t g)

/-- The code, with what is alive. -/
inductive PCode where
  | skip
  | reg (ops : List AOper)
  | seq (a b : PCode)
  | join (os : List Nat) (a b : PCode)
  | cond (c : Operand) (a b : PCode)
  | block (id : Nat) (b : PCode)
  | loop (vs ls : List Nat) (b : PCode)
  | exit (id : Nat)
  | ret

/-- A mark of the code, in its order: a plain sequence, a meeting of ways, a loop. -/
inductive Mk where
  | s
  | j (os : List Nat)
  | l (vs ls : List Nat)

def ann : ACode → List Mk → PCode × List Mk
  | .skip, m => (.skip, m)
  | .reg ops, m => (.reg ops, m)
  | .seq a b, m => match m with
    | .j os :: m => ((.join os (ann a m).1 (ann b (ann a m).2).1), (ann b (ann a m).2).2)
    | _ => ((.seq (ann a m.tail).1 (ann b (ann a m.tail).2).1), (ann b (ann a m.tail).2).2)
  | .cond c a b, m => ((.cond c (ann a m).1 (ann b (ann a m).2).1), (ann b (ann a m).2).2)
  | .block i b, m => (.block i (ann b m).1, (ann b m).2)
  | .loop b, m => match m with
    | .l vs ls :: m => (.loop vs ls (ann b m).1, (ann b m).2)
    | _ => (.loop [] [] (ann b m.tail).1, (ann b m.tail).2)
  | .exit i, m => (.exit i, m)
  | .ret, m => (.ret, m)

def era : PCode → ACode
  | .skip => .skip
  | .reg ops => .reg ops
  | .seq a b => .seq (era a) (era b)
  | .join _ a b => .seq (era a) (era b)
  | .cond c a b => .cond c (era a) (era b)
  | .block i b => .block i (era b)
  | .loop _ _ b => .loop (era b)
  | .exit i => .exit i
  | .ret => .ret

/-- The temporaries listed have these values; the others are not known. -/
def gst : Nat → List Nat → List V → Tp
  | _, [], _, _ => .und
  | i, k :: ks, vs, x => cond (Nat.beq x k) (vs.getD i .und) (gst (i + 1) ks vs x)
def gst2 (vs ls : List Nat) (w l : List V) : Tp := fun x => cond (vs.contains x) (gst 0 vs w x) (gst 0 ls l x)
def gmap (t : Tp) : List Nat → List V
  | [] => []
  | k :: ks => t k :: gmap t ks

def lpz : List Nat → List V → List (Nat × V)
  | k :: ks, v :: vs => (k, v) :: lpz ks vs
  | _, _ => []
/-- The state where a loop's round begins or ends: trees of what it turns, cells of the blocks. -/
def ColV (bx : List (Nat × TypeId × Nat)) (wv : List V) (lv lv0 : List V) (h : Hp) (K : List V → List (List V) → Prop) : Prop :=
  OK (folds (fin 4) h wv) fun p => OK (closeAll p.2 (names bx)) fun h' => OK (boxesOf h' bx) fun cells => Rq (nrfs p.1 = true ∧ nrfss cells = true ∧ lv = lv0) (K p.1 cells)

/-- A loop. -/
def LP (vs ls : List Nat) (B : List V → List V → Hp → (List V → List V → Hp → Prop) → Prop) (wv lv : List V) (h : Hp) : Prop :=
  ∃ (c0 : Nat) (bx : List (Nat × TypeId × Nat)) (I : Nat → List V → List (List V) → Prop) (ss : List Nat), frameOk c0 (lpz ls lv) bx = true ∧
    ColV bx wv lv lv h (fun vals cells => ∃ k, I k (rts ss vals) cells) ∧
    ∀ k vals cells, I k vals cells → B (mats vals c0).1 lv (lheap c0 bx vals cells) fun wv' lv' h' => ColV bx wv' lv' lv h' fun vals cells => ∃ k', k' < k ∧ I k' vals cells

def pwpA (P : Program) : PCode → (n : Tp → Hp → Prop) → (e : Nat → Tp → Hp → Prop) → (r : Tp → Hp → Prop) → Tp → Hp → Prop
  | .skip, n, _, _, t, h => n t h
  | .reg ops, n, _, _, t, h => qops P ops n t h
  | .seq a b, n, e, r, t, h => pwpA P a (fun t h => pwpA P b n e r t h) e r t h
  | .join os a b, n, e, r, t, h => JN (fun k => pwpA P a (fun t h => k (gmap t os) h) e r t h) fun o h => pwpA P b n e r (gst 0 os o) h
  | .cond c a b, n, e, r, t, h => pcond (pwpA P a n e r t h) (pwpA P b n e r t h) (pev t c)
  | .block id b, n, e, r, t, h => pwpA P b n (fun i t h => bif Nat.beq i id then n t h else e i t h) r t h
  | .loop vs ls b, n, e, r, t, h => LP vs ls (fun w l h N => pwpA P b (fun t h => N (gmap t vs) (gmap t ls) h) e r (gst2 vs ls w l) h) (gmap t vs) (gmap t ls) h
  | .exit id, _, e, _, t, h => e id t h
  | .ret, _, _, r, t, h => r t h

/-! ### It is sound -/
section
variable {P : Program}

theorem qop_eq {d : Nat} {op : AOp} {t : Tp} {h : Hp} {K : V → Hp → Prop} (hq : qop P d op t h K) : pop P d op (pev t) h K := by
  cases op <;> simp only [qop] at hq <;> try exact hq.elim
  case mv x => exact ⟨_, rfl, hq⟩
  case bld z ps => rw [VL_eq] at hq; rw [← pparts_eq] at hq; exact hq
  case slS s x lo hi => rw [VL_eq, ← popt_eq, ← popt_eq] at hq; exact hq
  case slT x lo hi => rw [VL_eq, ← popt_eq, ← popt_eq] at hq; exact hq
  case mkf f a b => rw [VL_eq, ← pops1_eq, ← pops1_eq] at hq; exact hq
  case mks e z len ps => rw [← pparts_eq] at hq; exact hq
  case mk e bytes z l c =>
    simp only [pop]
    cases hl : pev t l <;> simp only [hl, pmk] at hq <;> try exact hq.elim
    cases hc : pev t c <;> simp only [hc, pmk] at hq <;> try exact hq.elim
    have hlen : ∀ z : List Value, (ofVals z).length = z.length := by
      intro z; induction z <;> simp_all [ofVals]
    rw [hlen] at hq
    obtain ⟨⟨h1, h2, h3, h4, h5, h6⟩, h7⟩ := hq
    refine ⟨⟨h1, h2, h3, h4, h5, ?_⟩, h7⟩
    rintro rfl; exact h6 (by simp [ofVals])
  case app e sz bytes z av s x =>
    rw [← pavs_eq] at hq; exact hq
  case sta av n a x => rw [← pavsP_eq] at hq; exact hq
  case call f as => rw [← pops1_eq] at hq; exact hq
  case callp f as => rw [← pops1_eq] at hq; exact hq
  case callv f as => rw [← pops1_eq] at hq; exact hq
  all_goals first | exact hq | (rw [VL_eq] at hq; exact hq)

theorem pop_mono {d : Nat} {op : AOp} {ρ : Operand → V} {h : Hp} {K K' : V → Hp → Prop} (hK : ∀ v h, K v h → K' v h) (hp : pop P d op ρ h K) : pop P d op ρ h K' := by
  have ldm : ∀ {n x}, pld h n K x → pld h n K' x := by
    intro n x hp
    cases x <;> simp only [pld] at hp ⊢ <;> try exact hp
    · rename_i b off
      cases hb : h b <;> simp only [hb, pldB] at hp ⊢
      cases n with
      | none =>
        refine ⟨hp.1, ?_⟩
        have := hp.2
        rename_i e sz cs
        cases hc : cs.getD off .und <;> rw [hc] at this <;> first | exact hK _ _ this | exact this | (rcases this with h | ⟨d, h1, h2⟩; exact .inl (hK _ _ h); exact .inr ⟨d, h1, hK _ _ h2⟩)
      | some m => exact ⟨hp.1, hK _ _ hp.2⟩
    · obtain ⟨v, h1, h2⟩ := hp; exact ⟨v, h1, hK _ _ h2⟩
  have pum : ∀ {f vs}, Pure P f vs d h K → Pure P f vs d h K' := by
    rintro f vs (⟨Φ, h1, h2 | h2⟩ | ⟨hn, Φ, h1, h2 | h2⟩)
    · exact .inl ⟨Φ, h1, .inl fun v hv => hK _ _ (h2 v hv)⟩
    · exact .inl ⟨Φ, h1, .inr fun v hv => ⟨(h2 v hv).1, hK _ _ (h2 v hv).2⟩⟩
    · exact .inr ⟨hn, Φ, h1, .inl fun v hv => hK _ _ (h2 v hv)⟩
    · exact .inr ⟨hn, Φ, h1, .inr fun v hv => ⟨(h2 v hv).1, hK _ _ (h2 v hv).2⟩⟩
  have pcm : ∀ {f vs}, pcall P f vs d h K → pcall P f vs d h K' := by
    rintro f vs (hp | (⟨bs, h1, h2, h3, q, h4, h5, Φ, h6, h7⟩ | ⟨bs, h1, h2, h3, q, h4, h5, Φ, h6, h7⟩) | ⟨h1, Φ, h2, h3⟩)
    · exact .inl (pum hp)
    · refine .inr (.inl <| .inl ⟨bs, h1, h2, h3, q, h4, h5, Φ, h6, ?_⟩)
      rcases h7 with h7 | h7
      · exact .inl fun v cs hv => hK _ _ (h7 v cs hv)
      · exact .inr fun v cs hv => ⟨(h7 v cs hv).1, hK _ _ (h7 v cs hv).2⟩
    · exact .inr (.inl <| .inr ⟨bs, h1, h2, h3, q, h4, h5, Φ, h6, fun j o n cs hv b hb => hK _ _ (h7 j o n cs hv b hb)⟩)
    · exact .inr (.inr ⟨h1, Φ, h2, fun e c hc => ⟨(h3 e c hc).1, hK _ _ (h3 e c hc).2⟩⟩)
  cases op <;> simp only [pop] at hp ⊢
  case ld n x => exact ldm hp
  case ldb b n x => exact ⟨hp.1, ldm hp.2⟩
  case alloc => exact ⟨hp.1, hK _ _ hp.2⟩
  case box => exact ⟨hp.1, hK _ _ hp.2⟩
  case mks => obtain ⟨cs, h1, h2, h3⟩ := hp; exact ⟨cs, h1, h2, hK _ _ h3⟩
  case mk e bytes z l c =>
    cases hl : ρ l <;> simp only [hl] at hp ⊢ <;> try exact hp
    cases hc : ρ c <;> simp only [hc] at hp ⊢ <;> try exact hp
    exact ⟨hp.1, hK _ _ hp.2⟩
  case app e sz bytes z av s x =>
    obtain ⟨r, h1, h2, h3⟩ := hp
    refine ⟨r, h1, h2, ?_⟩
    cases hs : ρ s <;> simp only [hs, papV] at h3 ⊢ <;> try exact h3
    · rename_i b o n
      cases o with
      | succ o => exact h3
      | zero =>
        simp only at h3 ⊢
        cases hb : h b <;> simp only [hb, papB] at h3 ⊢
        exact ⟨h3.1, hK _ _ h3.2⟩
    · exact ⟨fun h0 => hK _ _ (h3.1 h0), fun h0 => ⟨(h3.2 h0).1, hK _ _ (h3.2 h0).2⟩⟩
  case st n a x =>
    cases ha : ρ a <;> simp only [ha, pst] at hp ⊢ <;> try exact hp
    rename_i b off
    cases hb : h b <;> simp only [hb, pstB] at hp ⊢
    exact ⟨hp.1, hK _ _ hp.2⟩
  case cpy sz x y =>
    obtain ⟨r, h1, hp⟩ := hp
    refine ⟨r, h1, ?_⟩
    cases hs : ρ x <;> simp only [hs, pcpyV] at hp ⊢ <;> try exact hp
    · rename_i b o n
      split
      · rename_i h0; rw [if_pos h0] at hp; exact hK _ _ hp
      · rename_i h0
        rw [if_neg h0] at hp
        simp only [pst] at hp ⊢
        cases hb : h b <;> simp only [hb, pstB] at hp ⊢
        exact ⟨hp.1, hK _ _ hp.2⟩
    · exact hK _ _ hp
  case clr z x =>
    cases hs : ρ x <;> simp only [hs, pclrV] at hp ⊢ <;> try exact hp
    · rename_i b o n
      split
      · rename_i h0; rw [if_pos h0] at hp; exact hK _ _ hp
      · rename_i h0
        rw [if_neg h0] at hp
        simp only [pst] at hp ⊢
        cases hb : h b <;> simp only [hb, pstB] at hp ⊢
        exact ⟨hp.1, hK _ _ hp.2⟩
    · exact hK _ _ hp
  case sta av n a x =>
    refine ⟨hp.1, ?_⟩
    replace hp := hp.2
    cases ha : ρ a <;> simp only [ha, pst] at hp ⊢ <;> try exact hp
    rename_i b off
    cases hb : h b <;> simp only [hb, pstB] at hp ⊢
    exact ⟨hp.1, hK _ _ hp.2⟩
  case call => exact pcm hp
  case callp => exact pum hp
  case callv f as =>
    cases hf : ρ f <;> simp only [hf, pcallv] at hp ⊢ <;> try exact hp
    exact ⟨hp.1, pcm hp.2⟩
  all_goals
    obtain ⟨v, h1, h2⟩ := hp
    exact ⟨v, h1, hK _ _ h2⟩

theorem qops_sound : ∀ {ops : List AOper} {K : Tp → Hp → Prop} {t : Tp} {h : Hp}, qops P ops K t h → pops P ops K t h
  | [], K, t, h, hq => hq
  | o :: r, K, t, h, hq => by
    simp only [qops] at hq
    show pstep P o (pops P r K) t h
    simp only [pstep]
    cases hg : o.guard with
    | none =>
      rw [hg] at hq
      exact pop_mono (fun v h hk => qops_sound hk) (qop_eq hq)
    | some q =>
      obtain ⟨g, w⟩ := q
      rw [hg] at hq
      simp only at hq
      simp only [pgoes]
      have hself : ∀ {v}, t g = v → tput t g v = t := fun {v} hv => by
        funext x; simp only [tput]; split
        · rename_i e; rw [e, hv]
        · rfl
      cases hv : t g <;> simp only [hv, pgk] at hq <;> try exact hq
      case tup l =>
        cases l with
        | cons a l => exact hq.elim
        | nil => rw [hself hv] at hq; exact qops_sound hq
      rename_i b
      cases b
      · have h2 := hq.2 rfl
        rw [hself hv] at h2
        cases w
        · simp only [cond] at h2; simp only [if_true]; exact pop_mono (fun v h hk => qops_sound hk) (qop_eq h2)
        · simp only [cond] at h2; simp only [Bool.false_eq_true, if_false]; exact qops_sound h2
      · have h2 := hq.1 rfl
        rw [hself hv] at h2
        cases w
        · simp only [cond] at h2; simp only [Bool.true_eq_false, if_false]; exact qops_sound h2
        · simp only [cond] at h2; simp only [if_true]; exact pop_mono (fun v h hk => qops_sound hk) (qop_eq h2)

/-- A state that tells less. -/
theorem sim_less {F0 : Fr} {t t' : Tp} {h : Hp} {u : T} {g : H} (hs : Sim F0 t h u g) (hl : ∀ k, t' k = t k ∨ t' k = .und) : Sim F0 t' h u g := by
  obtain ⟨ι, F, D, hF, hh, ht⟩ := hs
  refine ⟨ι, F, D, hF, hh, fun k => ?_⟩
  rcases hl k with h | h
  · rw [h]; exact ht k
  · rw [h]; exact R_und

theorem gst_gmap {t : Tp} : ∀ (ks : List Nat) (i : Nat) (pre : List V), pre.length = i → ∀ k, gst i ks (pre ++ gmap t ks) k = t k ∨ gst i ks (pre ++ gmap t ks) k = .und
  | [], i, pre, hi, k => .inr rfl
  | a :: ks, i, pre, hi, k => by
    simp only [gst, gmap]
    by_cases hk : k = a
    · subst hk
      left
      have : Nat.beq k k = true := Nat.beq_refl k
      simp [this, List.getD, List.getElem?_append, hi]
    · have : Nat.beq k a = false := by
        cases hb : Nat.beq k a with
        | false => rfl
        | true => exact absurd (Nat.eq_of_beq_eq_true hb) hk
      simp only [this, cond]
      have := gst_gmap (t := t) ks (i + 1) (pre ++ [t a]) (by simp [hi]) k
      simpa using this

theorem gst_lookup : ∀ (ks : List Nat) (vs : List V) (i : Nat) (pre : List V) (b : Tp), pre.length = i → ks.length = vs.length → ∀ k, ks.contains k = true → gst i ks (pre ++ vs) k = tputz b ks vs k
  | [], vs, i, pre, b, hi, hl, k, hk => by simp at hk
  | a :: ks, [], i, pre, b, hi, hl, k, hk => by simp at hl
  | a :: ks, v :: vs, i, pre, b, hi, hl, k, hk => by
    simp only [gst, tputz, tput]
    by_cases hka : k = a
    · subst hka
      have : Nat.beq k k = true := Nat.beq_refl k
      simp [this, List.getD, List.getElem?_append, hi]
    · have hb : Nat.beq k a = false := by
        cases hb : Nat.beq k a with
        | false => rfl
        | true => exact absurd (Nat.eq_of_beq_eq_true hb) hka
      simp only [hb, cond, if_neg hka]
      have := gst_lookup ks vs (i + 1) (pre ++ [v]) b (by simp [hi]) (by simpa using hl) k (by simp at hk; rcases hk with h | h; exact absurd h hka; simpa using h)
      simpa using this
theorem tputz_not : ∀ (ks : List Nat) (vs : List V) (b : Tp) (k : Nat), ks.contains k = false → tputz b ks vs k = b k
  | [], vs, b, k, hk => by cases vs <;> rfl
  | a :: ks, [], b, k, hk => rfl
  | a :: ks, v :: vs, b, k, hk => by
    simp at hk
    simp only [tputz, tput]
    rw [if_neg hk.1]
    exact tputz_not ks vs b k (by simpa using hk.2)
theorem gst_none : ∀ (ks : List Nat) (vs : List V) (i : Nat) (k : Nat), ks.contains k = false → gst i ks vs k = .und
  | [], vs, i, k, hk => rfl
  | a :: ks, vs, i, k, hk => by
    simp at hk
    have hb : Nat.beq k a = false := by
      cases hb : Nat.beq k a with
      | false => rfl
      | true => exact absurd (Nat.eq_of_beq_eq_true hb) hk.1
    simp only [gst, hb, cond]
    exact gst_none ks vs (i + 1) k (by simpa using hk.2)
theorem tputl_lpz : ∀ (ks : List Nat) (vs : List V) (i : Nat) (pre : List V), pre.length = i → ks.length = vs.length → ∀ k, tputl tund (lpz ks vs) k = gst i ks (pre ++ vs) k
  | [], vs, i, pre, hi, hl, k => by cases vs <;> rfl
  | a :: ks, [], i, pre, hi, hl, k => by simp at hl
  | a :: ks, v :: vs, i, pre, hi, hl, k => by
    simp only [lpz, tputl, gst, tput]
    by_cases hka : k = a
    · subst hka
      have : Nat.beq k k = true := Nat.beq_refl k
      simp [this, List.getD, List.getElem?_append, hi]
    · have hb : Nat.beq k a = false := by
        cases hb : Nat.beq k a with
        | false => rfl
        | true => exact absurd (Nat.eq_of_beq_eq_true hb) hka
      simp only [hb, cond, if_neg hka]
      have := tputl_lpz ks vs (i + 1) (pre ++ [v]) (by simp [hi]) (by simpa using hl) k
      simpa using this
theorem gmap_len (t : Tp) : ∀ ks : List Nat, (gmap t ks).length = ks.length
  | [] => rfl
  | k :: ks => by simp [gmap, gmap_len t ks]
theorem gmap_map (t : Tp) : ∀ ks : List Nat, gmap t ks = ks.map t
  | [] => rfl
  | k :: ks => by simp [gmap, gmap_map t ks]
theorem lpOk_gmap {t : Tp} : ∀ (ks : List Nat) (lv : List V), gmap t ks = lv → lpOk t (lpz ks lv)
  | [], lv, h => by cases lv <;> trivial
  | k :: ks, [], h => trivial
  | k :: ks, v :: lv, h => by
    simp only [gmap, List.cons.injEq] at h
    exact ⟨h.1, lpOk_gmap ks lv h.2⟩
theorem mats_len : ∀ (l : List V) (c : Nat), (mats l c).1.length = l.length
  | [], c => by simp [mats]
  | v :: l, c => by simp [mats, mats_len l]
theorem folds_len {f : Hp → V → Option (V × Hp)} : ∀ {l l' : List V} {h h' : Hp}, folds f h l = some (l', h') → l'.length = l.length
  | [], l', h, h', hf => by simp only [folds, Option.some.injEq, Prod.mk.injEq] at hf; simp [← hf.1]
  | v :: l, l', h, h', hf => by
    simp only [folds, Option.bind_eq_some_iff, Option.map_eq_some_iff] at hf
    obtain ⟨p, h1, q, h2, h3⟩ := hf
    simp only [Prod.mk.injEq] at h3
    rw [← h3.1]; simp [folds_len (l' := q.1) (h' := q.2) h2]

theorem rts_len : ∀ {ss : List Nat} {l : List V}, (rts ss l).length = l.length
  | [], l => by cases l <;> rfl
  | s :: ss, [] => rfl
  | s :: ss, v :: l => by simp [rts, rts_len (ss := ss)]
theorem ColV_Col {vs ls : List Nat} {bx : List (Nat × TypeId × Nat)} {t : Tp} {h : Hp} {lv : List V} {K : List V → List (List V) → Prop} (hc : ColV bx (gmap t vs) (gmap t ls) lv h K) :
    Col vs (lpz ls lv) bx t h fun vals cells => vals.length = vs.length ∧ K vals cells := by
  obtain ⟨p, h1, hp, hcl, cells, h2, ⟨h3, h4, h5⟩, h6⟩ := hc
  rw [gmap_map] at h1
  exact ⟨p, h1, hp, hcl, cells, h2, ⟨h3, h4, lpOk_gmap ls lv h5⟩, by have := folds_len (l' := p.1) (h' := p.2) h1; simpa using this, h6⟩

theorem pwpA_sound : ∀ (c : PCode) {n : Tp → Hp → Prop} {e : Nat → Tp → Hp → Prop} {r : Tp → Hp → Prop} {t : Tp} {h : Hp}, pwpA P c n e r t h → W P (era c) n e r t h
  | .skip, n, e, r, t, h, hp => W_of hp
  | .reg ops, n, e, r, t, h, hp => W_of (qops_sound hp)
  | .seq a b, n, e, r, t, h, hp => by
    intro F0 u g hs
    simp only [era, awp]
    refine awp_agree.awp_mono (fun u g hx => ?_) (fun _ _ _ h => h) (fun _ _ h => h) (pwpA_sound a hp F0 u g hs)
    obtain ⟨t', h', hs', hw⟩ := hx
    exact pwpA_sound b hw F0 u g hs'
  | .join os a b, n, e, r, t, h, hp => by
    intro F0 u g hs
    simp only [era, awp]
    simp only [pwpA, JN] at hp
    refine awp_agree.awp_mono (fun u g hx => ?_) (fun _ _ _ h => h) (fun _ _ h => h) (pwpA_sound a hp F0 u g hs)
    obtain ⟨t', h', hs', hw⟩ := hx
    exact pwpA_sound b hw F0 u g (sim_less hs' fun k => by simpa using gst_gmap os 0 [] rfl k)
  | .cond c a b, n, e, r, t, h, hp => by
    intro F0 u g hs
    simp only [pwpA] at hp
    obtain ⟨ι, F, D, hF, hh, ht⟩ := hs
    have hc := pev_R ht c
    cases hv : pev t c <;> rw [hv] at hp hc <;> simp only [pcond] at hp
    rename_i v
    simp only [R] at hc
    simp only [era, awp, hc]
    exact ⟨fun h1 => pwpA_sound a (hp.1 h1) F0 u g ⟨ι, F, D, hF, hh, ht⟩, fun h1 => pwpA_sound b (hp.2 h1) F0 u g ⟨ι, F, D, hF, hh, ht⟩⟩
  | .block id b, n, e, r, t, h, hp => by
    intro F0 u g hs
    simp only [era, awp]
    refine awp_agree.awp_mono (fun u g hx => hx) (fun i u g hx => ?_) (fun _ _ h => h) (pwpA_sound b hp F0 u g hs)
    obtain ⟨t', h', hs', hp'⟩ := hx
    split
    · rename_i hi; subst hi; exact ⟨t', h', hs', by simpa [Nat.beq_refl] using hp'⟩
    · rename_i hi
      have hb : Nat.beq i id = false := by
        cases hb : Nat.beq i id with
        | false => rfl
        | true => exact absurd (Nat.eq_of_beq_eq_true hb) hi
      exact ⟨t', h', hs', by simpa [hb] using hp'⟩
  | .loop vs ls b, n, e, r, t, h, hp => by
    obtain ⟨c0, bx, I, ss, hf, h0, hround⟩ := hp
    refine W_of (ploop c0 vs (lpz ls (gmap t ls)) bx (fun k vals cells => vals.length = vs.length ∧ I k vals cells) ss hf ?_ ?_)
    · obtain ⟨p, h1, hp, hcl, cells, h2, h3, hl, k, hI⟩ := ColV_Col h0
      exact ⟨p, h1, hp, hcl, cells, h2, h3, k, by rw [rts_len]; exact hl, hI⟩
    · rintro k vals cells ⟨hlen, hI⟩
      have h1 := pwpA_sound b (hround k vals cells hI)
      have hst : ∀ x, gst2 vs ls (mats vals c0).1 (gmap t ls) x = ltmp c0 vs (lpz ls (gmap t ls)) vals x := fun x => by
        simp only [gst2, ltmp]
        cases hx : vs.contains x with
        | true =>
          simp only [cond]
          have := gst_lookup vs (mats vals c0).1 0 [] (tputl tund (lpz ls (gmap t ls))) rfl (by rw [mats_len, hlen]) x hx
          simpa using this
        | false =>
          simp only [cond]
          rw [tputz_not _ _ _ _ hx]
          have := tputl_lpz ls (gmap t ls) 0 [] rfl (by rw [gmap_len]) x
          simpa using this.symm
      rw [← funext hst]
      intro F0 u g hs
      refine awp_agree.awp_mono (fun u g hx => ?_) (fun _ _ _ h => h) (fun _ _ h => h) (h1 F0 u g hs)
      obtain ⟨t', h', hs', hcol⟩ := hx
      refine ⟨t', h', hs', ?_⟩
      obtain ⟨p, h1, hp, hcl, cells, h2, h3, hl, k', hk, hI'⟩ := ColV_Col hcol
      exact ⟨p, h1, hp, hcl, cells, h2, h3, k', hk, hl, hI'⟩
  | .exit id, n, e, r, t, h, hp => W_of hp
  | .ret, n, e, r, t, h, hp => W_of hp

/-! ### A function's contract out of its printed form -/
def pcellV (h : Hp) (q : Option Nat) : V → Option V
  | .ptr b off => match h b with
    | .row _ _ cs => grd (noOwn cs = true) (vcellsAt cs off q)
    | _ => none
  | _ => none
theorem presV_cell {t : Tp} {h : Hp} {j : Nat} {q : Option Nat} : presV t h (.cell q j) = pcellV h q (t j) := by
  simp only [presV]
  cases t j <;> rfl
/-- The end: what comes out, as a tree. -/
def FIN (h : Hp) (v : V) (Φ : V → Prop) : Prop := OK (fin 5 h v) fun p => Rq (clo p.1 = true) (Φ p.1)
/-- The same, with the blocks that were handed. -/
def FINM (k : List (List V)) (bx : List (Nat × TypeId × Nat)) (h : Hp) (v : V) (Φ : V → List (List V) → Prop) : Prop :=
  OK (fin 5 h v) fun p => OK (closeAll p.2 (names bx)) fun h' => OK (boxesOf h' bx) fun cells => Rq (clo p.1 = true ∧ closK k cells) (Φ p.1 cells)
def QR (t : Tp) (h : Hp) (Rt : Hp → V → Prop) : List ARes → List V → Prop
  | [], acc => Rt h (presJoin acc)
  | .tmp k :: rs, acc => QR t h Rt rs (acc ++ [t k])
  | .cell n k :: rs, acc => VL (pcellV h n (t k)) fun v => QR t h Rt rs (acc ++ [v])
theorem QR_sound {t : Tp} {h : Hp} {Rt : Hp → V → Prop} : ∀ {rs : List ARes} {acc : List V}, QR t h Rt rs acc → ∃ l, presAll t h rs = some l ∧ Rt h (presJoin (acc ++ l))
  | [], acc, hq => ⟨[], rfl, by rw [List.append_nil]; exact hq⟩
  | .tmp k :: rs, acc, hq => by
    obtain ⟨l, h1, h2⟩ := QR_sound (rs := rs) hq
    exact ⟨t k :: l, by simp [presAll, presV, h1], by simpa using h2⟩
  | .cell n k :: rs, acc, hq => by
    simp only [QR, VL_eq] at hq
    obtain ⟨v, hv, hq⟩ := hq
    obtain ⟨l, h1, h2⟩ := QR_sound (rs := rs) hq
    exact ⟨v :: l, by simp [presAll, presV_cell, hv, h1], by simpa using h2⟩

theorem era_ann : ∀ (c : ACode) (m : List Mk), era (ann c m).1 = c
  | .skip, m => rfl
  | .reg ops, m => rfl
  | .seq a b, m => by
    simp only [ann]
    split
    · simp only [era, era_ann a, era_ann b]
    · simp only [era, era_ann a, era_ann b]
  | .cond c a b, m => by simp only [ann, era, era_ann a, era_ann b]
  | .block i b, m => by simp only [ann, era, era_ann b]
  | .loop b, m => by
    simp only [ann]
    split
    · simp only [era, era_ann b]
    · simp only [era, era_ann b]
  | .exit i, m => rfl
  | .ret, m => rfl

/-- A function, as it is printed. -/
def runF (P : Program) (fn : Func) (m : List Mk) (vs : List V) (h0 : Hp) (Rt : Hp → V → Prop) : Prop :=
  match compF P fn with
  | some af => Rq (vs.length ≤ af.n) (pwpA P (ann af.code m).1 (fun t h => QR t h Rt af.res []) (fun _ _ _ => False) (fun t h => QR t h Rt af.res []) (argV vs) h0)
  | none => False

theorem prun {f : FuncId} {fn : Func} (hf : P.funcs[f]? = some fn) {m : List Mk} {vs : List V} {Φ : V → Prop} (h : runF P fn m vs hnil fun h v => FIN h v Φ) : PSpec P f vs Φ := by
  unfold runF at h
  cases hc : compF P fn with
  | none => rw [hc] at h; exact h.elim
  | some af =>
    rw [hc] at h
    obtain ⟨hn, hp⟩ := h
    have hret : ∀ t h, QR t h (fun h v => FIN h v Φ) af.res [] → PRet af.res Φ t h := fun t h hq => by
      obtain ⟨l, h1, p, h2, h3, h4⟩ := QR_sound hq
      exact ⟨l, h1, p, by simpa using h2, h3, h4⟩
    refine pspec_of hf hc hn ?_
    have h1 := pwpA_sound _ hp
    rw [era_ann] at h1
    intro F0 u g hs
    refine awp_agree.awp_mono (fun u g hx => ?_) (fun _ _ _ h => h) (fun u g hx => ?_) (h1 F0 u g hs)
    · obtain ⟨t', h', hs', hq⟩ := hx; exact ⟨t', h', hs', hret _ _ hq⟩
    · obtain ⟨t', h', hs', hq⟩ := hx; exact ⟨t', h', hs', hret _ _ hq⟩
def FINV (h : Hp) (v : V) (Φ : V → Prop) : Prop := OK (fin 5 h v) fun p => Rq (nrf p.1 = true) (Φ p.1)
theorem prunV {f : FuncId} {fn : Func} (hf : P.funcs[f]? = some fn) {m : List Mk} {vs : List V} {Φ : V → Prop} (h : runF P fn m vs hnil fun h v => FINV h v Φ) : PSpecV P f vs Φ := by
  unfold runF at h
  cases hc : compF P fn with
  | none => rw [hc] at h; exact h.elim
  | some af =>
    rw [hc] at h
    obtain ⟨hn, hp⟩ := h
    have hret : ∀ t h, QR t h (fun h v => FINV h v Φ) af.res [] → PRetV af.res Φ t h := fun t h hq => by
      obtain ⟨l, h1, p, h2, h3, h4⟩ := QR_sound hq
      exact ⟨l, h1, p, by simpa using h2, h3, h4⟩
    refine pspecV_of hf hc hn ?_
    have h1 := pwpA_sound _ hp
    rw [era_ann] at h1
    intro F0 u g hs
    refine awp_agree.awp_mono (fun u g hx => ?_) (fun _ _ _ h => h) (fun u g hx => ?_) (h1 F0 u g hs)
    · obtain ⟨t', h', hs', hq⟩ := hx; exact ⟨t', h', hs', hret _ _ hq⟩
    · obtain ⟨t', h', hs', hq⟩ := hx; exact ⟨t', h', hs', hret _ _ hq⟩
theorem prunM {f : FuncId} {fn : Func} (hf : P.funcs[f]? = some fn) {m : List Mk} {vs : List V} {bx : List (Nat × TypeId × Nat)} {cells : List (List V)} {Φ : V → List (List V) → Prop}
    (hlen : cells.length = bx.length) (h64 : (names bx).all (fun x => decide (x < 64)) = true) (h : runF P fn m vs (hputb hnil bx cells) fun h v => FINM cells bx h v Φ) : PSpecM P f vs bx cells Φ := by
  unfold runF at h
  cases hc : compF P fn with
  | none => rw [hc] at h; exact h.elim
  | some af =>
    rw [hc] at h
    obtain ⟨hn, hp⟩ := h
    have hret : ∀ t h, QR t h (fun h v => FINM cells bx h v Φ) af.res [] → PRetM cells bx af.res Φ t h := fun t h hq => by
      obtain ⟨l, h1, p, h2, h3, h4⟩ := QR_sound hq
      exact ⟨l, h1, p, by simpa using h2, h3, h4⟩
    refine pspecM_of hf hc hn hlen h64 ?_
    have h1 := pwpA_sound _ hp
    rw [era_ann] at h1
    intro F0 u g hs
    refine awp_agree.awp_mono (fun u g hx => ?_) (fun _ _ _ h => h) (fun u g hx => ?_) (h1 F0 u g hs)
    · obtain ⟨t', h', hs', hq⟩ := hx; exact ⟨t', h', hs', hret _ _ hq⟩
    · obtain ⟨t', h', hs', hq⟩ := hx; exact ⟨t', h', hs', hret _ _ hq⟩
/-- The end of a function that returns a slice of a block that it was handed. -/
def FINMR (k : List (List V)) (bx : List (Nat × TypeId × Nat)) (h : Hp) (Φ : Nat → Nat → Nat → List (List V) → Prop) (v : V) : Prop := match v with
  | .rf j o n => OK (closeAll h (names bx)) fun h' => OK (boxesOf h' bx) fun cells => Rq (closK k cells ∧ (names bx).contains j = true) (Φ j o n cells)
  | _ => False
theorem prunMR {f : FuncId} {fn : Func} (hf : P.funcs[f]? = some fn) {m : List Mk} {vs : List V} {bx : List (Nat × TypeId × Nat)} {cells : List (List V)} {Φ : Nat → Nat → Nat → List (List V) → Prop}
    (hlen : cells.length = bx.length) (h64 : (names bx).all (fun x => decide (x < 64)) = true) (h : runF P fn m vs (hputb hnil bx cells) fun h v => FINMR cells bx h Φ v) : PSpecMR P f vs bx cells Φ := by
  unfold runF at h
  cases hc : compF P fn with
  | none => rw [hc] at h; exact h.elim
  | some af =>
    rw [hc] at h
    obtain ⟨hn, hp⟩ := h
    have hret : ∀ t h, QR t h (fun h v => FINMR cells bx h Φ v) af.res [] → PRetMR cells bx af.res Φ t h := fun t h hq => by
      obtain ⟨l, h1, h2⟩ := QR_sound hq
      simp only [List.nil_append] at h2
      unfold FINMR at h2
      split at h2
      · rename_i j o n hj; exact ⟨l, h1, j, o, n, hj, h2⟩
      · exact h2.elim
    refine pspecMR_of hf hc hn hlen h64 ?_
    have h1 := pwpA_sound _ hp
    rw [era_ann] at h1
    intro F0 u g hs
    refine awp_agree.awp_mono (fun u g hx => ?_) (fun _ _ _ h => h) (fun u g hx => ?_) (h1 F0 u g hs)
    · obtain ⟨t', h', hs', hq⟩ := hx; exact ⟨t', h', hs', hret _ _ hq⟩
    · obtain ⟨t', h', hs', hq⟩ := hx; exact ⟨t', h', hs', hret _ _ hq⟩
/-- The end of a function that returns the address of a new block. -/
def FINB (vs : List V) (h : Hp) (Φ : TypeId → List V → Prop) (v : V) : Prop := match v with
  | .ptr b 0 => match h b with
    | .row e 1 cs => Rq (∀ v ∈ cs, keepV vs v) (Φ e cs)
    | _ => False
  | _ => False
theorem prunB {f : FuncId} {fn : Func} (hf : P.funcs[f]? = some fn) {m : List Mk} {vs : List V} {Φ : TypeId → List V → Prop} (h : runF P fn m vs hnil fun h v => FINB vs h Φ v) : PSpecB P f vs Φ := by
  unfold runF at h
  cases hc : compF P fn with
  | none => rw [hc] at h; exact h.elim
  | some af =>
    rw [hc] at h
    obtain ⟨hn, hp⟩ := h
    have hret : ∀ t h, QR t h (fun h v => FINB vs h Φ v) af.res [] → PRetB vs af.res Φ t h := fun t h hq => by
      obtain ⟨l, h1, h2⟩ := QR_sound hq
      simp only [List.nil_append] at h2
      unfold FINB at h2
      split at h2
      · rename_i b hj
        split at h2
        · rename_i e cs hb; exact ⟨l, h1, b, e, cs, hj, hb, h2.1, h2.2⟩
        · exact h2.elim
      · exact h2.elim
    refine pspecB_of hf hc hn ?_
    have h1 := pwpA_sound _ hp
    rw [era_ann] at h1
    intro F0 u g hs
    refine awp_agree.awp_mono (fun u g hx => ?_) (fun _ _ _ h => h) (fun u g hx => ?_) (h1 F0 u g hs)
    · obtain ⟨t', h', hs', hq⟩ := hx; exact ⟨t', h', hs', hret _ _ hq⟩
    · obtain ⟨t', h', hs', hq⟩ := hx; exact ⟨t', h', hs', hret _ _ hq⟩
/-- A function's printed form: 'X h0 Rt'. -/
structure Prt (P : Program) (f : FuncId) (vs : List V) (X : Hp → (Hp → V → Prop) → Prop) : Prop where
  run : ∃ fn m, P.funcs[f]? = some fn ∧ ∀ h0 Rt, X h0 Rt → runF P fn m vs h0 Rt
theorem pfun {f : FuncId} {fn : Func} {m : List Mk} {vs : List V} {c : Prop} {X : Hp → (Hp → V → Prop) → Prop} (hf : P.funcs[f]? = some fn) (he : ∀ h0 Rt, runF P fn m vs h0 Rt = Rq c (X h0 Rt)) (hc : c) : Prt P f vs X :=
  ⟨fn, m, hf, fun h0 Rt hx => by rw [he]; exact ⟨hc, hx⟩⟩
theorem Prt.f {f : FuncId} {vs : List V} {X : Hp → (Hp → V → Prop) → Prop} (h : Prt P f vs X) {Φ : V → Prop} (hx : X hnil fun h v => FIN h v Φ) : PSpec P f vs Φ := by
  obtain ⟨fn, m, hf, hr⟩ := h.run
  exact prun hf (hr _ _ hx)
theorem Prt.v {f : FuncId} {vs : List V} {X : Hp → (Hp → V → Prop) → Prop} (h : Prt P f vs X) {Φ : V → Prop} (hx : X hnil fun h v => FINV h v Φ) : PSpecV P f vs Φ := by
  obtain ⟨fn, m, hf, hr⟩ := h.run
  exact prunV hf (hr _ _ hx)
theorem Prt.b {f : FuncId} {vs : List V} {X : Hp → (Hp → V → Prop) → Prop} (h : Prt P f vs X) {Φ : TypeId → List V → Prop} (hx : X hnil fun h v => FINB vs h Φ v) : PSpecB P f vs Φ := by
  obtain ⟨fn, m, hf, hr⟩ := h.run
  exact prunB hf (hr _ _ hx)
theorem Prt.m {f : FuncId} {vs : List V} {X : Hp → (Hp → V → Prop) → Prop} (h : Prt P f vs X) {bx : List (Nat × TypeId × Nat)} {cells : List (List V)} {Φ : V → List (List V) → Prop} (hlen : cells.length = bx.length)
    (h64 : (names bx).all (fun x => decide (x < 64)) = true) (hx : X (hputb hnil bx cells) fun h v => FINM cells bx h v Φ) : PSpecM P f vs bx cells Φ := by
  obtain ⟨fn, m, hf, hr⟩ := h.run
  exact prunM hf hlen h64 (hr _ _ hx)
theorem Prt.mr {f : FuncId} {vs : List V} {X : Hp → (Hp → V → Prop) → Prop} (h : Prt P f vs X) {bx : List (Nat × TypeId × Nat)} {cells : List (List V)} {Φ : Nat → Nat → Nat → List (List V) → Prop} (hlen : cells.length = bx.length)
    (h64 : (names bx).all (fun x => decide (x < 64)) = true) (hx : X (hputb hnil bx cells) fun h v => FINMR cells bx h Φ v) : PSpecMR P f vs bx cells Φ := by
  obtain ⟨fn, m, hf, hr⟩ := h.run
  exact prunMR hf hlen h64 (hr _ _ hx)
end
end Go.Proofs.YtjklebickfcddaaDoor.Sep

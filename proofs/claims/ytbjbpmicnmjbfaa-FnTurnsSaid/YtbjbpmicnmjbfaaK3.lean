/- Texts put together: SepX, SepY, SepZ, SepLaw, SepRec. -/
import Derived.Test.YtbjbpmicnmjbfaaK2
import Derived.Carry
import Derived.Handed
import Derived.OpenShut
import Derived.ProofKit
namespace Go.Proofs.Ytbjbpmicnmjbfaa.Sep
open Go.RowKit
set_option linter.unusedVariables false
set_option linter.unusedSimpArgs false
set_option maxRecDepth 20000
section
set_option linter.constructorNameAsVariable false
def Split (b : Bool) (A B : Prop) : Prop := (b = true → A) ∧ (b = false → B)
theorem Split.mk {b : Bool} {A B : Prop} (h1 : b = true → A) (h2 : b = false → B) : Split b A B := ⟨h1, h2⟩
def JN (F : (List V → Hp → Prop) → Prop) (G : List V → Hp → Prop) : Prop := F G
def VL : Option V → (V → Prop) → Prop
  | some v, K => K v
  | none, _ => False
theorem VL_eq (x : Option V) (K : V → Prop) : VL x K = OK x K := by cases x <;> simp [VL, OK]
def pcond (A B : Prop) : V → Prop
  | .bool v => Split v A B
  | _ => False
def pgk (w : Bool) (h : Hp) (op : V → (V → Hp → Prop) → Prop) (k : V → V → Hp → Prop) : V → Prop
  | .bool b => Split b (cond w (op (.bool true) (k (.bool true))) (k (.bool true) (.tup []) h)) (cond w (k (.bool false) (.tup []) h) (op (.bool false) (k (.bool false))))
  | .tup [] => k (.tup []) (.tup []) h
  | _ => False
def pops1 (t : Tp) : List Operand → List V
  | [] => []
  | x :: l => pev t x :: pops1 t l
theorem pops1_eq (t : Tp) : ∀ l : List Operand, l.map (pev t) = pops1 t l
  | [] => rfl
  | x :: l => by simp [pops1, pops1_eq t l]
def pparts (t : Tp) : List (Nat × Nat × Operand) → List (Nat × Nat × V)
  | [] => []
  | p :: l => (p.1, p.2.1, pev t p.2.2) :: pparts t l
theorem pparts_eq (t : Tp) : ∀ l : List (Nat × Nat × Operand), (l.map fun p => (p.1, p.2.1, pev t p.2.2)) = pparts t l
  | [] => rfl
  | x :: l => by simp [pparts, pparts_eq t l]
def popt (t : Tp) : Option Operand → Option V
  | none => none
  | some x => some (pev t x)
theorem popt_eq (t : Tp) (o : Option Operand) : o.map (pev t) = popt t o := by cases o <;> rfl
def vbld (x : Option (List V)) : Option V := x.bind fun cs => some (.agg cs)
def pbox (h : Hp) (d : Nat) (ty : TypeId) (cs : List V) (K : Hp → Prop) : Prop := Rq (h d = .free ∧ cs.all cell1 = true) (K (hput h d (.row ty 1 cs)))
def palloc (h : Hp) (d : Nat) (ty : TypeId) (cs : List V) (K : Hp → Prop) : Prop := Rq (h d = .free) (K (hput h d (.row ty 1 cs)))
def pmks (h : Hp) (d : Nat) (ty : TypeId) (zl len : Nat) (K : Hp → Prop) (cs : Option (List V)) : Prop :=
  OK cs fun cs => Rq (h d = .free ∧ cs.all cell1 = true ∧ len ≤ maxLen ∧ (zl = if len = 0 then 0 else len * (zl / len)) ∧ (len = 0 ∨ zl ≠ 0)) (K (hput h d (.row ty (if len = 0 then 0 else zl / len) cs)))
def pmk (h : Hp) (d : Nat) (ty : TypeId) (bytes : Nat) (z : List V) (K : V → Hp → Prop) : V → V → Prop
  | .int _ l, .int _ c => Rq (h d = .free ∧ 0 ≤ l ∧ l ≤ c ∧ (bytes : Int) * c ≤ 281474976710656 ∧ c ≤ maxLen ∧ z ≠ []) (K (.rf d 0 l.toNat) (hput h d (.row ty z.length ((List.replicate c.toNat z).flatten))))
  | _, _ => False
def pavs (h : Hp) (s : V) : List V → Prop
  | [] => True
  | y :: l => pavoid h s y ∧ pavs h s l
theorem pavs_eq (h : Hp) (s : V) (t : Tp) : ∀ l : List Operand, (∀ y ∈ l, pavoid h s (pev t y)) = pavs h s (pops1 t l)
  | [] => by simp [pavs, pops1]
  | x :: l => by simp only [List.mem_cons, forall_eq_or_imp, pavs, pops1, pavs_eq h s t l]
def pavsP (h : Hp) (s : V) : List V → Prop
  | [] => True
  | y :: l => pavoidP h s y ∧ pavsP h s l
theorem pavsP_eq (h : Hp) (s : V) (t : Tp) : ∀ l : List Operand, (∀ y ∈ l, pavoidP h s (pev t y)) = pavsP h s (pops1 t l)
  | [] => by simp [pavsP, pops1]
  | x :: l => by simp only [List.mem_cons, forall_eq_or_imp, pavsP, pops1, pavsP_eq h s t l]
def pcp (F : Nat → List V → Prop) (x : Option (Nat × List V)) : Prop := OK x fun r => F r.1 r.2
def papp (h : Hp) (K : Nat → List V → Prop) (av : Prop) (x : Option (Nat × List V)) : Prop := OK x fun r => Rq (r.2.all cell1 = true ∧ av) (K r.1 r.2)
def pcal (P : Program) (f : FuncId) (d : Nat) (h : Hp) (K : V → Hp → Prop) (vs : List V) : Prop := pcall P f vs d h K
def pcalp (P : Program) (f : FuncId) (d : Nat) (h : Hp) (K : V → Hp → Prop) (vs : List V) : Prop := Pure P f vs d h K
def pcala (P : Program) (f : FuncId) (d : Nat) (h : Hp) (K : V → Hp → Prop) (avs vs : List V) : Prop := pcalla P f vs avs d h K
def pldb (h : Hp) (n : Option Nat) (K : V → Hp → Prop) (x b : V) : Prop := Rq (sameB x b) (pld h n K x)
def qop (P : Program) (d : Nat) (op : AOp) (t : Tp) (h : Hp) (K : V → Hp → Prop) : Prop :=
  match op with
  | .mv x => K (pev t x) h
  | .pick c a b => VL (vpick (pev t c) (pev t a) (pev t b)) fun v => K v h
  | .bld z ps => VL (vbld (vfill (ofVals z) (pparts t ps))) fun v => K v h
  | .bin o x y => VL (lift2 (abin o) (pev t x) (pev t y)) fun v => K v h
  | .eqa neg ag sg x y => VL (veqa neg ag sg (pev t x) (pev t y)) fun v => K v h
  | .un o x => VL (lift1 (aun o) (pev t x)) fun v => K v h
  | .cvi k x => VL (lift1 (acvi k) (pev t x)) fun v => K v h
  | .slS s x lo hi => VL (vslS s (pev t x) (popt t lo) (popt t hi)) fun v => K v h
  | .slT x lo hi => VL (vslT (pev t x) (popt t lo) (popt t hi)) fun v => K v h
  | .fa o x => VL (vfa o (pev t x)) fun v => K v h
  | .fd n o x => VL (vfd n o (pev t x)) fun v => K v h
  | .ixA a s x i => VL (vixA a s (pev t x) (pev t i)) fun v => K v h
  | .ixS s x i => VL (vixS s (pev t x) (pev t i)) fun v => K v h
  | .ixV a s n x i => VL (vixV a s n (pev t x) (pev t i)) fun v => K v h
  | .ixT x i => VL (vixT (pev t x) (pev t i)) fun v => K v h
  | .ext x i => VL (vext i (pev t x)) fun v => K v h
  | .lenS x => VL (vlenS (pev t x)) fun v => K v h
  | .lenT x => VL (vlenT (pev t x)) fun v => K v h
  | .nilS neg x => VL (vnilS neg (pev t x)) fun v => K v h
  | .max x y => VL (lift2 amax (pev t x) (pev t y)) fun v => K v h
  | .min x y => VL (lift2 amin (pev t x) (pev t y)) fun v => K v h
  | .mkf f a b => VL (vmkf f (pops1 t a) (pops1 t b)) fun v => K v h
  | .b2s x => VL (vb2s h (pev t x)) fun v => K v h
  | .cvs x => VL (lift1 acvs (pev t x)) fun v => K v h
  | .ld n x => pld h n K (pev t x)
  | .ldb b n x => pldb h n K (pev t x) (pev t b)
  | .alloc e z => palloc h d e (ofVals z) fun h => K (.ptr d 0) h
  | .box e x => pbox h d e (cellsV (pev t x)) fun h => K (.ptr d 0) h
  | .mks e z len ps => pmks h d e z.length len (fun h => K (.rf d 0 len) h) (vfill (ofVals z) (pparts t ps))
  | .mk e bytes z l c => pmk h d e bytes (ofVals z) K (pev t l) (pev t c)
  | .app e sz bytes z av s x => papp h (fun m news => papV e sz bytes d h K m news (pev t s)) (pavs h (pev t s) (pops1 t av)) (preadS sz h (pev t x))
  | .st n a x => pst h n (cellsV (pev t x)) K (pev t a)
  | .cpy sz x y => pcp (fun m news => pcpyV sz h K m news (pev t x)) (preadS sz h (pev t y))
  | .clr z x => pclrV (ofVals z) h K (pev t x)
  | .sta av n a x => Rq (pavsP h (pev t a) (pops1 t av)) (pst h n (cellsV (pev t x)) K (pev t a))
  | .call f as => pcal P f d h K (pops1 t as)
  | .callp f as => pcalp P f d h K (pops1 t as)
  | .calla av f as => pcala P f d h K (pops1 t av) (pops1 t as)
  | .callv f as => pcallv P (pops1 t as) d h K (pev t f)
  | _ => False
def qops (P : Program) : List AOper → (Tp → Hp → Prop) → Tp → Hp → Prop
  | [], K, t, h => K t h
  | o :: r, K, t, h => match o.guard with
    | none => qop P (o.dst.getD 0 + 64) o.op t h fun v h => qops P r K (tputo t o.dst v) h
    | some (g, w) => pgk w h (fun gv k => qop P (o.dst.getD 0 + 64) o.op (tput t g gv) h k) (fun gv v h => qops P r K (tputo (tput t g gv) o.dst v) h) (t g)
inductive PCode where
  | skip
  | reg (ops : List AOper)
  | seq (a b : PCode)
  | join (os : List Nat) (a b : PCode)
  | cond (c : Operand) (a b : PCode)
  | block (id : Nat) (b : PCode)
  | loop (vs ls : List Nat) (b : PCode)
  | exit (id : Nat)
  | ret
inductive Mk where
  | s
  | j (os : List Nat)
  | l (vs ls : List Nat)
def ann : ACode → List Mk → PCode × List Mk
  | .skip, m => (.skip, m)
  | .reg ops, m => (.reg ops, m)
  | .seq a b, m => match m with
    | .j os :: m => ((.join os (ann a m).1 (ann b (ann a m).2).1), (ann b (ann a m).2).2)
    | _ => ((.seq (ann a m.tail).1 (ann b (ann a m.tail).2).1), (ann b (ann a m.tail).2).2)
  | .cond c a b, m => ((.cond c (ann a m).1 (ann b (ann a m).2).1), (ann b (ann a m).2).2)
  | .block i b, m => (.block i (ann b m).1, (ann b m).2)
  | .loop b, m => match m with
    | .l vs ls :: m => (.loop vs ls (ann b m).1, (ann b m).2)
    | _ => (.loop [] [] (ann b m.tail).1, (ann b m.tail).2)
  | .exit i, m => (.exit i, m)
  | .ret, m => (.ret, m)
def era : PCode → ACode
  | .skip => .skip
  | .reg ops => .reg ops
  | .seq a b => .seq (era a) (era b)
  | .join _ a b => .seq (era a) (era b)
  | .cond c a b => .cond c (era a) (era b)
  | .block i b => .block i (era b)
  | .loop _ _ b => .loop (era b)
  | .exit i => .exit i
  | .ret => .ret
def gst : Nat → List Nat → List V → Tp
  | _, [], _, _ => .und
  | i, k :: ks, vs, x => cond (Nat.beq x k) (vs.getD i .und) (gst (i + 1) ks vs x)
def gst2 (vs ls : List Nat) (w l : List V) : Tp := fun x => cond (vs.contains x) (gst 0 vs w x) (gst 0 ls l x)
def gmap (t : Tp) : List Nat → List V
  | [] => []
  | k :: ks => t k :: gmap t ks
def lpz : List Nat → List V → List (Nat × V)
  | k :: ks, v :: vs => (k, v) :: lpz ks vs
  | _, _ => []
def ColV (bx : List (Nat × TypeId × Nat)) (wv : List V) (lv lv0 : List V) (h : Hp) (K : List V → List (List V) → Prop) : Prop :=
  OK (folds (fin 4) h wv) fun p => OK (closeAll p.2 (names bx)) fun h' => OK (boxesOf h' bx) fun cells => Rq (nrfs p.1 = true ∧ nrfss cells = true ∧ lv = lv0) (K p.1 cells)
def LP (vs ls : List Nat) (B : List V → List V → Hp → (List V → List V → Hp → Prop) → Prop) (wv lv : List V) (h : Hp) : Prop :=
  ∃ (c0 : Nat) (bx : List (Nat × TypeId × Nat)) (I : Nat → List V → List (List V) → Prop) (ss : List Nat), frameOk c0 (lpz ls lv) bx = true ∧
    ColV bx wv lv lv h (fun vals cells => ∃ k, I k (rts ss vals) cells) ∧
    ∀ k vals cells, I k vals cells → B (mats vals c0).1 lv (lheap c0 bx vals cells) fun wv' lv' h' => ColV bx wv' lv' lv h' fun vals cells => ∃ k', k' < k ∧ I k' vals cells
def pwpA (P : Program) : PCode → (n : Tp → Hp → Prop) → (e : Nat → Tp → Hp → Prop) → (r : Tp → Hp → Prop) → Tp → Hp → Prop
  | .skip, n, _, _, t, h => n t h
  | .reg ops, n, _, _, t, h => qops P ops n t h
  | .seq a b, n, e, r, t, h => pwpA P a (fun t h => pwpA P b n e r t h) e r t h
  | .join os a b, n, e, r, t, h => JN (fun k => pwpA P a (fun t h => k (gmap t os) h) e r t h) fun o h => pwpA P b n e r (gst 0 os o) h
  | .cond c a b, n, e, r, t, h => pcond (pwpA P a n e r t h) (pwpA P b n e r t h) (pev t c)
  | .block id b, n, e, r, t, h => pwpA P b n (fun i t h => bif Nat.beq i id then n t h else e i t h) r t h
  | .loop vs ls b, n, e, r, t, h => LP vs ls (fun w l h N => pwpA P b (fun t h => N (gmap t vs) (gmap t ls) h) e r (gst2 vs ls w l) h) (gmap t vs) (gmap t ls) h
  | .exit id, _, e, _, t, h => e id t h
  | .ret, _, _, r, t, h => r t h
section
variable {P : Program}
theorem qop_eq {d : Nat} {op : AOp} {t : Tp} {h : Hp} {K : V → Hp → Prop} (hq : qop P d op t h K) : pop P d op (pev t) h K := by
  cases op <;> simp only [qop] at hq <;> try exact hq.elim
  case mv x => exact ⟨_, rfl, hq⟩
  case bld z ps => rw [VL_eq] at hq; rw [← pparts_eq] at hq; exact hq
  case slS s x lo hi => rw [VL_eq, ← popt_eq, ← popt_eq] at hq; exact hq
  case slT x lo hi => rw [VL_eq, ← popt_eq, ← popt_eq] at hq; exact hq
  case mkf f a b => rw [VL_eq, ← pops1_eq, ← pops1_eq] at hq; exact hq
  case mks e z len ps => rw [← pparts_eq] at hq; exact hq
  case mk e bytes z l c =>
    simp only [pop]
    cases hl : pev t l <;> simp only [hl, pmk] at hq <;> try exact hq.elim
    cases hc : pev t c <;> simp only [hc, pmk] at hq <;> try exact hq.elim
    have hlen : ∀ z : List Value, (ofVals z).length = z.length := by
      intro z; induction z <;> simp_all [ofVals]
    rw [hlen] at hq
    obtain ⟨⟨h1, h2, h3, h4, h5, h6⟩, h7⟩ := hq
    refine ⟨⟨h1, h2, h3, h4, h5, ?_⟩, h7⟩
    rintro rfl; exact h6 (by simp [ofVals])
  case app e sz bytes z av s x =>
    rw [← pavs_eq] at hq; exact hq
  case sta av n a x => rw [← pavsP_eq] at hq; exact hq
  case call f as => rw [← pops1_eq] at hq; exact hq
  case callp f as => rw [← pops1_eq] at hq; exact hq
  case calla av f as => rw [← pops1_eq, ← pops1_eq] at hq; exact hq
  case callv f as => rw [← pops1_eq] at hq; exact hq
  all_goals first | exact hq | (rw [VL_eq] at hq; exact hq)
theorem pop_mono {d : Nat} {op : AOp} {ρ : Operand → V} {h : Hp} {K K' : V → Hp → Prop} (hK : ∀ v h, K v h → K' v h) (hp : pop P d op ρ h K) : pop P d op ρ h K' := by
  have ldm : ∀ {n x}, pld h n K x → pld h n K' x := by
    intro n x hp
    cases x <;> simp only [pld] at hp ⊢ <;> try exact hp
    · rename_i b off
      cases hb : h b <;> simp only [hb, pldB] at hp ⊢
      cases n with
      | none =>
        refine ⟨hp.1, ?_⟩
        have := hp.2
        rename_i e sz cs
        cases hc : cs.getD off .und <;> rw [hc] at this <;> first | exact hK _ _ this | exact this | (rcases this with h | ⟨d, h1, h2⟩; exact .inl (hK _ _ h); exact .inr ⟨d, h1, hK _ _ h2⟩)
      | some m => exact ⟨hp.1, hK _ _ hp.2⟩
    · obtain ⟨v, h1, h2⟩ := hp; exact ⟨v, h1, hK _ _ h2⟩
  have pum : ∀ {f vs}, Pure P f vs d h K → Pure P f vs d h K' := by
    rintro f vs (⟨Φ, h1, h2 | h2⟩ | ⟨hn, Φ, h1, h2 | h2⟩)
    · exact .inl ⟨Φ, h1, .inl fun v hv => hK _ _ (h2 v hv)⟩
    · exact .inl ⟨Φ, h1, .inr fun v hv => ⟨(h2 v hv).1, hK _ _ (h2 v hv).2⟩⟩
    · exact .inr ⟨hn, Φ, h1, .inl fun v hv => hK _ _ (h2 v hv)⟩
    · exact .inr ⟨hn, Φ, h1, .inr fun v hv => ⟨(h2 v hv).1, hK _ _ (h2 v hv).2⟩⟩
  have pcm : ∀ {f vs}, pcall P f vs d h K → pcall P f vs d h K' := by
    rintro f vs (hp | (⟨bs, h1, h2, h3, q, h4, h5, Φ, h6, h7⟩ | ⟨bs, h1, h2, h3, q, h4, h5, Φ, h6, h7⟩) | ⟨h1, Φ, h2, h3⟩ | ⟨b, e, l, h1, h2, h3⟩)
    · exact .inl (pum hp)
    · refine .inr (.inl <| .inl ⟨bs, h1, h2, h3, q, h4, h5, Φ, h6, ?_⟩)
      rcases h7 with h7 | h7
      · exact .inl fun v cs hv => hK _ _ (h7 v cs hv)
      · exact .inr fun v cs hv => ⟨(h7 v cs hv).1, hK _ _ (h7 v cs hv).2⟩
    · exact .inr (.inl <| .inr ⟨bs, h1, h2, h3, q, h4, h5, Φ, h6, fun j o n cs hv b hb => hK _ _ (h7 j o n cs hv b hb)⟩)
    · exact .inr (.inr (.inl ⟨h1, Φ, h2, fun e c hc => ⟨(h3 e c hc).1, hK _ _ (h3 e c hc).2⟩⟩))
    · refine .inr (.inr (.inr ⟨b, e, l, h1, h2, fun x => ?_⟩))
      obtain ⟨Φ, h4, h5⟩ := h3 x
      exact ⟨Φ, h4, fun e c hc => ⟨(h5 e c hc).1, hK _ _ (h5 e c hc).2⟩⟩
  have pam : ∀ {f vs avs}, pcalla P f vs avs d h K → pcalla P f vs avs d h K' := by
    rintro f vs avs (hp | ⟨bs, h1, h2, h3, q, h4, h5, Φ, h6, h7⟩)
    · exact .inl (pum hp)
    · refine .inr ⟨bs, h1, h2, h3, q, h4, h5, Φ, h6, ?_⟩
      rcases h7 with h7 | h7
      · exact .inl fun v cs hv => hK _ _ (h7 v cs hv)
      · exact .inr fun v cs hv => ⟨(h7 v cs hv).1, hK _ _ (h7 v cs hv).2⟩
  cases op <;> simp only [pop] at hp ⊢
  case ld n x => exact ldm hp
  case ldb b n x => exact ⟨hp.1, ldm hp.2⟩
  case alloc => exact ⟨hp.1, hK _ _ hp.2⟩
  case box => exact ⟨hp.1, hK _ _ hp.2⟩
  case mks => obtain ⟨cs, h1, h2, h3⟩ := hp; exact ⟨cs, h1, h2, hK _ _ h3⟩
  case mk e bytes z l c =>
    cases hl : ρ l <;> simp only [hl] at hp ⊢ <;> try exact hp
    cases hc : ρ c <;> simp only [hc] at hp ⊢ <;> try exact hp
    exact ⟨hp.1, hK _ _ hp.2⟩
  case app e sz bytes z av s x =>
    obtain ⟨r, h1, h2, h3⟩ := hp
    refine ⟨r, h1, h2, ?_⟩
    cases hs : ρ s <;> simp only [hs, papV] at h3 ⊢ <;> try exact h3
    · rename_i b o n
      cases o with
      | succ o => exact h3
      | zero =>
        simp only at h3 ⊢
        cases hb : h b <;> simp only [hb, papB] at h3 ⊢
        exact ⟨h3.1, hK _ _ h3.2⟩
    · exact ⟨fun h0 => hK _ _ (h3.1 h0), fun h0 => ⟨(h3.2 h0).1, hK _ _ (h3.2 h0).2⟩⟩
  case st n a x =>
    cases ha : ρ a <;> simp only [ha, pst] at hp ⊢ <;> try exact hp
    rename_i b off
    cases hb : h b <;> simp only [hb, pstB] at hp ⊢
    exact ⟨hp.1, hK _ _ hp.2⟩
  case cpy sz x y =>
    obtain ⟨r, h1, hp⟩ := hp
    refine ⟨r, h1, ?_⟩
    cases hs : ρ x <;> simp only [hs, pcpyV] at hp ⊢ <;> try exact hp
    · rename_i b o n
      split
      · rename_i h0; rw [if_pos h0] at hp; exact hK _ _ hp
      · rename_i h0
        rw [if_neg h0] at hp
        simp only [pst] at hp ⊢
        cases hb : h b <;> simp only [hb, pstB] at hp ⊢
        exact ⟨hp.1, hK _ _ hp.2⟩
    · exact hK _ _ hp
  case clr z x =>
    cases hs : ρ x <;> simp only [hs, pclrV] at hp ⊢ <;> try exact hp
    · rename_i b o n
      split
      · rename_i h0; rw [if_pos h0] at hp; exact hK _ _ hp
      · rename_i h0
        rw [if_neg h0] at hp
        simp only [pst] at hp ⊢
        cases hb : h b <;> simp only [hb, pstB] at hp ⊢
        exact ⟨hp.1, hK _ _ hp.2⟩
    · exact hK _ _ hp
  case sta av n a x =>
    refine ⟨hp.1, ?_⟩
    replace hp := hp.2
    cases ha : ρ a <;> simp only [ha, pst] at hp ⊢ <;> try exact hp
    rename_i b off
    cases hb : h b <;> simp only [hb, pstB] at hp ⊢
    exact ⟨hp.1, hK _ _ hp.2⟩
  case call => exact pcm hp
  case callp => exact pum hp
  case calla => exact pam hp
  case callv f as =>
    cases hf : ρ f <;> simp only [hf, pcallv] at hp ⊢ <;> try exact hp
    exact ⟨hp.1, pcm hp.2⟩
  all_goals
    obtain ⟨v, h1, h2⟩ := hp
    exact ⟨v, h1, hK _ _ h2⟩
theorem qops_sound : ∀ {ops : List AOper} {K : Tp → Hp → Prop} {t : Tp} {h : Hp}, qops P ops K t h → pops P ops K t h
  | [], K, t, h, hq => hq
  | o :: r, K, t, h, hq => by
    simp only [qops] at hq
    show pstep P o (pops P r K) t h
    simp only [pstep]
    cases hg : o.guard with
    | none =>
      rw [hg] at hq
      exact pop_mono (fun v h hk => qops_sound hk) (qop_eq hq)
    | some q =>
      obtain ⟨g, w⟩ := q
      rw [hg] at hq
      simp only at hq
      simp only [pgoes]
      have hself : ∀ {v}, t g = v → tput t g v = t := fun {v} hv => by
        funext x; simp only [tput]; split
        · rename_i e; rw [e, hv]
        · rfl
      cases hv : t g <;> simp only [hv, pgk] at hq <;> try exact hq
      case tup l =>
        cases l with
        | cons a l => exact hq.elim
        | nil => rw [hself hv] at hq; exact qops_sound hq
      rename_i b
      cases b
      · have h2 := hq.2 rfl
        rw [hself hv] at h2
        cases w
        · simp only [cond] at h2; simp only [if_true]; exact pop_mono (fun v h hk => qops_sound hk) (qop_eq h2)
        · simp only [cond] at h2; simp only [Bool.false_eq_true, if_false]; exact qops_sound h2
      · have h2 := hq.1 rfl
        rw [hself hv] at h2
        cases w
        · simp only [cond] at h2; simp only [Bool.true_eq_false, if_false]; exact qops_sound h2
        · simp only [cond] at h2; simp only [if_true]; exact pop_mono (fun v h hk => qops_sound hk) (qop_eq h2)
theorem sim_less {F0 : Fr} {t t' : Tp} {h : Hp} {u : T} {g : H} (hs : Sim F0 t h u g) (hl : ∀ k, t' k = t k ∨ t' k = .und) : Sim F0 t' h u g := by
  obtain ⟨ι, F, D, hF, hh, ht⟩ := hs
  refine ⟨ι, F, D, hF, hh, fun k => ?_⟩
  rcases hl k with h | h
  · rw [h]; exact ht k
  · rw [h]; exact R_und
theorem gst_gmap {t : Tp} : ∀ (ks : List Nat) (i : Nat) (pre : List V), pre.length = i → ∀ k, gst i ks (pre ++ gmap t ks) k = t k ∨ gst i ks (pre ++ gmap t ks) k = .und
  | [], i, pre, hi, k => .inr rfl
  | a :: ks, i, pre, hi, k => by
    simp only [gst, gmap]
    by_cases hk : k = a
    · subst hk
      left
      have : Nat.beq k k = true := Nat.beq_refl k
      simp [this, List.getD, List.getElem?_append, hi]
    · have : Nat.beq k a = false := by
        cases hb : Nat.beq k a with
        | false => rfl
        | true => exact absurd (Nat.eq_of_beq_eq_true hb) hk
      simp only [this, cond]
      have := gst_gmap (t := t) ks (i + 1) (pre ++ [t a]) (by simp [hi]) k
      simpa using this
theorem gst_lookup : ∀ (ks : List Nat) (vs : List V) (i : Nat) (pre : List V) (b : Tp), pre.length = i → ks.length = vs.length → ∀ k, ks.contains k = true → gst i ks (pre ++ vs) k = tputz b ks vs k
  | [], vs, i, pre, b, hi, hl, k, hk => by simp at hk
  | a :: ks, [], i, pre, b, hi, hl, k, hk => by simp at hl
  | a :: ks, v :: vs, i, pre, b, hi, hl, k, hk => by
    simp only [gst, tputz, tput]
    by_cases hka : k = a
    · subst hka
      have : Nat.beq k k = true := Nat.beq_refl k
      simp [this, List.getD, List.getElem?_append, hi]
    · have hb : Nat.beq k a = false := by
        cases hb : Nat.beq k a with
        | false => rfl
        | true => exact absurd (Nat.eq_of_beq_eq_true hb) hka
      simp only [hb, cond, if_neg hka]
      have := gst_lookup ks vs (i + 1) (pre ++ [v]) b (by simp [hi]) (by simpa using hl) k (by simp at hk; rcases hk with h | h; exact absurd h hka; simpa using h)
      simpa using this
theorem tputz_not : ∀ (ks : List Nat) (vs : List V) (b : Tp) (k : Nat), ks.contains k = false → tputz b ks vs k = b k
  | [], vs, b, k, hk => by cases vs <;> rfl
  | a :: ks, [], b, k, hk => rfl
  | a :: ks, v :: vs, b, k, hk => by
    simp at hk
    simp only [tputz, tput]
    rw [if_neg hk.1]
    exact tputz_not ks vs b k (by simpa using hk.2)
theorem tputl_lpz : ∀ (ks : List Nat) (vs : List V) (i : Nat) (pre : List V), pre.length = i → ks.length = vs.length → ∀ k, tputl tund (lpz ks vs) k = gst i ks (pre ++ vs) k
  | [], vs, i, pre, hi, hl, k => by cases vs <;> rfl
  | a :: ks, [], i, pre, hi, hl, k => by simp at hl
  | a :: ks, v :: vs, i, pre, hi, hl, k => by
    simp only [lpz, tputl, gst, tput]
    by_cases hka : k = a
    · subst hka
      have : Nat.beq k k = true := Nat.beq_refl k
      simp [this, List.getD, List.getElem?_append, hi]
    · have hb : Nat.beq k a = false := by
        cases hb : Nat.beq k a with
        | false => rfl
        | true => exact absurd (Nat.eq_of_beq_eq_true hb) hka
      simp only [hb, cond, if_neg hka]
      have := tputl_lpz ks vs (i + 1) (pre ++ [v]) (by simp [hi]) (by simpa using hl) k
      simpa using this
theorem gmap_len (t : Tp) : ∀ ks : List Nat, (gmap t ks).length = ks.length
  | [] => rfl
  | k :: ks => by simp [gmap, gmap_len t ks]
theorem gmap_map (t : Tp) : ∀ ks : List Nat, gmap t ks = ks.map t
  | [] => rfl
  | k :: ks => by simp [gmap, gmap_map t ks]
theorem lpOk_gmap {t : Tp} : ∀ (ks : List Nat) (lv : List V), gmap t ks = lv → lpOk t (lpz ks lv)
  | [], lv, h => by cases lv <;> trivial
  | k :: ks, [], h => trivial
  | k :: ks, v :: lv, h => by
    simp only [gmap, List.cons.injEq] at h
    exact ⟨h.1, lpOk_gmap ks lv h.2⟩
theorem mats_len : ∀ (l : List V) (c : Nat), (mats l c).1.length = l.length
  | [], c => by simp [mats]
  | v :: l, c => by simp [mats, mats_len l]
theorem folds_len {f : Hp → V → Option (V × Hp)} : ∀ {l l' : List V} {h h' : Hp}, folds f h l = some (l', h') → l'.length = l.length
  | [], l', h, h', hf => by simp only [folds, Option.some.injEq, Prod.mk.injEq] at hf; simp [← hf.1]
  | v :: l, l', h, h', hf => by
    simp only [folds, Option.bind_eq_some_iff, Option.map_eq_some_iff] at hf
    obtain ⟨p, h1, q, h2, h3⟩ := hf
    simp only [Prod.mk.injEq] at h3
    rw [← h3.1]; simp [folds_len (l' := q.1) (h' := q.2) h2]
theorem rts_len : ∀ {ss : List Nat} {l : List V}, (rts ss l).length = l.length
  | [], l => by cases l <;> rfl
  | s :: ss, [] => rfl
  | s :: ss, v :: l => by simp [rts, rts_len (ss := ss)]
theorem ColV_Col {vs ls : List Nat} {bx : List (Nat × TypeId × Nat)} {t : Tp} {h : Hp} {lv : List V} {K : List V → List (List V) → Prop} (hc : ColV bx (gmap t vs) (gmap t ls) lv h K) :
    Col vs (lpz ls lv) bx t h fun vals cells => vals.length = vs.length ∧ K vals cells := by
  obtain ⟨p, h1, hp, hcl, cells, h2, ⟨h3, h4, h5⟩, h6⟩ := hc
  rw [gmap_map] at h1
  exact ⟨p, h1, hp, hcl, cells, h2, ⟨h3, h4, lpOk_gmap ls lv h5⟩, by have := folds_len (l' := p.1) (h' := p.2) h1; simpa using this, h6⟩
theorem pwpA_sound : ∀ (c : PCode) {n : Tp → Hp → Prop} {e : Nat → Tp → Hp → Prop} {r : Tp → Hp → Prop} {t : Tp} {h : Hp}, pwpA P c n e r t h → W P (era c) n e r t h
  | .skip, n, e, r, t, h, hp => W_of hp
  | .reg ops, n, e, r, t, h, hp => W_of (qops_sound hp)
  | .seq a b, n, e, r, t, h, hp => by
    intro F0 u g hs
    simp only [era, awp]
    refine awp_agree.awp_mono (fun u g hx => ?_) (fun _ _ _ h => h) (fun _ _ h => h) (pwpA_sound a hp F0 u g hs)
    obtain ⟨t', h', hs', hw⟩ := hx
    exact pwpA_sound b hw F0 u g hs'
  | .join os a b, n, e, r, t, h, hp => by
    intro F0 u g hs
    simp only [era, awp]
    simp only [pwpA, JN] at hp
    refine awp_agree.awp_mono (fun u g hx => ?_) (fun _ _ _ h => h) (fun _ _ h => h) (pwpA_sound a hp F0 u g hs)
    obtain ⟨t', h', hs', hw⟩ := hx
    exact pwpA_sound b hw F0 u g (sim_less hs' fun k => by simpa using gst_gmap os 0 [] rfl k)
  | .cond c a b, n, e, r, t, h, hp => by
    intro F0 u g hs
    simp only [pwpA] at hp
    obtain ⟨ι, F, D, hF, hh, ht⟩ := hs
    have hc := pev_R ht c
    cases hv : pev t c <;> rw [hv] at hp hc <;> simp only [pcond] at hp
    rename_i v
    simp only [R] at hc
    simp only [era, awp, hc]
    exact ⟨fun h1 => pwpA_sound a (hp.1 h1) F0 u g ⟨ι, F, D, hF, hh, ht⟩, fun h1 => pwpA_sound b (hp.2 h1) F0 u g ⟨ι, F, D, hF, hh, ht⟩⟩
  | .block id b, n, e, r, t, h, hp => by
    intro F0 u g hs
    simp only [era, awp]
    refine awp_agree.awp_mono (fun u g hx => hx) (fun i u g hx => ?_) (fun _ _ h => h) (pwpA_sound b hp F0 u g hs)
    obtain ⟨t', h', hs', hp'⟩ := hx
    split
    · rename_i hi; subst hi; exact ⟨t', h', hs', by simpa [Nat.beq_refl] using hp'⟩
    · rename_i hi
      have hb : Nat.beq i id = false := by
        cases hb : Nat.beq i id with
        | false => rfl
        | true => exact absurd (Nat.eq_of_beq_eq_true hb) hi
      exact ⟨t', h', hs', by simpa [hb] using hp'⟩
  | .loop vs ls b, n, e, r, t, h, hp => by
    obtain ⟨c0, bx, I, ss, hf, h0, hround⟩ := hp
    refine W_of (ploop c0 vs (lpz ls (gmap t ls)) bx (fun k vals cells => vals.length = vs.length ∧ I k vals cells) ss hf ?_ ?_)
    · obtain ⟨p, h1, hp, hcl, cells, h2, h3, hl, k, hI⟩ := ColV_Col h0
      exact ⟨p, h1, hp, hcl, cells, h2, h3, k, by rw [rts_len]; exact hl, hI⟩
    · rintro k vals cells ⟨hlen, hI⟩
      have h1 := pwpA_sound b (hround k vals cells hI)
      have hst : ∀ x, gst2 vs ls (mats vals c0).1 (gmap t ls) x = ltmp c0 vs (lpz ls (gmap t ls)) vals x := fun x => by
        simp only [gst2, ltmp]
        cases hx : vs.contains x with
        | true =>
          simp only [cond]
          have := gst_lookup vs (mats vals c0).1 0 [] (tputl tund (lpz ls (gmap t ls))) rfl (by rw [mats_len, hlen]) x hx
          simpa using this
        | false =>
          simp only [cond]
          rw [tputz_not _ _ _ _ hx]
          have := tputl_lpz ls (gmap t ls) 0 [] rfl (by rw [gmap_len]) x
          simpa using this.symm
      rw [← funext hst]
      intro F0 u g hs
      refine awp_agree.awp_mono (fun u g hx => ?_) (fun _ _ _ h => h) (fun _ _ h => h) (h1 F0 u g hs)
      obtain ⟨t', h', hs', hcol⟩ := hx
      refine ⟨t', h', hs', ?_⟩
      obtain ⟨p, h1, hp, hcl, cells, h2, h3, hl, k', hk, hI'⟩ := ColV_Col hcol
      exact ⟨p, h1, hp, hcl, cells, h2, h3, k', hk, hl, hI'⟩
  | .exit id, n, e, r, t, h, hp => W_of hp
  | .ret, n, e, r, t, h, hp => W_of hp
def pcellV (h : Hp) (q : Option Nat) : V → Option V
  | .ptr b off => match h b with
    | .row _ _ cs => grd (noOwn cs = true) (vcellsAt cs off q)
    | _ => none
  | _ => none
theorem presV_cell {t : Tp} {h : Hp} {j : Nat} {q : Option Nat} : presV t h (.cell q j) = pcellV h q (t j) := by
  simp only [presV]
  cases t j <;> rfl
def FIN (h : Hp) (v : V) (Φ : V → Prop) : Prop := OK (fin 5 h v) fun p => Rq (clo p.1 = true) (Φ p.1)
def FINM (k : List (List V)) (bx : List (Nat × TypeId × Nat)) (h : Hp) (v : V) (Φ : V → List (List V) → Prop) : Prop :=
  OK (fin 5 h v) fun p => OK (closeAll p.2 (names bx)) fun h' => OK (boxesOf h' bx) fun cells => Rq (clo p.1 = true ∧ closK k cells) (Φ p.1 cells)
def QR (t : Tp) (h : Hp) (Rt : Hp → V → Prop) : List ARes → List V → Prop
  | [], acc => Rt h (presJoin acc)
  | .tmp k :: rs, acc => QR t h Rt rs (acc ++ [t k])
  | .cell n k :: rs, acc => VL (pcellV h n (t k)) fun v => QR t h Rt rs (acc ++ [v])
theorem QR_sound {t : Tp} {h : Hp} {Rt : Hp → V → Prop} : ∀ {rs : List ARes} {acc : List V}, QR t h Rt rs acc → ∃ l, presAll t h rs = some l ∧ Rt h (presJoin (acc ++ l))
  | [], acc, hq => ⟨[], rfl, by rw [List.append_nil]; exact hq⟩
  | .tmp k :: rs, acc, hq => by
    obtain ⟨l, h1, h2⟩ := QR_sound (rs := rs) hq
    exact ⟨t k :: l, by simp [presAll, presV, h1], by simpa using h2⟩
  | .cell n k :: rs, acc, hq => by
    simp only [QR, VL_eq] at hq
    obtain ⟨v, hv, hq⟩ := hq
    obtain ⟨l, h1, h2⟩ := QR_sound (rs := rs) hq
    exact ⟨v :: l, by simp [presAll, presV_cell, hv, h1], by simpa using h2⟩
theorem era_ann : ∀ (c : ACode) (m : List Mk), era (ann c m).1 = c
  | .skip, m => rfl
  | .reg ops, m => rfl
  | .seq a b, m => by
    simp only [ann]
    split
    · simp only [era, era_ann a, era_ann b]
    · simp only [era, era_ann a, era_ann b]
  | .cond c a b, m => by simp only [ann, era, era_ann a, era_ann b]
  | .block i b, m => by simp only [ann, era, era_ann b]
  | .loop b, m => by
    simp only [ann]
    split
    · simp only [era, era_ann b]
    · simp only [era, era_ann b]
  | .exit i, m => rfl
  | .ret, m => rfl
def runF (P : Program) (fn : Func) (m : List Mk) (vs : List V) (h0 : Hp) (Rt : Hp → V → Prop) : Prop :=
  match compF P fn with
  | some af => Rq (vs.length ≤ af.n) (pwpA P (ann af.code m).1 (fun t h => QR t h Rt af.res []) (fun _ _ _ => False) (fun t h => QR t h Rt af.res []) (argV vs) h0)
  | none => False
theorem prun {f : FuncId} {fn : Func} (hf : P.funcs[f]? = some fn) {m : List Mk} {vs : List V} {Φ : V → Prop} (h : runF P fn m vs hnil fun h v => FIN h v Φ) : PSpec P f vs Φ := by
  unfold runF at h
  cases hc : compF P fn with
  | none => rw [hc] at h; exact h.elim
  | some af =>
    rw [hc] at h
    obtain ⟨hn, hp⟩ := h
    have hret : ∀ t h, QR t h (fun h v => FIN h v Φ) af.res [] → PRet af.res Φ t h := fun t h hq => by
      obtain ⟨l, h1, p, h2, h3, h4⟩ := QR_sound hq
      exact ⟨l, h1, p, by simpa using h2, h3, h4⟩
    refine pspec_of hf hc hn ?_
    have h1 := pwpA_sound _ hp
    rw [era_ann] at h1
    intro F0 u g hs
    refine awp_agree.awp_mono (fun u g hx => ?_) (fun _ _ _ h => h) (fun u g hx => ?_) (h1 F0 u g hs)
    · obtain ⟨t', h', hs', hq⟩ := hx; exact ⟨t', h', hs', hret _ _ hq⟩
    · obtain ⟨t', h', hs', hq⟩ := hx; exact ⟨t', h', hs', hret _ _ hq⟩
def FINV (h : Hp) (v : V) (Φ : V → Prop) : Prop := OK (fin 5 h v) fun p => Rq (nrf p.1 = true) (Φ p.1)
theorem prunV {f : FuncId} {fn : Func} (hf : P.funcs[f]? = some fn) {m : List Mk} {vs : List V} {Φ : V → Prop} (h : runF P fn m vs hnil fun h v => FINV h v Φ) : PSpecV P f vs Φ := by
  unfold runF at h
  cases hc : compF P fn with
  | none => rw [hc] at h; exact h.elim
  | some af =>
    rw [hc] at h
    obtain ⟨hn, hp⟩ := h
    have hret : ∀ t h, QR t h (fun h v => FINV h v Φ) af.res [] → PRetV af.res Φ t h := fun t h hq => by
      obtain ⟨l, h1, p, h2, h3, h4⟩ := QR_sound hq
      exact ⟨l, h1, p, by simpa using h2, h3, h4⟩
    refine pspecV_of hf hc hn ?_
    have h1 := pwpA_sound _ hp
    rw [era_ann] at h1
    intro F0 u g hs
    refine awp_agree.awp_mono (fun u g hx => ?_) (fun _ _ _ h => h) (fun u g hx => ?_) (h1 F0 u g hs)
    · obtain ⟨t', h', hs', hq⟩ := hx; exact ⟨t', h', hs', hret _ _ hq⟩
    · obtain ⟨t', h', hs', hq⟩ := hx; exact ⟨t', h', hs', hret _ _ hq⟩
theorem prunM {f : FuncId} {fn : Func} (hf : P.funcs[f]? = some fn) {m : List Mk} {vs : List V} {bx : List (Nat × TypeId × Nat)} {cells : List (List V)} {Φ : V → List (List V) → Prop}
    (hlen : cells.length = bx.length) (h64 : (names bx).all (fun x => decide (x < 64)) = true) (h : runF P fn m vs (hputb hnil bx cells) fun h v => FINM cells bx h v Φ) : PSpecM P f vs bx cells Φ := by
  unfold runF at h
  cases hc : compF P fn with
  | none => rw [hc] at h; exact h.elim
  | some af =>
    rw [hc] at h
    obtain ⟨hn, hp⟩ := h
    have hret : ∀ t h, QR t h (fun h v => FINM cells bx h v Φ) af.res [] → PRetM cells bx af.res Φ t h := fun t h hq => by
      obtain ⟨l, h1, p, h2, h3, h4⟩ := QR_sound hq
      exact ⟨l, h1, p, by simpa using h2, h3, h4⟩
    refine pspecM_of hf hc hn hlen h64 ?_
    have h1 := pwpA_sound _ hp
    rw [era_ann] at h1
    intro F0 u g hs
    refine awp_agree.awp_mono (fun u g hx => ?_) (fun _ _ _ h => h) (fun u g hx => ?_) (h1 F0 u g hs)
    · obtain ⟨t', h', hs', hq⟩ := hx; exact ⟨t', h', hs', hret _ _ hq⟩
    · obtain ⟨t', h', hs', hq⟩ := hx; exact ⟨t', h', hs', hret _ _ hq⟩
def FINMR (k : List (List V)) (bx : List (Nat × TypeId × Nat)) (h : Hp) (Φ : Nat → Nat → Nat → List (List V) → Prop) (v : V) : Prop := match v with
  | .rf j o n => OK (closeAll h (names bx)) fun h' => OK (boxesOf h' bx) fun cells => Rq (closK k cells ∧ (names bx).contains j = true) (Φ j o n cells)
  | _ => False
theorem prunMR {f : FuncId} {fn : Func} (hf : P.funcs[f]? = some fn) {m : List Mk} {vs : List V} {bx : List (Nat × TypeId × Nat)} {cells : List (List V)} {Φ : Nat → Nat → Nat → List (List V) → Prop}
    (hlen : cells.length = bx.length) (h64 : (names bx).all (fun x => decide (x < 64)) = true) (h : runF P fn m vs (hputb hnil bx cells) fun h v => FINMR cells bx h Φ v) : PSpecMR P f vs bx cells Φ := by
  unfold runF at h
  cases hc : compF P fn with
  | none => rw [hc] at h; exact h.elim
  | some af =>
    rw [hc] at h
    obtain ⟨hn, hp⟩ := h
    have hret : ∀ t h, QR t h (fun h v => FINMR cells bx h Φ v) af.res [] → PRetMR cells bx af.res Φ t h := fun t h hq => by
      obtain ⟨l, h1, h2⟩ := QR_sound hq
      simp only [List.nil_append] at h2
      unfold FINMR at h2
      split at h2
      · rename_i j o n hj; exact ⟨l, h1, j, o, n, hj, h2⟩
      · exact h2.elim
    refine pspecMR_of hf hc hn hlen h64 ?_
    have h1 := pwpA_sound _ hp
    rw [era_ann] at h1
    intro F0 u g hs
    refine awp_agree.awp_mono (fun u g hx => ?_) (fun _ _ _ h => h) (fun u g hx => ?_) (h1 F0 u g hs)
    · obtain ⟨t', h', hs', hq⟩ := hx; exact ⟨t', h', hs', hret _ _ hq⟩
    · obtain ⟨t', h', hs', hq⟩ := hx; exact ⟨t', h', hs', hret _ _ hq⟩
def FINB (vs : List V) (h : Hp) (Φ : TypeId → List V → Prop) (v : V) : Prop := match v with
  | .ptr b 0 => match h b with
    | .row e 1 cs => Rq (∀ v ∈ cs, keepV vs v) (Φ e cs)
    | _ => False
  | _ => False
theorem prunB {f : FuncId} {fn : Func} (hf : P.funcs[f]? = some fn) {m : List Mk} {vs : List V} {Φ : TypeId → List V → Prop} (h : runF P fn m vs hnil fun h v => FINB vs h Φ v) : PSpecB P f vs Φ := by
  unfold runF at h
  cases hc : compF P fn with
  | none => rw [hc] at h; exact h.elim
  | some af =>
    rw [hc] at h
    obtain ⟨hn, hp⟩ := h
    have hret : ∀ t h, QR t h (fun h v => FINB vs h Φ v) af.res [] → PRetB vs af.res Φ t h := fun t h hq => by
      obtain ⟨l, h1, h2⟩ := QR_sound hq
      simp only [List.nil_append] at h2
      unfold FINB at h2
      split at h2
      · rename_i b hj
        split at h2
        · rename_i e cs hb; exact ⟨l, h1, b, e, cs, hj, hb, h2.1, h2.2⟩
        · exact h2.elim
      · exact h2.elim
    refine pspecB_of hf hc hn ?_
    have h1 := pwpA_sound _ hp
    rw [era_ann] at h1
    intro F0 u g hs
    refine awp_agree.awp_mono (fun u g hx => ?_) (fun _ _ _ h => h) (fun u g hx => ?_) (h1 F0 u g hs)
    · obtain ⟨t', h', hs', hq⟩ := hx; exact ⟨t', h', hs', hret _ _ hq⟩
    · obtain ⟨t', h', hs', hq⟩ := hx; exact ⟨t', h', hs', hret _ _ hq⟩
structure Prt (P : Program) (f : FuncId) (vs : List V) (X : Hp → (Hp → V → Prop) → Prop) : Prop where
  run : ∃ fn m, P.funcs[f]? = some fn ∧ ∀ h0 Rt, X h0 Rt → runF P fn m vs h0 Rt
theorem pfun {f : FuncId} {fn : Func} {m : List Mk} {vs : List V} {c : Prop} {X : Hp → (Hp → V → Prop) → Prop} (hf : P.funcs[f]? = some fn) (he : ∀ h0 Rt, runF P fn m vs h0 Rt = Rq c (X h0 Rt)) (hc : c) : Prt P f vs X :=
  ⟨fn, m, hf, fun h0 Rt hx => by rw [he]; exact ⟨hc, hx⟩⟩
theorem Prt.f {f : FuncId} {vs : List V} {X : Hp → (Hp → V → Prop) → Prop} (h : Prt P f vs X) {Φ : V → Prop} (hx : X hnil fun h v => FIN h v Φ) : PSpec P f vs Φ := by
  obtain ⟨fn, m, hf, hr⟩ := h.run
  exact prun hf (hr _ _ hx)
theorem Prt.v {f : FuncId} {vs : List V} {X : Hp → (Hp → V → Prop) → Prop} (h : Prt P f vs X) {Φ : V → Prop} (hx : X hnil fun h v => FINV h v Φ) : PSpecV P f vs Φ := by
  obtain ⟨fn, m, hf, hr⟩ := h.run
  exact prunV hf (hr _ _ hx)
theorem Prt.b {f : FuncId} {vs : List V} {X : Hp → (Hp → V → Prop) → Prop} (h : Prt P f vs X) {Φ : TypeId → List V → Prop} (hx : X hnil fun h v => FINB vs h Φ v) : PSpecB P f vs Φ := by
  obtain ⟨fn, m, hf, hr⟩ := h.run
  exact prunB hf (hr _ _ hx)
theorem Prt.m {f : FuncId} {vs : List V} {X : Hp → (Hp → V → Prop) → Prop} (h : Prt P f vs X) {bx : List (Nat × TypeId × Nat)} {cells : List (List V)} {Φ : V → List (List V) → Prop} (hlen : cells.length = bx.length)
    (h64 : (names bx).all (fun x => decide (x < 64)) = true) (hx : X (hputb hnil bx cells) fun h v => FINM cells bx h v Φ) : PSpecM P f vs bx cells Φ := by
  obtain ⟨fn, m, hf, hr⟩ := h.run
  exact prunM hf hlen h64 (hr _ _ hx)
theorem Prt.mr {f : FuncId} {vs : List V} {X : Hp → (Hp → V → Prop) → Prop} (h : Prt P f vs X) {bx : List (Nat × TypeId × Nat)} {cells : List (List V)} {Φ : Nat → Nat → Nat → List (List V) → Prop} (hlen : cells.length = bx.length)
    (h64 : (names bx).all (fun x => decide (x < 64)) = true) (hx : X (hputb hnil bx cells) fun h v => FINMR cells bx h Φ v) : PSpecMR P f vs bx cells Φ := by
  obtain ⟨fn, m, hf, hr⟩ := h.run
  exact prunMR hf hlen h64 (hr _ _ hx)
end
end
section
set_option linter.constructorNameAsVariable false
theorem wrap_i64_of {n : Int} (h1 : -9223372036854775808 ≤ n) (h2 : n ≤ 9223372036854775807) : IntKind.i64.wrap n = n := by
  simp only [IntKind.wrap_i64, wrap64]; omega
theorem wrap_u8_of {n : Int} (h1 : 0 ≤ n) (h2 : n ≤ 255) : IntKind.u8.wrap n = n := by
  simp only [IntKind.wrap, IntKind.bits, IntKind.signed]; simp; omega
theorem wrap_u64_of {n : Int} (h1 : 0 ≤ n) (h2 : n ≤ 18446744073709551615) : IntKind.u64.wrap n = n := by
  simp only [IntKind.wrap, IntKind.bits, IntKind.signed]; simp; omega
theorem wrap_i32_of {n : Int} (h1 : -2147483648 ≤ n) (h2 : n ≤ 2147483647) : IntKind.i32.wrap n = n := by
  simp only [IntKind.wrap, IntKind.bits, IntKind.signed]; simp; omega
section
variable {P : Program} {n : Tp → Hp → Prop} {e : Nat → Tp → Hp → Prop} {r : Tp → Hp → Prop} {t : Tp} {h : Hp} {K : V → Hp → Prop}
theorem hput_at {b x : Nat} {s : Slot} : hput h b s x = if x = b then s else h x := rfl
theorem hnil_at {k : Nat} : hnil k = .free := rfl
theorem vpick_b {c : Bool} {a b : V} : vpick (.bool c) a b = some (if c then a else b) := rfl
section
variable {k k' : IntKind} {a b : Int}
theorem l_add : lift2 (abin .add) (.int k a) (.int k b) = some (.int k (k.wrap (a + b))) := by simp [lift2, toVal, abin, isSh, grd, aint, ofVal]
theorem l_sub : lift2 (abin .sub) (.int k a) (.int k b) = some (.int k (k.wrap (a - b))) := by simp [lift2, toVal, abin, isSh, grd, aint, ofVal]
theorem l_mul : lift2 (abin .mul) (.int k a) (.int k b) = some (.int k (k.wrap (a * b))) := by simp [lift2, toVal, abin, isSh, grd, aint, ofVal]
theorem l_quo : lift2 (abin .quo) (.int k a) (.int k b) = grd (b ≠ 0) (some (.int k (k.wrap (a.tdiv b)))) := by
  by_cases h : b = 0 <;> simp [lift2, toVal, abin, isSh, grd, aint, ofVal, h]
theorem l_rem : lift2 (abin .rem) (.int k a) (.int k b) = grd (b ≠ 0) (some (.int k (a.tmod b))) := by
  by_cases h : b = 0 <;> simp [lift2, toVal, abin, isSh, grd, aint, ofVal, h]
theorem l_and : lift2 (abin .and) (.int k a) (.int k b) = some (.int k (k.wrap ((BitVec.ofInt k.bits a &&& BitVec.ofInt k.bits b).toNat))) := by simp [lift2, toVal, abin, isSh, grd, aint, ofVal]
theorem l_or : lift2 (abin .or) (.int k a) (.int k b) = some (.int k (k.wrap ((BitVec.ofInt k.bits a ||| BitVec.ofInt k.bits b).toNat))) := by simp [lift2, toVal, abin, isSh, grd, aint, ofVal]
theorem l_xor : lift2 (abin .xor) (.int k a) (.int k b) = some (.int k (k.wrap ((BitVec.ofInt k.bits a ^^^ BitVec.ofInt k.bits b).toNat))) := by simp [lift2, toVal, abin, isSh, grd, aint, ofVal]
theorem l_eql : lift2 (abin .eql) (.int k a) (.int k b) = some (.bool (a == b)) := by simp [lift2, toVal, abin, isSh, grd, aint, ofVal]
theorem l_neq : lift2 (abin .neq) (.int k a) (.int k b) = some (.bool (a != b)) := by simp [lift2, toVal, abin, isSh, grd, aint, ofVal]
theorem l_lss : lift2 (abin .lss) (.int k a) (.int k b) = some (.bool (decide (a < b))) := by simp [lift2, toVal, abin, isSh, grd, aint, ofVal]
theorem l_leq : lift2 (abin .leq) (.int k a) (.int k b) = some (.bool (decide (a ≤ b))) := by simp [lift2, toVal, abin, isSh, grd, aint, ofVal]
theorem l_gtr : lift2 (abin .gtr) (.int k a) (.int k b) = some (.bool (decide (b < a))) := by simp [lift2, toVal, abin, isSh, grd, aint, ofVal]
theorem l_geq : lift2 (abin .geq) (.int k a) (.int k b) = some (.bool (decide (b ≤ a))) := by simp [lift2, toVal, abin, isSh, grd, aint, ofVal]
theorem l_shl : lift2 (abin .shl) (.int k a) (.int k' b) = grd (0 ≤ b) (some (.int k (k.wrap (a * 2 ^ (Nat.min b.toNat k.bits))))) := by
  by_cases h : 0 ≤ b <;> simp [lift2, toVal, abin, isSh, grd, ashift, ofVal, h]
theorem l_shr : lift2 (abin .shr) (.int k a) (.int k' b) = grd (0 ≤ b) (some (.int k (a.fdiv (2 ^ (Nat.min b.toNat k.bits))))) := by
  by_cases h : 0 ≤ b <;> simp [lift2, toVal, abin, isSh, grd, ashift, ofVal, h]
theorem l_not {b : Bool} : lift1 (aun .not) (.bool b) = some (.bool !b) := by simp [lift1, toVal, aun, ofVal]
theorem l_neg : lift1 (aun .neg) (.int k a) = some (.int k (k.wrap (-a))) := by simp [lift1, toVal, aun, ofVal]
theorem l_cvi : lift1 (acvi k) (.int k' a) = some (.int k (k.wrap a)) := by simp [lift1, toVal, acvi, ofVal]
theorem l_cvs {s : List UInt8} : lift1 acvs (.str s) = some (.str s) := by simp [lift1, toVal, acvs, ofVal]
theorem l_max : lift2 amax (.int k a) (.int k' b) = some (.int k (if a < b then b else a)) := by simp [lift2, toVal, amax, ofVal]
theorem l_min : lift2 amin (.int k a) (.int k' b) = some (.int k (if b < a then b else a)) := by simp [lift2, toVal, amin, ofVal]
theorem ba_app (s u : List UInt8) : (⟨s.toArray⟩ : ByteArray) ++ ⟨u.toArray⟩ = ⟨(s ++ u).toArray⟩ := by
  have : ∀ (x y : ByteArray), x.data = y.data → x = y := fun x y h => by cases x; cases y; simp at h; rw [h]
  apply this
  simp
theorem ba_list (s : List UInt8) : (⟨s.toArray⟩ : ByteArray).toList = s := by
  rw [ByteArray.toList_eq]
theorem ls_add {s u : List UInt8} : lift2 (abin .add) (.str s) (.str u) = grd ((s.length + u.length : Nat) ≤ (9223372036854775807 : Int)) (some (.str (s ++ u))) := by
  by_cases h : ((s.length + u.length : Nat) : Int) ≤ 9223372036854775807
  · simp only [lift2, toVal, abin, astr, grd, ByteArray.size, List.size_toArray, Option.bind_some, if_pos h, ba_app, Option.map_some, ofVal]
  · simp only [lift2, toVal, abin, astr, grd, ByteArray.size, List.size_toArray, Option.bind_some, if_neg h, Option.map_none]
theorem ls_eql {s u : List UInt8} : lift2 (abin .eql) (.str s) (.str u) = some (.bool (s == u)) := by simp [lift2, toVal, abin, astr, ofVal, ba_list]
theorem ls_neq {s u : List UInt8} : lift2 (abin .neq) (.str s) (.str u) = some (.bool (s != u)) := by simp [lift2, toVal, abin, astr, ofVal, ba_list, bne]
end
theorem VL_some {v : V} {K : V → Prop} : VL (some v) K = K v := rfl
theorem VL_none {K : V → Prop} : VL none K = False := rfl
theorem VL_grd {c : Prop} [Decidable c] {x : Option V} {K : V → Prop} : VL (grd c x) K = Rq c (VL x K) := by
  rw [VL_eq, VL_eq]; unfold OK grd Rq; by_cases hc : c <;> simp [hc]
theorem Rq_of {c X : Prop} (hc : c) : Rq c X = X := by simp [Rq, hc]
theorem Rq_and {a b X : Prop} : Rq (a ∧ b) X = Rq a (Rq b X) := by simp [Rq, and_assoc]
theorem Rq_true {X : Prop} : Rq True X = X := by simp [Rq]
theorem Rq_false {X : Prop} : Rq False X = False := by simp [Rq]
theorem Split_true {A B : Prop} : Split true A B = A := by simp [Split]
theorem Split_false {A B : Prop} : Split false A B = B := by simp [Split]
theorem pcond_sym {A B : Prop} {b : Bool} : pcond A B (.bool b) = Split b A B := rfl
theorem pgk_sym {w : Bool} {op : V → (V → Hp → Prop) → Prop} {k : V → V → Hp → Prop} {b : Bool} : pgk w h op k (.bool b) =
    Split b (cond w (op (.bool true) (k (.bool true))) (k (.bool true) (.tup []) h)) (cond w (k (.bool false) (.tup []) h) (op (.bool false) (k (.bool false)))) := rfl
theorem pgk_skip {w : Bool} {op : V → (V → Hp → Prop) → Prop} {k : V → V → Hp → Prop} : pgk w h op k (.tup []) = k (.tup []) (.tup []) h := rfl
theorem JN_def {F : (List V → Hp → Prop) → Prop} {G : List V → Hp → Prop} : JN F G = F G := rfl
theorem cond_t {α : Type} {x y : α} : cond true x y = x := rfl
theorem cond_f {α : Type} {x y : α} : cond false x y = y := rfl
section
@[congr] theorem VL_congr {x y : Option V} {K : V → Prop} (hx : x = y) : VL x K = VL y K := by rw [hx]
@[congr] theorem Rq_congr {c c' X : Prop} (hc : c = c') : Rq c X = Rq c' X := by rw [hc]
@[congr] theorem Split_congr {b b' : Bool} {A B : Prop} (hb : b = b') : Split b A B = Split b' A B := by rw [hb]
@[congr] theorem pcond_congr {A B : Prop} {v v' : V} (hv : v = v') : pcond A B v = pcond A B v' := by rw [hv]
@[congr] theorem pgk_congr {w : Bool} {op : V → (V → Hp → Prop) → Prop} {k : V → V → Hp → Prop} {v v' : V} (hv : v = v') : pgk w h op k v = pgk w h op k v' := by rw [hv]
@[congr] theorem pld_congr {m : Option Nat} {K : V → Hp → Prop} {v v' : V} (hv : v = v') : pld h m K v = pld h m K v' := by rw [hv]
@[congr] theorem pldB_congr {b off : Nat} {m : Option Nat} {K : V → Hp → Prop} {s s' : Slot} (hs : s = s') : pldB h b off m K s = pldB h b off m K s' := by rw [hs]
@[congr] theorem ldc_congr {b : Nat} {ty sz : Nat} {cs : List V} {off : Nat} {K : V → Hp → Prop} {v v' : V} (hv : v = v') : ldc h b ty sz cs off K v = ldc h b ty sz cs off K v' := by rw [hv]
@[congr] theorem pbox_congr {d' : Nat} {ty : TypeId} {cs cs' : List V} {K : Hp → Prop} (hc : cs = cs') : pbox h d' ty cs K = pbox h d' ty cs' K := by rw [hc]
@[congr] theorem palloc_congr {d' : Nat} {ty : TypeId} {cs cs' : List V} {K : Hp → Prop} (hc : cs = cs') : palloc h d' ty cs K = palloc h d' ty cs' K := by rw [hc]
@[congr] theorem pmks_congr {d' : Nat} {ty : TypeId} {zl len : Nat} {K : Hp → Prop} {x y : Option (List V)} (hx : x = y) : pmks h d' ty zl len K x = pmks h d' ty zl len K y := by rw [hx]
@[congr] theorem pmk_congr {d' : Nat} {ty : TypeId} {bytes : Nat} {z : List V} {K : V → Hp → Prop} {x x' y y' : V} (hx : x = x') (hy : y = y') : pmk h d' ty bytes z K x y = pmk h d' ty bytes z K x' y' := by rw [hx, hy]
@[congr] theorem pcp_congr {F : Nat → List V → Prop} {x y : Option (Nat × List V)} (hx : x = y) : pcp F x = pcp F y := by rw [hx]
@[congr] theorem pcpyV_congr {sz m : Nat} {K : V → Hp → Prop} {l l' : List V} {d d' : V} (hl : l = l') (hd : d = d') : pcpyV sz h K m l d = pcpyV sz h K m l' d' := by rw [hl, hd]
@[congr] theorem pclrV_congr {K : V → Hp → Prop} {z : List V} {d d' : V} (hd : d = d') : pclrV z h K d = pclrV z h K d' := by rw [hd]
@[congr] theorem papp_congr {K : Nat → List V → Prop} {av av' : Prop} {x y : Option (Nat × List V)} (ha : av = av') (hx : x = y) : papp h K av x = papp h K av' y := by rw [ha, hx]
@[congr] theorem papV_congr {ty : TypeId} {sz bytes d' m : Nat} {K : V → Hp → Prop} {news news' : List V} {s s' : V} (hn : news = news') (hs : s = s') : papV ty sz bytes d' h K m news s = papV ty sz bytes d' h K m news' s' := by rw [hn, hs]
@[congr] theorem papB_congr {ty : TypeId} {sz bytes d' b k m : Nat} {K : V → Hp → Prop} {news : List V} {s s' : Slot} (hs : s = s') : papB ty sz bytes d' h K b k m news s = papB ty sz bytes d' h K b k m news s' := by rw [hs]
@[congr] theorem pst_congr {m : Nat} {vs vs' : List V} {K : V → Hp → Prop} {a a' : V} (hv : vs = vs') (ha : a = a') : pst h m vs K a = pst h m vs' K a' := by rw [hv, ha]
@[congr] theorem pstB_congr {b off m : Nat} {vs : List V} {K : V → Hp → Prop} {s s' : Slot} (hs : s = s') : pstB h b off m vs K s = pstB h b off m vs K s' := by rw [hs]
@[congr] theorem pcal_congr {f : FuncId} {d' : Nat} {K : V → Hp → Prop} {vs vs' : List V} (hv : vs = vs') : pcal P f d' h K vs = pcal P f d' h K vs' := by rw [hv]
@[congr] theorem pcallv_congr {d' : Nat} {K : V → Hp → Prop} {vs vs' : List V} {f f' : V} (hv : vs = vs') (hf : f = f') : pcallv P vs d' h K f = pcallv P vs' d' h K f' := by rw [hv, hf]
@[congr] theorem FIN_congr {v v' : V} {Φ : V → Prop} (hv : v = v') : FIN h v Φ = FIN h v' Φ := by rw [hv]
@[congr] theorem OK_congr {α : Type} {x y : Option α} {K : α → Prop} (hxy : x = y) : OK x K = OK y K := by rw [hxy]
end
section
variable {l : List V} {b o off m s : Nat} {i : Int} {k : IntKind}
theorem vfa_ptr : vfa off (.ptr b o) = some (.ptr b (o + off)) := rfl
theorem vfa_pf : vfa off (.pf l o) = some (.pf l (o + off)) := rfl
theorem vfd_agg {q : Option Nat} : vfd q off (.agg l) = vcellsAt l off q := rfl
theorem vcell_none : vcellsAt l off none = grd (off < l.length) (some (l.getD off .und)) := rfl
theorem vcell_some : vcellsAt l off (some m) = grd (off + m ≤ l.length) (some (.agg ((l.drop off).take m))) := rfl
theorem vixA_ptr : vixA m s (.ptr b o) (.int k i) = grd (0 ≤ i ∧ i < m) (some (.ptr b (o + i.toNat * s))) := rfl
theorem vixA_pf : vixA m s (.pf l o) (.int k i) = grd (0 ≤ i ∧ i < m) (some (.pf l (o + i.toNat * s))) := rfl
theorem vixS_rf : vixS s (.rf b o m) (.int k i) = grd (0 ≤ i ∧ i < m) (some (.ptr b (o + i.toNat * s))) := rfl
theorem vixS_fz {x : Value} {l : List Int} : vixS s (.fz x l) (.int k i) = grd (0 ≤ i ∧ i < l.length ∧ s = 1) (some (.pf (l.map (V.int .u8)) i.toNat)) := rfl
theorem vixS_sl : vixS s (.sl m l) (.int k i) = grd (0 ≤ i ∧ i < m ∧ i.toNat * s < l.length) (some (.pf l (i.toNat * s))) := rfl
theorem vixV_agg {q : Option Nat} : vixV m s q (.agg l) (.int k i) = grd (0 ≤ i ∧ i < m) (vcellsAt l (i.toNat * s) q) := rfl
theorem vixT_str {u : List UInt8} : vixT (.str u) (.int k i) = grd (0 ≤ i ∧ i < u.length) (some (.int .u8 (u.getD i.toNat 0).toNat)) := rfl
theorem vext_tup {j : Nat} : vext j (.tup l) = l[j]? := rfl
theorem vlenS_rf : vlenS (.rf b o m) = some (.int .i64 m) := rfl
theorem vlenS_fz {x : Value} {l : List Int} : vlenS (.fz x l) = some (.int .i64 l.length) := rfl
theorem vlenS_sl : vlenS (.sl m l) = some (.int .i64 m) := rfl
theorem vlenS_nils : vlenS .nils = some (.int .i64 0) := rfl
theorem vlenT_str {u : List UInt8} : vlenT (.str u) = some (.int .i64 u.length) := rfl
theorem vnilS_nils {g : Bool} : vnilS g .nils = some (.bool !g) := rfl
theorem vnilS_rf {g : Bool} : vnilS g (.rf b o m) = some (.bool g) := rfl
theorem vbnd_none {d : Nat} : vbnd d none = some (d : Int) := rfl
theorem vbnd_some {d : Nat} : vbnd d (some (.int k i)) = some i := rfl
theorem vslS_sl {lo hi : Option V} : vslS s (.sl m l) lo hi = (vbnd 0 lo).bind fun a => (vbnd m hi).bind fun c =>
      grd (0 < m ∧ 0 ≤ a ∧ a ≤ c ∧ c ≤ m ∧ m * s ≤ l.length) (some (.sl (c.toNat - a.toNat) ((l.drop (a.toNat * s)).take ((c.toNat - a.toNat) * s)))) := rfl
theorem vslS_rf {lo hi : Option V} : vslS s (.rf b o m) lo hi = (vbnd 0 lo).bind fun a => (vbnd m hi).bind fun c =>
      grd (0 ≤ a ∧ a ≤ c ∧ c ≤ m ∧ (0 < s ∨ a = 0)) (some (.rf b (o + a.toNat * s) (c.toNat - a.toNat))) := rfl
theorem vslS_nils {lo hi : Option V} : vslS s .nils lo hi = (vbnd 0 lo).bind fun a => (vbnd 0 hi).bind fun c => grd (a = 0 ∧ c = 0) (some .nils) := rfl
theorem vslT_str {u : List UInt8} {lo hi : Option V} : vslT (.str u) lo hi = (vbnd 0 lo).bind fun a => (vbnd u.length hi).bind fun c =>
      grd (0 ≤ a ∧ a ≤ c ∧ c ≤ u.length) (some (.str ((u.drop a.toNat).take (c.toNat - a.toNat)))) := rfl
theorem vmkf_f {f : FuncId} : vmkf (.func f) [] l = some (.fn f l) := rfl
theorem bind_some' {α β : Type} {a : α} {f : α → Option β} : (some a).bind f = f a := rfl
theorem bind_none' {α β : Type} {f : α → Option β} : (none : Option α).bind f = none := rfl
theorem vbld_some : vbld (some l) = some (.agg l) := rfl
theorem vbld_grd {c : Prop} [Decidable c] {x : Option (List V)} : vbld (grd c x) = grd c (vbld x) := by by_cases hc : c <;> simp [vbld, grd, hc]
theorem vfill_nil : vfill l [] = some l := rfl
theorem vfill_cons {j q : Nat} {v : V} {ps : List (Nat × Nat × V)} : vfill l ((j, q, v) :: ps) = grd (cellOk v = true ∧ (cellsV v).length = q ∧ j + q ≤ l.length) (vfill (l.take j ++ cellsV v ++ l.drop (j + q)) ps) := rfl
theorem veqa_def {g ag : Bool} {sg : List Sg} {x y : V} : veqa g ag sg x y = grd (cellOk x = true ∧ cellOk y = true ∧ isAggP x = ag ∧ isAggP y = ag) ((vleq sg (cellsV x) (cellsV y)).bind fun b => some (.bool (if g then !b else b))) := rfl
theorem vleq_nil : vleq [] [] [] = some true := rfl
theorem vleq_cons {a : Sg} {as : List Sg} {x y : V} {xs ys : List V} : vleq (a :: as) (x :: xs) (y :: ys) = (vveq a x y).bind fun b => if b then vleq as xs ys else (vleq as xs ys).bind fun _ => some false := rfl
theorem vveq_i {a c : Int} : vveq (.i k) (.int k a) (.int k c) = some (a == c) := by simp [vveq, toVal, veq, grd]
theorem vveq_b {a c : Bool} : vveq .b (.bool a) (.bool c) = some (a == c) := rfl
theorem vleq_if {c d : Bool} : (if c = true then some d else (some d : Option Bool).bind fun _ => some false) = some (c && d) := by cases c <;> rfl
theorem vleq_if2 {c d : Bool} : (if c = true then some d else some false) = some (c && d) := by cases c <;> rfl
theorem bneb {c : Bool} : (if (true : Bool) = true then !c else c) = !c := rfl
theorem beqb {c : Bool} : (if (false : Bool) = true then !c else c) = c := rfl
theorem cellsV_agg : cellsV (.agg l) = l := rfl
theorem cellsV_int {a : Int} : cellsV (.int k a) = [.int k a] := rfl
theorem cellsV_bool {c : Bool} : cellsV (.bool c) = [.bool c] := rfl
theorem cellsV_str {u : List UInt8} : cellsV (.str u) = [.str u] := rfl
theorem cellsV_ptr : cellsV (.ptr b o) = [.ptr b o] := rfl
theorem cellsV_rf : cellsV (.rf b o m) = [.rf b o m] := rfl
theorem cellsV_fz {x : Value} {l : List Int} : cellsV (.fz x l) = [.fz x l] := rfl
theorem cellsV_sl : cellsV (.sl m l) = [.sl m l] := rfl
theorem cellsV_nils : cellsV .nils = [.nils] := rfl
theorem cellsV_nilp : cellsV .nilp = [.nilp] := rfl
theorem cellsV_fn {f : FuncId} : cellsV (.fn f l) = [.fn f l] := rfl
theorem cellOk_agg : cellOk (.agg l) = true := rfl
theorem cellOk_int {a : Int} : cellOk (.int k a) = true := rfl
theorem cellOk_bool {c : Bool} : cellOk (.bool c) = true := rfl
theorem cellOk_str {u : List UInt8} : cellOk (.str u) = true := rfl
theorem cellOk_ptr : cellOk (.ptr b o) = true := rfl
theorem cellOk_rf : cellOk (.rf b o m) = true := rfl
theorem cellOk_fz {x : Value} {l : List Int} : cellOk (.fz x l) = true := rfl
theorem cellOk_sl : cellOk (.sl m l) = true := rfl
theorem cellOk_nils : cellOk .nils = true := rfl
theorem cell1_int {a : Int} : cell1 (.int k a) = true := rfl
theorem cell1_bool {c : Bool} : cell1 (.bool c) = true := rfl
theorem cell1_str {u : List UInt8} : cell1 (.str u) = true := rfl
theorem cell1_ptr : cell1 (.ptr b o) = true := rfl
theorem cell1_rf : cell1 (.rf b o m) = true := rfl
theorem cell1_fz {x : Value} {l : List Int} : cell1 (.fz x l) = true := rfl
theorem cell1_sl : cell1 (.sl m l) = true := rfl
theorem cell1_nils : cell1 .nils = true := rfl
theorem cell1_fn {f : FuncId} : cell1 (.fn f l) = true := rfl
theorem plain1_int {a : Int} : plain1 (.int k a) = true := rfl
theorem plain1_bool {c : Bool} : plain1 (.bool c) = true := rfl
theorem plain1_str {u : List UInt8} : plain1 (.str u) = true := rfl
theorem plain1_ptr : plain1 (.ptr b o) = true := rfl
theorem plain1_rf : plain1 (.rf b o m) = true := rfl
theorem plain1_fz {x : Value} {l : List Int} : plain1 (.fz x l) = true := rfl
theorem plain1_sl : plain1 (.sl m l) = true := rfl
theorem plain1_nils : plain1 .nils = true := rfl
theorem plain1_fn {f : FuncId} : plain1 (.fn f l) = true := rfl
theorem noOwn_nil : noOwn [] = true := rfl
theorem noOwn_cons {v : V} : noOwn (v :: l) = (plain1 v && noOwn l) := rfl
theorem noOwn_app {l' : List V} : noOwn (l ++ l') = (noOwn l && noOwn l') := by simp [noOwn]
theorem isAggP_agg : isAggP (.agg l) = true := rfl
theorem isAggP_int {a : Int} : isAggP (.int k a) = false := rfl
theorem isAggP_bool {c : Bool} : isAggP (.bool c) = false := rfl
theorem isAggP_str {u : List UInt8} : isAggP (.str u) = false := rfl
variable {ty sz : Nat} {cs vs : List V}
theorem pld_ptr {q : Option Nat} : pld h q K (.ptr b off) = pldB h b off q K (h b) := rfl
theorem pld_pf {q : Option Nat} : pld h q K (.pf l off) = VL (vcellsAt l off q) fun v => K v h := by rw [VL_eq]; rfl
theorem pldB_none : pldB h b off none K (.row ty sz cs) = Rq (off < cs.length) (ldc h b ty sz cs off K (cs.getD off .und)) := rfl
theorem pldB_some : pldB h b off (some m) K (.row ty sz cs) = Rq (off + m ≤ cs.length ∧ noOwn ((cs.drop off).take m) = true) (K (.agg ((cs.drop off).take m)) h) := rfl
theorem ldc_int {a : Int} : ldc h b ty sz cs off K (.int k a) = K (.int k a) h := rfl
theorem ldc_bool {a : Bool} : ldc h b ty sz cs off K (.bool a) = K (.bool a) h := rfl
theorem ldc_str {a : List UInt8} : ldc h b ty sz cs off K (.str a) = K (.str a) h := rfl
theorem ldc_ptr {b2 o2 : Nat} : ldc h b ty sz cs off K (.ptr b2 o2) = K (.ptr b2 o2) h := rfl
theorem ldc_rf {b2 o2 m2 : Nat} : ldc h b ty sz cs off K (.rf b2 o2 m2) = K (.rf b2 o2 m2) h := rfl
theorem ldc_fz {x : Value} {l : List Int} : ldc h b ty sz cs off K (.fz x l) = K (.fz x l) h := rfl
theorem ldc_sl : ldc h b ty sz cs off K (.sl m l) = K (.sl m l) h := rfl
theorem ldc_nils : ldc h b ty sz cs off K .nils = K .nils h := rfl
theorem ldc_nilp : ldc h b ty sz cs off K .nilp = K .nilp h := rfl
theorem ldc_fn {f : FuncId} : ldc h b ty sz cs off K (.fn f l) = K (.fn f l) h := rfl
theorem pst_ptr : pst h m vs K (.ptr b off) = pstB h b off m vs K (h b) := rfl
theorem pstB_row : pstB h b off m vs K (.row ty sz cs) = Rq (vs.length = m ∧ off + m ≤ cs.length ∧ vs.all cell1 = true) (K .und (hput h b (.row ty sz (setV cs off vs)))) := rfl
theorem setV_one {v : V} : setV cs off [v] = cs.set off v := rfl
theorem setV_two {v v' : V} : setV cs off (v :: v' :: l) = cs.take off ++ (v :: v' :: l) ++ cs.drop (off + (l.length + 2)) := rfl
theorem hput_same {s s' : Slot} : hput (hput h b s) b s' = hput h b s' := by funext x; simp only [hput]; split <;> rfl
theorem setV_more (hm : vs.length ≠ 1) : setV cs off vs = cs.take off ++ vs ++ cs.drop (off + vs.length) := by
  unfold setV; split
  · simp at hm
  · rfl
theorem pbox_def {d : Nat} {G : Hp → Prop} : pbox h d ty cs G = Rq (h d = .free ∧ cs.all cell1 = true) (G (hput h d (.row ty 1 cs))) := rfl
theorem pmks_some {d zl len : Nat} {G : Hp → Prop} : pmks h d ty zl len G (some cs) = Rq (h d = .free ∧ cs.all cell1 = true ∧ len ≤ maxLen ∧ (zl = if len = 0 then 0 else len * (zl / len)) ∧ (len = 0 ∨ zl ≠ 0)) (G (hput h d (.row ty (if len = 0 then 0 else zl / len) cs))) := by
  simp [pmks, OK]
theorem pmks_grd {d zl len : Nat} {G : Hp → Prop} {c : Prop} [Decidable c] {x : Option (List V)} : pmks h d ty zl len G (grd c x) = Rq c (pmks h d ty zl len G x) := by
  by_cases hc : c <;> simp [pmks, OK, grd, Rq, hc]
theorem palloc_def {d : Nat} {G : Hp → Prop} : palloc h d ty cs G = Rq (h d = .free) (G (hput h d (.row ty 1 cs))) := rfl
theorem pmk_int {d bytes : Nat} {z : List V} {G : V → Hp → Prop} {k1 k2 : IntKind} {a c : Int} : pmk h d ty bytes z G (.int k1 a) (.int k2 c) =
    Rq (h d = .free ∧ 0 ≤ a ∧ a ≤ c ∧ (bytes : Int) * c ≤ 281474976710656 ∧ c ≤ maxLen ∧ z ≠ []) (G (.rf d 0 a.toNat) (hput h d (.row ty z.length ((List.replicate c.toNat z).flatten)))) := rfl
theorem pcp_some {G : Nat → List V → Prop} : pcp G (some (m, vs)) = G m vs := by simp [pcp, OK]
theorem pcp_grd {G : Nat → List V → Prop} {c : Prop} [Decidable c] {x : Option (Nat × List V)} : pcp G (grd c x) = Rq c (pcp G x) := by
  by_cases hc : c <;> simp [pcp, OK, grd, Rq, hc]
theorem pcpyV_nils {l : List V} : pcpyV sz h K m l .nils = K (.int .i64 0) h := rfl
theorem pcpyV_rf0 {l : List V} {b o n : Nat} (h0 : m = 0 ∨ n = 0) : pcpyV sz h K m l (.rf b o n) = K (.int .i64 0) h := by
  simp only [pcpyV]; rw [if_pos (by omega)]
theorem pcpyV_rf {l : List V} {b o n : Nat} (h0 : 0 < m ∧ 0 < n) : pcpyV sz h K m l (.rf b o n) = pst h (min m n * sz) (l.take (min m n * sz)) (fun _ h => K (.int .i64 (min m n : Nat)) h) (.ptr b o) := by
  simp only [pcpyV]; rw [if_neg (by omega)]
theorem pclrV_nils {z : List V} : pclrV z h K .nils = K (.tup []) h := rfl
theorem pclrV_rf0 {z : List V} {b o n : Nat} (h0 : n = 0) : pclrV z h K (.rf b o n) = K (.tup []) h := by
  simp only [pclrV]; rw [if_pos h0]
theorem pclrV_rf {z : List V} {b o n : Nat} (h0 : 0 < n) : pclrV z h K (.rf b o n) = pst h (n * z.length) (List.replicate n z).flatten (fun _ h => K (.tup []) h) (.ptr b o) := by
  simp only [pclrV]; rw [if_neg (by omega)]
theorem papp_some {G : Nat → List V → Prop} {av : Prop} : papp h G av (some (m, vs)) = Rq (vs.all cell1 = true ∧ av) (G m vs) := by simp [papp, OK]
theorem papp_grd {G : Nat → List V → Prop} {av c : Prop} [Decidable c] {x : Option (Nat × List V)} : papp h G av (grd c x) = Rq c (papp h G av x) := by
  by_cases hc : c <;> simp [papp, OK, grd, Rq, hc]
theorem preadS_nils : preadS sz h .nils = some (0, []) := rfl
theorem preadS_sl : preadS sz h (.sl m l) = grd (0 < sz ∧ m * sz ≤ l.length) (some (m, l.take (m * sz))) := rfl
theorem preadS_fz {x : Value} {l : List Int} : preadS sz h (.fz x l) = grd (sz = 1) (some (l.length, l.map (V.int .u8))) := rfl
theorem preadS_rf : preadS sz h (.rf b o m) = preadB sz o m (h b) := rfl
theorem preadB_row {s2 : Nat} : preadB sz o m (.row ty s2 cs) = grd (o + m * sz ≤ cs.length ∧ noOwn ((cs.drop o).take (m * sz)) = true) (some (m, (cs.drop o).take (m * sz))) := rfl
theorem papV_rf {bytes d q : Nat} : papV ty sz bytes d h K q vs (.rf b 0 m) = papB ty sz bytes d h K b m q vs (h b) := rfl
theorem papV_nils1 {bytes d q : Nat} (hq : 0 < q) : papV ty sz bytes d h K q vs .nils = Rq (0 < sz ∧ q ≤ maxLen ∧ q * bytes ≤ 140737488355328 ∧ h d = .free) (K (.rf d 0 q) (hput h d (.row ty sz vs))) := by
  have : q ≠ 0 := by omega
  simp [papV, this, hq]
theorem papB_row {bytes d q e' s' : Nat} : papB ty sz bytes d h K b m q vs (.row e' s' cs) = Rq (e' = ty ∧ (s' = sz ∨ s' = 0) ∧ 0 < sz ∧ m * sz ≤ cs.length ∧ m + q ≤ maxLen ∧ (m + q) * bytes ≤ 140737488355328 ∧ h d = .free)
      (K (.rf d 0 (m + q)) (hput (hput h b .dead) d (.row ty sz (cs.take (m * sz) ++ vs)))) := rfl
theorem pavs_nil {x : V} : pavs h x [] = True := rfl
theorem pavs_cons {x y : V} {ys : List V} : pavs h x (y :: ys) = (pavoid h x y ∧ pavs h x ys) := rfl
variable {Φ : V → Prop} {res : List ARes}
theorem FIN_def {v : V} : FIN h v Φ = OK (fin 5 h v) fun p => Rq (clo p.1 = true) (Φ p.1) := rfl
def pcellB (off : Nat) (q : Option Nat) : Slot → Option V
  | .row _ _ cs => grd (noOwn cs = true) (vcellsAt cs off q)
  | _ => none
theorem pcellV_ptr {q : Option Nat} : pcellV h q (.ptr b off) = pcellB off q (h b) := rfl
theorem pcellB_row {q : Option Nat} : pcellB off q (.row ty sz cs) = grd (noOwn cs = true) (vcellsAt cs off q) := rfl
theorem OK_some {α : Type} {x : α} {G : α → Prop} : OK (some x) G = G x := by simp [OK]
theorem OK_none {α : Type} {G : α → Prop} : OK none G = False := by simp [OK]
theorem OK_grd {α : Type} {c : Prop} [Decidable c] {x : Option α} {G : α → Prop} : OK (grd c x) G = Rq c (OK x G) := by
  unfold OK grd Rq; by_cases hc : c <;> simp [hc]
theorem OK_bind {α β : Type} {x : Option α} {f : α → Option β} {G : β → Prop} : OK (x.bind f) G = OK x fun v => OK (f v) G := by
  cases x <;> simp [OK]
theorem OK_map {α β : Type} {x : Option α} {f : α → β} {G : β → Prop} : OK (x.map f) G = OK x fun v => G (f v) := by
  cases x <;> simp [OK]
theorem fin_int {q : Nat} {a : Int} : fin (q + 1) h (.int k a) = some (.int k a, h) := rfl
theorem fin_bool {q : Nat} {a : Bool} : fin (q + 1) h (.bool a) = some (.bool a, h) := rfl
theorem fin_str {q : Nat} {a : List UInt8} : fin (q + 1) h (.str a) = some (.str a, h) := rfl
theorem fin_fz {q : Nat} {x : Value} {l : List Int} : fin (q + 1) h (.fz x l) = some (.fz x l, h) := rfl
theorem fin_sl {q : Nat} : fin (q + 1) h (.sl m l) = some (.sl m l, h) := rfl
theorem fin_nils {q : Nat} : fin (q + 1) h .nils = some (.nils, h) := rfl
theorem fin_nilp {q : Nat} : fin (q + 1) h .nilp = some (.nilp, h) := rfl
theorem fin_fn {q : Nat} {f : FuncId} : fin (q + 1) h (.fn f l) = some (.fn f l, h) := rfl
theorem fin_own {q : Nat} : fin (q + 1) h (.own ty sz m l) = some (.own ty sz m l, h) := rfl
theorem fin_agg {q : Nat} : fin (q + 1) h (.agg l) = (folds (fin q) h l).map fun p => (.agg p.1, p.2) := rfl
theorem fin_tup {q : Nat} : fin (q + 1) h (.tup l) = (folds (fin q) h l).map fun p => (.tup p.1, p.2) := rfl
def finB (q : Nat) (h : Hp) (b m : Nat) : Slot → Option (V × Hp)
  | .row e sz cs => grd (m * sz ≤ cs.length ∧ (sz = 0 → cs = [])) ((folds (fin q) (hput h b .dead) (cs.take (m * sz))).map fun p => (.own e sz m p.1, p.2))
  | _ => none
theorem fin_rf {q : Nat} : fin (q + 1) h (.rf b 0 m) = finB q h b m (h b) := by
  simp only [fin, finB]; cases h b <;> simp [true_and]
theorem finB_row {q : Nat} : finB q h b m (.row ty sz cs) = grd (m * sz ≤ cs.length ∧ (sz = 0 → cs = [])) ((folds (fin q) (hput h b .dead) (cs.take (m * sz))).map fun p => (.own ty sz m p.1, p.2)) := rfl
theorem folds_nil {f : Hp → V → Option (V × Hp)} : folds f h [] = some ([], h) := rfl
theorem folds_cons {f : Hp → V → Option (V × Hp)} {v : V} : folds f h (v :: l) = (f h v).bind fun p => (folds f p.2 l).map fun q => (p.1 :: q.1, q.2) := rfl
theorem folds_app {f : Hp → V → Option (V × Hp)} : ∀ {l l' : List V} {h : Hp}, folds f h (l ++ l') = (folds f h l).bind fun p => (folds f p.2 l').map fun q => (p.1 ++ q.1, q.2)
  | [], l', h => by simp only [List.nil_append, folds_nil, bind_some']; cases folds f h l' <;> rfl
  | v :: l, l', h => by
    simp only [List.cons_append, folds_cons]
    cases f h v with
    | none => rfl
    | some p =>
      simp only [bind_some', folds_app (l := l) (l' := l') (h := p.2)]
      cases folds f p.2 l with
      | none => rfl
      | some p2 => simp only [bind_some', Option.map_some]; cases folds f p2.2 l' <;> rfl
def still : V → Bool
  | .rf .. | .ptr .. | .agg _ | .tup _ => false
  | _ => true
theorem fin_still {q : Nat} {v : V} (hv : still v = true) : fin (q + 1) h v = some (v, h) := by cases v <;> simp_all [still, fin]
theorem folds_still {q : Nat} : ∀ {l : List V}, l.all still = true → folds (fin (q + 1)) h l = some (l, h)
  | [], _ => rfl
  | v :: l, hl => by
    simp only [List.all_cons, Bool.and_eq_true] at hl
    rw [folds_cons, fin_still hl.1, bind_some', folds_still hl.2]; rfl
theorem clo_int {a : Int} : clo (.int k a) = true := by simp [clo]
theorem clo_bool {a : Bool} : clo (.bool a) = true := by simp [clo]
theorem clo_str {a : List UInt8} : clo (.str a) = true := by simp [clo]
theorem clo_nils : clo .nils = true := by simp [clo]
theorem clo_fz {x : Value} {l : List Int} : clo (.fz x l) = false := by simp [clo]
theorem clo_nilp : clo .nilp = true := by simp [clo]
theorem clo_und : clo .und = true := by simp [clo]
theorem clo_agg : clo (.agg l) = clos l := by simp [clo]
theorem clo_tup : clo (.tup l) = clos l := by simp [clo]
theorem clo_own : clo (.own ty sz m l) = clos l := by simp [clo]
theorem clos_nil : clos [] = true := by simp [clos]
theorem clos_cons {v : V} : clos (v :: l) = (clo v && clos l) := by simp [clos]
theorem clos_app : ∀ {l l' : List V}, clos (l ++ l') = (clos l && clos l')
  | [], l' => by simp [clos]
  | v :: l, l' => by simp [clos, clos_app (l := l), Bool.and_assoc]
end
end
section
variable {P : Program} {h : Hp} {K : V → Hp → Prop} {k : IntKind} {l l' : List V} {b o n c : Nat} {ty sz : Nat} {cs : List V}
def dvB (n off : Nat) : Slot → V
  | .row _ sz cs => .sl n (vws ((cs.drop off).take (n * sz)))
  | _ => .und
theorem dv_int {a : Int} : dv h (.int k a) = .int k a := by simp [dv]
theorem dv_bool {a : Bool} : dv h (.bool a) = .bool a := by simp [dv]
theorem dv_str {a : List UInt8} : dv h (.str a) = .str a := by simp [dv]
theorem dv_nils : dv h .nils = .nils := by simp [dv]
theorem dv_fz {x : Value} {l : List Int} : dv h (.fz x l) = .fz x l := by simp [dv]
theorem dv_nilp : dv h .nilp = .nilp := by simp [dv]
theorem dv_und : dv h .und = .und := by simp [dv]
def dvP (o : Nat) : Slot → V
  | .row _ _ cs => .pf (vws cs) o
  | _ => .und
theorem dv_ptr : dv h (.ptr b o) = dvP o (h b) := by simp only [dv]; cases h b <;> rfl
theorem dvP_row : dvP o (.row ty sz cs) = .pf (vws cs) o := rfl
theorem dv_sl : dv h (.sl n l) = .sl n (vws l) := by simp [dv]
theorem dv_rf : dv h (.rf b o n) = dvB n o (h b) := by simp only [dv]; cases h b <;> rfl
theorem dvB_row : dvB n o (.row ty sz cs) = .sl n (vws ((cs.drop o).take (n * sz))) := rfl
theorem dv_agg : dv h (.agg l) = .agg (dvs h l) := by simp [dv]
theorem dv_tup : dv h (.tup l) = .tup (dvs h l) := by simp [dv]
theorem dv_fn {f : FuncId} : dv h (.fn f l) = .fn f (dvs h l) := by simp [dv]
theorem dvs_nil : dvs h [] = [] := by simp [dvs]
theorem dvs_cons {v : V} : dvs h (v :: l) = dv h v :: dvs h l := by simp [dvs]
theorem dvs_app : dvs h (l ++ l') = dvs h l ++ dvs h l' := by induction l <;> simp_all [dvs]
theorem vw_int {a : Int} : vw (.int k a) = .int k a := by simp [vw]
theorem vw_bool {a : Bool} : vw (.bool a) = .bool a := by simp [vw]
theorem vw_str {a : List UInt8} : vw (.str a) = .str a := by simp [vw]
theorem vw_nils : vw .nils = .nils := by simp [vw]
theorem vw_fz {x : Value} {l : List Int} : vw (.fz x l) = .fz x l := by simp [vw]
theorem vw_nilp : vw .nilp = .nilp := by simp [vw]
theorem vw_sl : vw (.sl n l) = .sl n (vws l) := by simp [vw]
theorem vw_own : vw (.own ty sz n l) = .sl n (vws l) := by simp [vw]
theorem vw_agg : vw (.agg l) = .agg (vws l) := by simp [vw]
theorem vw_tup : vw (.tup l) = .tup (vws l) := by simp [vw]
theorem vws_nil : vws [] = [] := by simp [vws]
theorem vws_cons {v : V} : vws (v :: l) = vw v :: vws l := by simp [vws]
theorem vws_app : vws (l ++ l') = vws l ++ vws l' := by induction l <;> simp_all [vws]
theorem mat_int {a : Int} : mat (.int k a) c = (.int k a, [], c) := by simp [mat]
theorem mat_bool {a : Bool} : mat (.bool a) c = (.bool a, [], c) := by simp [mat]
theorem mat_str {a : List UInt8} : mat (.str a) c = (.str a, [], c) := by simp [mat]
theorem mat_nils : mat .nils c = (.nils, [], c) := by simp [mat]
theorem mat_fz {x : Value} {l : List Int} : mat (.fz x l) c = (.fz x l, [], c) := by simp [mat]
theorem mat_nilp : mat .nilp c = (.nilp, [], c) := by simp [mat]
theorem mat_sl : mat (.sl n l) c = (.sl n l, [], c) := by simp [mat]
theorem mat_own : mat (.own ty sz n l) c = (.rf c 0 n, [(c, ty, sz, l)], c + 1000) := by simp [mat]
theorem mat_agg : mat (.agg l) c = (.agg (mats l c).1, (mats l c).2) := by simp [mat]
theorem mat_tup : mat (.tup l) c = (.tup (mats l c).1, (mats l c).2) := by simp [mat]
theorem mats_nil : mats [] c = ([], [], c) := by simp [mats]
theorem mats_cons {v : V} : mats (v :: l) c = ((mat v c).1 :: (mats l (mat v c).2.2).1, (mat v c).2.1 ++ (mats l (mat v c).2.2).2.1, (mats l (mat v c).2.2).2.2) := by simp [mats]
theorem hputs_nil : hputs h [] = h := rfl
theorem hputs_cons {r : List (Nat × TypeId × Nat × List V)} : hputs h ((b, ty, sz, l) :: r) = hputs (hput h b (.row ty sz l)) r := rfl
theorem allFree_nil : allFree h [] = True := rfl
theorem allFree_cons {r : List (Nat × TypeId × Nat × List V)} : allFree h ((b, ty, sz, l) :: r) = (h b = .free ∧ allFree (hput h b (.row ty sz l)) r) := rfl
def pcd (P : Program) (f : FuncId) (d : Nat) (h : Hp) (K : V → Hp → Prop) (ws : List V) (m : Bool) (o : List V) : Prop :=
  ((∃ Φ, PSpec P f ws Φ ∧ ((∀ v, Φ v → K (vw v) h) ∨ (∀ v, Φ v → Rq (allFree h (mat v d).2.1) (K (mat v d).1 (hputs h (mat v d).2.1))))) ∨
    (nrfs o = true ∧ ∃ Φ, PSpecV P f o Φ ∧ ((∀ v, Φ v → K (vw v) h) ∨ (∀ v, Φ v → Rq (allFree h (mat v d).2.1) (K (mat v d).1 (hputs h (mat v d).2.1)))))) ∨ (m = true ∧ (Turns P f o d h K ∨ PNew P f o d h K))
theorem pcal_def {f : FuncId} {d : Nat} {vs : List V} : pcal P f d h K vs = pcd P f d h K (dvs h vs) true vs := by simp [pcal, pcd, pcall, Pure]
theorem pcalp_def {f : FuncId} {d : Nat} {vs : List V} : pcalp P f d h K vs = pcd P f d h K (dvs h vs) false vs := by simp [pcalp, pcd, Pure]
@[congr] theorem pcd_congr {f : FuncId} {d : Nat} {m : Bool} {ws ws' : List V} {o o' : List V} (hw : ws = ws') (ho : o = o') : pcd P f d h K ws m o = pcd P f d h K ws' m o' := by rw [hw, ho]
def pcda (P : Program) (f : FuncId) (d : Nat) (h : Hp) (K : V → Hp → Prop) (ws o avs : List V) : Prop := pcd P f d h K ws false o ∨ TurnsV P f o avs d h K
theorem pcala_def {f : FuncId} {d : Nat} {vs avs : List V} : pcala P f d h K avs vs = pcda P f d h K (dvs h vs) vs avs := by simp [pcala, pcda, pcalla, pcd, Pure]
@[congr] theorem pcda_congr {f : FuncId} {d : Nat} {ws ws' o o' avs avs' : List V} (hw : ws = ws') (ho : o = o') (ha : avs = avs') : pcda P f d h K ws o avs = pcda P f d h K ws' o' avs' := by rw [hw, ho, ha]
theorem pcallv_fn {f : FuncId} {d : Nat} {vs cap : List V} : pcallv P vs d h K (.fn f cap) = Rq (isFn P f = true) (pcal P f d h K (vs ++ cap)) := rfl
section
variable {f : FuncId} {d : Nat} {ws : List V} {m : Bool} {o : List V}
theorem pcd_v {r : V} (hs : PSpec P f ws fun v => v = r) (hK : K (vw r) h) : pcd P f d h K ws m o := .inl (.inl ⟨_, hs, .inl fun v hv => by rw [hv]; exact hK⟩)
theorem pcd_r {Φ : V → Prop} (hs : PSpec P f ws Φ) (hK : ∀ v, Φ v → K (vw v) h) : pcd P f d h K ws m o := .inl (.inl ⟨_, hs, .inl hK⟩)
theorem pcm {vs : List V} (bs : List Nat) (hb : (decide bs.Nodup && decide (bs.length ≤ 64)) = true)
    (H : OK (closeAll h bs) fun h1 => OK (handB h1 bs 0) fun q => Rq (nrfss q.2 = true) (CallM P f d h1 K bs q.1 q.2 (mvs bs h1 vs))) : pcd P f d h K ws true vs := .inr ⟨rfl, .inl (.inl ⟨bs, hb, H⟩)⟩
def isRowB : Slot → Bool
  | .row .. => true
  | _ => false
def avC (h : Hp) (bs : List Nat) : List V → Prop
  | [] => True
  | .ptr b _ :: l => (nm bs b = none ∧ isRowB (h b) = true) ∧ avC h bs l
  | _ => False
theorem avC_nil {bs : List Nat} : avC h bs [] = True := rfl
theorem avC_cons {bs : List Nat} {b o : Nat} {l : List V} : avC h bs (.ptr b o :: l) = ((nm bs b = none ∧ isRowB (h b) = true) ∧ avC h bs l) := rfl
theorem isRowB_row {e : TypeId} {sz : Nat} {cs : List V} : isRowB (.row e sz cs) = true := rfl
theorem avC_avB {h : Hp} {bs : List Nat} : ∀ {l : List V}, avC h bs l → avB h bs l
  | [], _ => trivial
  | .ptr b o :: l, hc => by
    refine ⟨⟨nm_none hc.1.1, ?_⟩, avC_avB hc.2⟩
    have := hc.1.2
    cases hb : h b <;> rw [hb] at this <;> first | trivial | cases this
theorem pcma {vs avs : List V} (bs : List Nat) (hb : (decide bs.Nodup && decide (bs.length ≤ 64)) = true)
    (H : OK (closeAll h bs) fun h1 => OK (handB h1 bs 0) fun q => Rq (nrfss q.2 = true ∧ avC h1 bs avs) (CallM P f d h1 K bs q.1 q.2 (mvs bs h1 vs))) : pcda P f d h K ws vs avs := by
  obtain ⟨h1, e1, q, e2, ⟨e3, e4⟩, e5⟩ := H
  exact .inr ⟨bs, hb, h1, e1, q, e2, ⟨e3, avC_avB e4⟩, e5⟩
theorem pcmr {vs : List V} (bs : List Nat) (hb : (decide bs.Nodup && decide (bs.length ≤ 64)) = true)
    (H : OK (closeAll h bs) fun h1 => OK (handB h1 bs 0) fun q => Rq (nrfss q.2 = true) (CallMR P f h1 K bs q.1 q.2 (mvs bs h1 vs))) : pcd P f d h K ws true vs := .inr ⟨rfl, .inl (.inr ⟨bs, hb, H⟩)⟩
end
section
variable {f : FuncId} {d : Nat} {bs : List Nat} {bx bx' : List (Nat × TypeId × Nat)} {cells cells' cs : List (List V)} {ws ws' : List V}
@[congr] theorem CallM_congr (h1 : bx = bx') (h2 : cells = cells') (h3 : ws = ws') : CallM P f d h K bs bx cells ws = CallM P f d h K bs bx' cells' ws' := by rw [h1, h2, h3]
@[congr] theorem CallMR_congr (h1 : bx = bx') (h2 : cells = cells') (h3 : ws = ws') : CallMR P f h K bs bx cells ws = CallMR P f h K bs bx' cells' ws' := by rw [h1, h2, h3]
end
section
variable {bs : List Nat} {j x : Nat} {bx : List (Nat × TypeId × Nat)} {cells : List (List V)} {e : TypeId} {r : Option (List (Nat × TypeId × Nat) × List (List V))}
def closeS (h : Hp) (b : Nat) : Slot → Option Hp
  | .row e sz cs => (folds (fin 4) (hput h b .dead) cs).map fun p => hput p.2 b (.row e sz p.1)
  | _ => none
theorem closeAll_nil : closeAll h [] = some h := rfl
theorem closeAll_cons {b : Nat} : closeAll h (b :: bs) = (closeS h b (h b)).bind fun h' => closeAll h' bs := by simp only [closeAll, closeB, closeS]; cases h b <;> rfl
theorem closeS_row {b : Nat} {sz : Nat} {cs : List V} : closeS h b (.row e sz cs) = (folds (fin 4) (hput h b .dead) cs).map fun p => hput p.2 b (.row e sz p.1) := rfl
def handS (r : Option (List (Nat × TypeId × Nat) × List (List V))) (j : Nat) : Slot → Option (List (Nat × TypeId × Nat) × List (List V))
  | .row e sz cs => r.map fun p => ((j, e, sz) :: p.1, cs :: p.2)
  | _ => none
theorem handB_nil : handB h [] j = some ([], []) := rfl
theorem handB_cons {b : Nat} : handB h (b :: bs) j = handS (handB h bs (j + 1)) j (h b) := by simp only [handB, handS]; cases h b <;> rfl
theorem handS_row {sz : Nat} {cs : List V} : handS r j (.row e sz cs) = r.map fun p => ((j, e, sz) :: p.1, cs :: p.2) := rfl
theorem nm_nil : nm [] x = none := rfl
theorem nm_cons {b : Nat} : nm (b :: bs) x = if x = b then some 0 else (nm bs x).map (· + 1) := rfl
theorem mvR_some {b o n i : Nat} : mvR h b o n (some i) = .rf i o n := rfl
theorem mvR_none {b o n : Nat} : mvR h b o n none = dv h (.rf b o n) := rfl
theorem mvP_some {b o i : Nat} : mvP h b o (some i) = .ptr i o := rfl
theorem mvP_none {b o : Nat} : mvP h b o none = dv h (.ptr b o) := rfl
theorem mv_int {k : IntKind} {n : Int} : mv bs h (.int k n) = .int k n := by simp [mv]
theorem mv_bool {b : Bool} : mv bs h (.bool b) = .bool b := by simp [mv]
theorem mv_str {l : List UInt8} : mv bs h (.str l) = .str l := by simp [mv]
theorem mv_nils : mv bs h .nils = .nils := by simp [mv]
theorem mv_fz {x : Value} {l : List Int} : mv bs h (.fz x l) = .fz x l := by simp [mv]
theorem mv_nilp : mv bs h .nilp = .nilp := by simp [mv]
theorem mv_und : mv bs h .und = .und := by simp [mv]
theorem mv_ptr {b o : Nat} : mv bs h (.ptr b o) = mvP h b o (nm bs b) := by simp [mv]
theorem mv_rf {b o n : Nat} : mv bs h (.rf b o n) = mvR h b o n (nm bs b) := by simp [mv]
theorem mv_sl {n : Nat} {l : List V} : mv bs h (.sl n l) = .sl n (vws l) := by simp [mv]
theorem mv_agg {l : List V} : mv bs h (.agg l) = .agg (mvs bs h l) := by simp [mv]
theorem mv_tup {l : List V} : mv bs h (.tup l) = .tup (mvs bs h l) := by simp [mv]
theorem mv_fn {f : FuncId} {l : List V} : mv bs h (.fn f l) = .fn f (mvs bs h l) := by simp [mv]
theorem mvs_nil : mvs bs h [] = [] := by simp [mvs]
theorem mvs_cons {v : V} {l : List V} : mvs bs h (v :: l) = mv bs h v :: mvs bs h l := by simp [mvs]
theorem hputs2_nil : hputs2 h [] bx cells = h := by cases bx <;> rfl
theorem hputs2_cons {b sz : Nat} {cs : List V} : hputs2 h (b :: bs) ((j, e, sz) :: bx) (cs :: cells) = hputs2 (hput h b (.row e sz cs)) bs bx cells := rfl
theorem names_nil : names [] = [] := rfl
theorem names_cons {sz : Nat} : names ((j, e, sz) :: bx) = j :: names bx := rfl
theorem closs_nil : closs [] = true := rfl
theorem closK_nil : closK cells [] = True := by cases cells <;> simp [closK]
theorem closK_cons {a c : List V} {r : List (List V)} : closK (a :: r) (c :: cells) = ((clos c = true ∨ fzH a c) ∧ closK r cells) := by simp [closK]
theorem fzH_fz {x y : Value} {l m : List Int} {a c : List V} : fzH (.fz x l :: a) (.fz y m :: c) = ((y = x ∧ m = l) ∧ clos c = true) := rfl
theorem closs_cons {l : List V} : closs (l :: cells) = (clos l && closs cells) := rfl
theorem FINV_def {v : V} {Φ : V → Prop} : FINV h v Φ = OK (fin 5 h v) fun p => Rq (nrf p.1 = true) (Φ p.1) := rfl
theorem FINMR_rf {ks : List (List V)} {bx : List (Nat × TypeId × Nat)} {Φ : Nat → Nat → Nat → List (List V) → Prop} {j o n : Nat} : FINMR ks bx h Φ (.rf j o n) = OK (closeAll h (names bx)) fun h' => OK (boxesOf h' bx) fun cells => Rq (closK ks cells ∧ (names bx).contains j = true) (Φ j o n cells) := rfl
@[congr] theorem FINMR_congr {ks : List (List V)} {bx : List (Nat × TypeId × Nat)} {v v' : V} {Φ : Nat → Nat → Nat → List (List V) → Prop} (hv : v = v') : FINMR ks bx h Φ v = FINMR ks bx h Φ v' := by rw [hv]
@[congr] theorem FINV_congr {v v' : V} {Φ : V → Prop} (hv : v = v') : FINV h v Φ = FINV h v' Φ := by rw [hv]
theorem FINM_def {ks : List (List V)} {v : V} {Φ : V → List (List V) → Prop} : FINM ks bx h v Φ = OK (fin 5 h v) fun p => OK (closeAll p.2 (names bx)) fun h' => OK (boxesOf h' bx) fun cells => Rq (clo p.1 = true ∧ closK ks cells) (Φ p.1 cells) := rfl
@[congr] theorem FINM_congr {ks : List (List V)} {v v' : V} {Φ : V → List (List V) → Prop} (hv : v = v') : FINM ks bx h v Φ = FINM ks bx h v' Φ := by rw [hv]
end
theorem boxesOf_nil : boxesOf h [] = some [] := rfl
def boxB (e sz : Nat) (r : Option (List (List V))) : Slot → Option (List (List V))
  | .row e' sz' cs => grd (e' = e ∧ sz' = sz) (r.map (cs :: ·))
  | _ => none
theorem boxesOf_cons {r : List (Nat × TypeId × Nat)} : boxesOf h ((b, ty, sz) :: r) = boxB ty sz (boxesOf h r) (h b) := by simp only [boxesOf]; cases h b <;> rfl
theorem boxB_row {e' sz' : Nat} {r : Option (List (List V))} : boxB e' sz' r (.row ty sz cs) = grd (ty = e' ∧ sz = sz') (r.map (cs :: ·)) := rfl
theorem hputb_nil {cells : List (List V)} : hputb h [] cells = h := by cases cells <;> rfl
theorem hputb_cons {r : List (Nat × TypeId × Nat)} {cells : List (List V)} : hputb h ((b, ty, sz) :: r) (cs :: cells) = hput (hputb h r cells) b (.row ty sz cs) := rfl
theorem lheap_def {c0 : Nat} {bx : List (Nat × TypeId × Nat)} {vals : List V} {cells : List (List V)} : lheap c0 bx vals cells = hputs (hputb hnil bx cells) (mats vals c0).2.1 := rfl
theorem ColV_def {bx : List (Nat × TypeId × Nat)} {wv lv lv0 : List V} {G : List V → List (List V) → Prop} : ColV bx wv lv lv0 h G =
    OK (folds (fin 4) h wv) fun p => OK (closeAll p.2 (names bx)) fun h' => OK (boxesOf h' bx) fun cells => Rq (nrfs p.1 = true ∧ nrfss cells = true ∧ lv = lv0) (G p.1 cells) := rfl
theorem nrfss_nil : nrfss [] = true := rfl
theorem nrfss_cons {r : List (List V)} : nrfss (l :: r) = (nrfs l && nrfss r) := rfl
theorem nrf_int {a : Int} : nrf (.int k a) = true := by simp [nrf]
theorem nrf_bool {a : Bool} : nrf (.bool a) = true := by simp [nrf]
theorem nrf_str {a : List UInt8} : nrf (.str a) = true := by simp [nrf]
theorem nrf_nils : nrf .nils = true := by simp [nrf]
theorem nrf_fz {x : Value} {m : List Int} : nrf (.fz x m) = true := by simp [nrf]
theorem nrf_sl : nrf (.sl n l) = nrfs l := by simp [nrf]
theorem nrf_own : nrf (.own ty sz n l) = nrfs l := by simp [nrf]
theorem nrf_agg : nrf (.agg l) = nrfs l := by simp [nrf]
theorem nrf_tup : nrf (.tup l) = nrfs l := by simp [nrf]
theorem nrfs_nil : nrfs [] = true := by simp [nrfs]
theorem nrfs_cons {v : V} : nrfs (v :: l) = (nrf v && nrfs l) := by simp [nrfs]
theorem nrfs_app : nrfs (l ++ l') = (nrfs l && nrfs l') := by induction l <;> simp_all [nrfs, Bool.and_assoc]
theorem LP_ofE {σ : Type} (ss : List Nat) (c0 : Nat) (bx : List (Nat × TypeId × Nat)) (vals : σ → List V) (cells : σ → List (List V)) (J : σ → Prop) (μ : σ → Nat) (s0 : σ) {vs ls : List Nat}
    {B : List V → List V → Hp → (List V → List V → Hp → Prop) → Prop} {wv lv : List V} (hf : frameOk c0 (lpz ls lv) bx = true) (h0 : J s0)
    (he : ColV bx wv lv lv h fun v c => rts ss v = vals s0 ∧ c = cells s0)
    (hr : ∀ s, J s → B (mats (vals s) c0).1 lv (lheap c0 bx (vals s) (cells s)) fun wv' lv' h' => ColV bx wv' lv' lv h' fun v c => ∃ s', v = vals s' ∧ c = cells s' ∧ J s' ∧ μ s' < μ s) :
    LP vs ls B wv lv h := by
  refine ⟨c0, bx, fun k v c => ∃ s, v = vals s ∧ c = cells s ∧ J s ∧ μ s = k, ss, hf, ?_, ?_⟩
  · obtain ⟨p, h1, hp, hcl, cs, h2, h3, h4, h5⟩ := he
    exact ⟨p, h1, hp, hcl, cs, h2, h3, μ s0, s0, h4, h5, h0, rfl⟩
  · rintro k v c ⟨s, rfl, rfl, hJ, rfl⟩
    have := hr s hJ
    have hcol : (fun (wv' lv' : List V) (h' : Hp) => ColV bx wv' lv' lv h' fun vals_1 cells_1 => ∃ k', k' < μ s ∧ ∃ s_1, vals_1 = vals s_1 ∧ cells_1 = cells s_1 ∧ J s_1 ∧ μ s_1 = k') =
        fun wv' lv' h' => ColV bx wv' lv' lv h' fun v c => ∃ s', v = vals s' ∧ c = cells s' ∧ J s' ∧ μ s' < μ s := by
      funext wv' lv' h'
      congr 1
      funext v c
      exact propext ⟨fun ⟨k', hk, s', a1, a2, a3, a4⟩ => ⟨s', a1, a2, a3, a4 ▸ hk⟩, fun ⟨s', a1, a2, a3, a4⟩ => ⟨μ s', a4, s', a1, a2, a3, rfl⟩⟩
    rw [hcol]
    exact this
theorem LP_of {σ : Type} (c0 : Nat) (bx : List (Nat × TypeId × Nat)) (vals : σ → List V) (cells : σ → List (List V)) (J : σ → Prop) (μ : σ → Nat) (s0 : σ) {vs ls : List Nat}
    {B : List V → List V → Hp → (List V → List V → Hp → Prop) → Prop} {wv lv : List V} (hf : frameOk c0 (lpz ls lv) bx = true) (h0 : J s0)
    (he : ColV bx wv lv lv h fun v c => v = vals s0 ∧ c = cells s0)
    (hr : ∀ s, J s → B (mats (vals s) c0).1 lv (lheap c0 bx (vals s) (cells s)) fun wv' lv' h' => ColV bx wv' lv' lv h' fun v c => ∃ s', v = vals s' ∧ c = cells s' ∧ J s' ∧ μ s' < μ s) :
    LP vs ls B wv lv h := LP_ofE [] c0 bx vals cells J μ s0 hf h0 (by simpa only [rts_nil] using he) hr
theorem rts_cons {s : Nat} {ss : List Nat} {v : V} {l : List V} : rts (s :: ss) (v :: l) = rt1 s v :: rts ss l := rfl
theorem rts_nil' {l : List V} : rts [] l = l := rts_nil
theorem rt1_e {e s : Nat} : rt1 s (.own e 0 0 []) = .own e s 0 [] := rfl
theorem rt1_i {s : Nat} {k : IntKind} {n : Int} : rt1 s (.int k n) = .int k n := rfl
theorem rt1_b {s : Nat} {b : Bool} : rt1 s (.bool b) = .bool b := rfl
theorem rt1_o {e s sz n : Nat} {l : List V} (h : ¬ sz = 0) : rt1 s (.own e sz n l) = .own e sz n l := by
  unfold rt1; split
  · rename_i heq; cases heq; exact absurd rfl h
  · rfl
end
set_option linter.defProp false in
set_option maxRecDepth 10000 in
def EC := And.intro @pcal_def <|
  And.intro @pcalp_def <|
  And.intro @pcala_def <|
  And.intro @avC_nil <|
  And.intro @avC_cons <|
  And.intro @isRowB_row <|
  And.intro @VL_some <|
  And.intro @VL_none <|
  And.intro @VL_grd <|
  And.intro @Rq_true <|
  And.intro @Rq_false <|
  And.intro @Split_true <|
  And.intro @Split_false <|
  And.intro @pcond_sym <|
  And.intro @pgk_sym <|
  And.intro @pgk_skip <|
  And.intro @JN_def <|
  And.intro @cond_t <|
  And.intro @cond_f <|
  And.intro @hput_at <|
  And.intro @hnil_at <|
  And.intro @pld_ptr <|
  And.intro @pld_pf <|
  And.intro @OK_some <|
  And.intro @OK_none @palloc_def
set_option linter.defProp false in
set_option maxRecDepth 10000 in
def EV := And.intro @vleq_if2 <|
  And.intro @setV_two <|
  And.intro @hput_same <|
  And.intro @dv_int <|
  And.intro @dv_bool <|
  And.intro @dv_str <|
  And.intro @dv_nils <|
  And.intro @dv_nilp <|
  And.intro @dv_fz <|
  And.intro @vw_fz <|
  And.intro @mat_fz <|
  And.intro @nrf_fz <|
  And.intro @dv_und <|
  And.intro @dv_ptr <|
  And.intro @dvP_row <|
  And.intro @dv_sl <|
  And.intro @dv_rf <|
  And.intro @dvB_row <|
  And.intro @dv_agg <|
  And.intro @dv_tup <|
  And.intro @dv_fn <|
  And.intro @dvs_nil <|
  And.intro @dvs_cons <|
  And.intro @dvs_app <|
  And.intro @vw_int <|
  And.intro @vw_bool <|
  And.intro @vw_str <|
  And.intro @vw_nils <|
  And.intro @vw_nilp <|
  And.intro @vw_sl <|
  And.intro @vw_own <|
  And.intro @vw_agg <|
  And.intro @vw_tup <|
  And.intro @vws_nil <|
  And.intro @vws_cons <|
  And.intro @vws_app <|
  And.intro @mat_int <|
  And.intro @mat_bool <|
  And.intro @mat_str <|
  And.intro @mat_nils <|
  And.intro @mat_nilp <|
  And.intro @mat_sl <|
  And.intro @mat_own <|
  And.intro @mat_agg <|
  And.intro @mat_tup <|
  And.intro @mats_nil <|
  And.intro @mats_cons <|
  And.intro @hputs_nil <|
  And.intro @hputs_cons <|
  And.intro @allFree_nil <|
  And.intro @allFree_cons <|
  And.intro @pcallv_fn <|
  And.intro @boxesOf_nil <|
  And.intro @boxesOf_cons <|
  And.intro @boxB_row <|
  And.intro @hputb_nil <|
  And.intro @hputb_cons <|
  And.intro @lheap_def <|
  And.intro @ColV_def <|
  And.intro @rts_cons <|
  And.intro @rts_nil' <|
  And.intro @rt1_e <|
  And.intro @rt1_i <|
  And.intro @rt1_b <|
  And.intro @rt1_o <|
  And.intro @nrfss_nil <|
  And.intro @nrfss_cons <|
  And.intro @nrf_int <|
  And.intro @nrf_bool <|
  And.intro @nrf_str <|
  And.intro @nrf_nils <|
  And.intro @nrf_sl <|
  And.intro @nrf_own <|
  And.intro @nrf_agg <|
  And.intro @nrf_tup <|
  And.intro @nrfs_nil <|
  And.intro @nrfs_cons <|
  And.intro @nrfs_app <|
  And.intro @vpick_b <|
  And.intro @l_add <|
  And.intro @l_sub <|
  And.intro @l_mul <|
  And.intro @l_quo <|
  And.intro @l_rem <|
  And.intro @l_and <|
  And.intro @l_or <|
  And.intro @l_xor <|
  And.intro @l_eql <|
  And.intro @l_neq <|
  And.intro @l_lss <|
  And.intro @l_leq <|
  And.intro @l_gtr <|
  And.intro @l_geq <|
  And.intro @l_shl <|
  And.intro @l_shr <|
  And.intro @l_not <|
  And.intro @l_neg <|
  And.intro @l_cvi <|
  And.intro @l_cvs <|
  And.intro @l_max <|
  And.intro @l_min <|
  And.intro @ls_add <|
  And.intro @ls_eql <|
  And.intro @ls_neq <|
  And.intro @Rq_and <|
  And.intro @vfa_ptr <|
  And.intro @vfa_pf <|
  And.intro @vfd_agg <|
  And.intro @vcell_none <|
  And.intro @vcell_some <|
  And.intro @vixA_ptr <|
  And.intro @vixA_pf <|
  And.intro @vixS_rf <|
  And.intro @vixS_sl <|
  And.intro @vixS_fz <|
  And.intro @vlenS_fz <|
  And.intro @cellsV_fz <|
  And.intro @cellOk_fz <|
  And.intro @cell1_fz <|
  And.intro @plain1_fz <|
  And.intro @ldc_fz <|
  And.intro @fin_fz <|
  And.intro @clo_fz <|
  And.intro @mv_fz <|
  And.intro @vixV_agg <|
  And.intro @vixT_str <|
  And.intro @vext_tup <|
  And.intro @vlenS_rf <|
  And.intro @vlenS_sl <|
  And.intro @vlenS_nils <|
  And.intro @vlenT_str <|
  And.intro @vnilS_nils <|
  And.intro @vnilS_rf <|
  And.intro @vbnd_none <|
  And.intro @vbnd_some <|
  And.intro @vslS_sl <|
  And.intro @vslS_rf <|
  And.intro @vslS_nils <|
  And.intro @vslT_str <|
  And.intro @vmkf_f <|
  And.intro @bind_some' <|
  And.intro @bind_none' <|
  And.intro @vbld_some <|
  And.intro @vbld_grd <|
  And.intro @vfill_nil <|
  And.intro @vfill_cons <|
  And.intro @veqa_def <|
  And.intro @vleq_nil <|
  And.intro @vleq_cons <|
  And.intro @vveq_i <|
  And.intro @vveq_b <|
  And.intro @vleq_if <|
  And.intro @bneb <|
  And.intro @beqb <|
  And.intro @cellsV_agg <|
  And.intro @cellsV_int <|
  And.intro @cellsV_bool <|
  And.intro @cellsV_str <|
  And.intro @cellsV_ptr <|
  And.intro @cellsV_rf <|
  And.intro @cellsV_sl <|
  And.intro @cellsV_nils <|
  And.intro @cellsV_nilp <|
  And.intro @cellsV_fn <|
  And.intro @cellOk_agg <|
  And.intro @cellOk_int <|
  And.intro @cellOk_bool <|
  And.intro @cellOk_str <|
  And.intro @cellOk_ptr <|
  And.intro @cellOk_rf <|
  And.intro @cellOk_sl <|
  And.intro @cellOk_nils <|
  And.intro @cell1_int <|
  And.intro @cell1_bool <|
  And.intro @cell1_str <|
  And.intro @cell1_ptr <|
  And.intro @cell1_rf <|
  And.intro @cell1_sl <|
  And.intro @cell1_nils <|
  And.intro @cell1_fn <|
  And.intro @plain1_int <|
  And.intro @plain1_bool <|
  And.intro @plain1_str <|
  And.intro @plain1_ptr <|
  And.intro @plain1_rf <|
  And.intro @plain1_sl <|
  And.intro @plain1_nils <|
  And.intro @plain1_fn <|
  And.intro @noOwn_nil <|
  And.intro @noOwn_cons <|
  And.intro @noOwn_app <|
  And.intro @isAggP_agg <|
  And.intro @isAggP_int <|
  And.intro @isAggP_bool <|
  And.intro @isAggP_str <|
  And.intro @pldB_none <|
  And.intro @pldB_some <|
  And.intro @ldc_int <|
  And.intro @ldc_bool <|
  And.intro @ldc_str <|
  And.intro @ldc_ptr <|
  And.intro @ldc_rf <|
  And.intro @ldc_sl <|
  And.intro @ldc_nils <|
  And.intro @ldc_nilp <|
  And.intro @ldc_fn <|
  And.intro @pst_ptr <|
  And.intro @pstB_row <|
  And.intro @setV_one <|
  And.intro @pbox_def <|
  And.intro @pmks_some <|
  And.intro @pmks_grd <|
  And.intro @pmk_int <|
  And.intro @pcp_some <|
  And.intro @pcp_grd <|
  And.intro @pcpyV_nils <|
  And.intro @pcpyV_rf0 <|
  And.intro @pcpyV_rf <|
  And.intro @pclrV_nils <|
  And.intro @pclrV_rf0 <|
  And.intro @pclrV_rf <|
  And.intro @papp_some <|
  And.intro @papp_grd <|
  And.intro @preadS_nils <|
  And.intro @preadS_sl <|
  And.intro @preadS_rf <|
  And.intro @preadS_fz <|
  And.intro @preadB_row <|
  And.intro @papV_rf <|
  And.intro @papV_nils1 <|
  And.intro @papB_row <|
  And.intro @pavs_nil <|
  And.intro @pavs_cons <|
  And.intro @FIN_def <|
  And.intro @FINM_def <|
  And.intro @FINV_def <|
  And.intro @FINMR_rf <|
  And.intro @closeAll_nil <|
  And.intro @closeAll_cons <|
  And.intro @closeS_row <|
  And.intro @handB_nil <|
  And.intro @handB_cons <|
  And.intro @handS_row <|
  And.intro @nm_nil <|
  And.intro @nm_cons <|
  And.intro @mvR_some <|
  And.intro @mvR_none <|
  And.intro @mvP_some <|
  And.intro @mvP_none <|
  And.intro @mv_int <|
  And.intro @mv_bool <|
  And.intro @mv_str <|
  And.intro @mv_nils <|
  And.intro @mv_nilp <|
  And.intro @mv_und <|
  And.intro @mv_ptr <|
  And.intro @mv_rf <|
  And.intro @mv_sl <|
  And.intro @mv_agg <|
  And.intro @mv_tup <|
  And.intro @mv_fn <|
  And.intro @mvs_nil <|
  And.intro @mvs_cons <|
  And.intro @hputs2_nil <|
  And.intro @hputs2_cons <|
  And.intro @names_nil <|
  And.intro @names_cons <|
  And.intro @closs_nil <|
  And.intro @closK_nil <|
  And.intro @closK_cons <|
  And.intro @fzH_fz <|
  And.intro @closs_cons <|
  And.intro @pcellV_ptr <|
  And.intro @pcellB_row <|
  And.intro @OK_grd <|
  And.intro @OK_bind <|
  And.intro @OK_map <|
  And.intro @fin_int <|
  And.intro @fin_bool <|
  And.intro @fin_str <|
  And.intro @fin_sl <|
  And.intro @fin_nils <|
  And.intro @fin_nilp <|
  And.intro @fin_fn <|
  And.intro @fin_own <|
  And.intro @fin_agg <|
  And.intro @fin_tup <|
  And.intro @fin_rf <|
  And.intro @finB_row <|
  And.intro @folds_nil <|
  And.intro @folds_cons <|
  And.intro @clo_int <|
  And.intro @clo_bool <|
  And.intro @clo_str <|
  And.intro @clo_nils <|
  And.intro @clo_nilp <|
  And.intro @clo_und <|
  And.intro @clo_agg <|
  And.intro @clo_tup <|
  And.intro @clo_own <|
  And.intro @clos_nil <|
  And.intro @clos_cons @clos_app
end
section
set_option linter.constructorNameAsVariable false
def vi (k : IntKind) (l : List Int) : List V := l.map (V.int k)
def vb (l : List Bool) : List V := l.map V.bool
def vt (l : List (List UInt8)) : List V := l.map V.str
def gi (l : List Int) (i : Nat) : Int := l.getD i 0
def gb (l : List Bool) (i : Nat) : Bool := l.getD i false
def gt (l : List (List UInt8)) (i : Nat) : List UInt8 := l.getD i []
section
variable {k : IntKind} {l m : List Int} {p q : List Bool} {s u : List (List UInt8)} {i j n : Nat} {v : Int} {w : Bool} {x : List UInt8} {r : List V} {h : Hp}
theorem vi_len : (vi k l).length = l.length := by simp [vi]
theorem vb_len : (vb p).length = p.length := by simp [vb]
theorem vt_len : (vt s).length = s.length := by simp [vt]
theorem vi_get (hi : i < l.length) : (vi k l).getD i .und = .int k (gi l i) := by simp [vi, gi, List.getD, hi]
theorem vb_get (hi : i < p.length) : (vb p).getD i .und = .bool (gb p i) := by simp [vb, gb, List.getD, hi]
theorem vt_get (hi : i < s.length) : (vt s).getD i .und = .str (gt s i) := by simp [vt, gt, List.getD, hi]
theorem vi_set : (vi k l).set i (.int k v) = vi k (l.set i v) := by simp [vi, List.map_set]
theorem vb_set : (vb p).set i (.bool w) = vb (p.set i w) := by simp [vb, List.map_set]
theorem vt_set : (vt s).set i (.str x) = vt (s.set i x) := by simp [vt, List.map_set]
theorem vi_take : (vi k l).take n = vi k (l.take n) := by simp [vi, List.map_take]
theorem vb_take : (vb p).take n = vb (p.take n) := by simp [vb, List.map_take]
theorem vt_take : (vt s).take n = vt (s.take n) := by simp [vt, List.map_take]
theorem vi_drop : (vi k l).drop n = vi k (l.drop n) := by simp [vi, List.map_drop]
theorem vb_drop : (vb p).drop n = vb (p.drop n) := by simp [vb, List.map_drop]
theorem vt_drop : (vt s).drop n = vt (s.drop n) := by simp [vt, List.map_drop]
theorem vi_app : vi k l ++ vi k m = vi k (l ++ m) := by simp [vi]
theorem vi_one : vi k l ++ [.int k v] = vi k (l ++ [v]) := by simp [vi]
theorem vb_one : vb p ++ [.bool w] = vb (p ++ [w]) := by simp [vb]
theorem vt_one : vt s ++ [.str x] = vt (s ++ [x]) := by simp [vt]
theorem vi_all : (vi k l).all cell1 = true := by simp [vi, cell1]
theorem vb_all : (vb p).all cell1 = true := by simp [vb, cell1]
theorem vt_all : (vt s).all cell1 = true := by simp [vt, cell1]
theorem vi_own : noOwn (vi k l) = true := by simp [noOwn, vi, plain1]
theorem vb_own : noOwn (vb p) = true := by simp [noOwn, vb, plain1]
theorem vt_own : noOwn (vt s) = true := by simp [noOwn, vt, plain1]
theorem vi_vws : vws (vi k l) = vi k l := by induction l <;> simp_all [vi, vws, vw]
theorem vb_vws : vws (vb p) = vb p := by induction p <;> simp_all [vb, vws, vw]
theorem vt_vws : vws (vt s) = vt s := by induction s <;> simp_all [vt, vws, vw]
theorem vi_dvs : dvs h (vi k l) = vi k l := by induction l <;> simp_all [vi, dvs, dv]
theorem vb_dvs : dvs h (vb p) = vb p := by induction p <;> simp_all [vb, dvs, dv]
theorem vt_dvs : dvs h (vt s) = vt s := by induction s <;> simp_all [vt, dvs, dv]
theorem vi_clo : clos (vi k l) = true := by induction l <;> simp_all [vi, clos, clo]
theorem vb_clo : clos (vb p) = true := by induction p <;> simp_all [vb, clos, clo]
theorem vt_clo : clos (vt s) = true := by induction s <;> simp_all [vt, clos, clo]
theorem vi_nrf : nrfs (vi k l) = true := by induction l <;> simp_all [vi, nrfs, nrf]
theorem vb_nrf : nrfs (vb p) = true := by induction p <;> simp_all [vb, nrfs, nrf]
theorem vt_nrf : nrfs (vt s) = true := by induction s <;> simp_all [vt, nrfs, nrf]
theorem vi_fin : folds (fin (n + 1)) h (vi k l) = some (vi k l, h) := folds_still (by simp [vi, still])
theorem vb_fin : folds (fin (n + 1)) h (vb p) = some (vb p, h) := folds_still (by simp [vb, still])
theorem vt_fin : folds (fin (n + 1)) h (vt s) = some (vt s, h) := folds_still (by simp [vt, still])
theorem vi_rep : (List.replicate n [V.int k v]).flatten = vi k (List.replicate n v) := by
  induction n <;> simp_all [vi, List.replicate_succ]
theorem vb_rep : (List.replicate n [V.bool w]).flatten = vb (List.replicate n w) := by
  induction n <;> simp_all [vb, List.replicate_succ]
theorem vt_rep : (List.replicate n [V.str x]).flatten = vt (List.replicate n x) := by
  induction n <;> simp_all [vt, List.replicate_succ]
theorem ofVals_ints : ofVals (List.replicate n (.int k v)) = vi k (List.replicate n v) := by
  induction n <;> simp_all [vi, List.replicate_succ, ofVals, ofVal]
theorem ofVals_bools : ofVals (List.replicate n (.bool w)) = vb (List.replicate n w) := by
  induction n <;> simp_all [vb, List.replicate_succ, ofVals, ofVal]
theorem ofVals_strs {a : ByteArray} : ofVals (List.replicate n (.string a)) = vt (List.replicate n a.data.toList) := by
  induction n <;> simp_all [vt, List.replicate_succ, ofVals, ofVal]
theorem ofVals_app {a b : List Value} : ofVals (a ++ b) = ofVals a ++ ofVals b := by
  induction a <;> simp_all [ofVals]
theorem vi_nil : vi k [] = [] := rfl
theorem vb_nil : vb [] = [] := rfl
theorem vt_nil : vt [] = [] := rfl
theorem vi_cons : V.int k v :: vi k l = vi k (v :: l) := rfl
theorem setV_vi (hn : l.length ≠ 1) : setV r i (vi k l) = r.take i ++ vi k l ++ r.drop (i + l.length) := by
  rw [setV_more (by simpa [vi] using hn), vi_len]
theorem setV_vb (hn : p.length ≠ 1) : setV r i (vb p) = r.take i ++ vb p ++ r.drop (i + p.length) := by
  rw [setV_more (by simpa [vb] using hn), vb_len]
theorem take_vi (hn : l.length = n) : (vi k l ++ r).take n = vi k l := List.take_left' (by simp [vi, hn])
theorem take_vb (hn : p.length = n) : (vb p ++ r).take n = vb p := List.take_left' (by simp [vb, hn])
theorem drop_vi (hn : l.length = n) : (vi k l ++ r).drop n = r := List.drop_left' (by simp [vi, hn])
theorem drop_vb (hn : p.length = n) : (vb p ++ r).drop n = r := List.drop_left' (by simp [vb, hn])
theorem gi_of (hi : i < l.length) : gi l i = l[i] := by simp [gi, List.getD, hi]
theorem gb_of (hi : i < p.length) : gb p i = p[i] := by simp [gb, List.getD, hi]
theorem gi_set : gi (l.set i v) j = if i = j ∧ j < l.length then v else gi l j := by
  simp only [gi, List.getD, List.getElem?_set]
  by_cases h1 : i = j
  · subst h1; by_cases h2 : i < l.length <;> simp [h2]
  · simp [h1]
theorem gb_set : gb (p.set i w) j = if i = j ∧ j < p.length then w else gb p j := by
  simp only [gb, List.getD, List.getElem?_set]
  by_cases h1 : i = j
  · subst h1; by_cases h2 : i < p.length <;> simp [h2]
  · simp [h1]
theorem gi_over (hi : l.length ≤ i) : gi l i = 0 := by simp [gi, List.getD, List.getElem?_eq_none hi]
theorem gi_rep {c : Int} : gi (List.replicate n c) i = if i < n then c else 0 := by
  simp only [gi, List.getD, List.getElem?_replicate]; split <;> rfl
theorem gb_rep {c : Bool} : gb (List.replicate n c) i = if i < n then c else false := by
  simp only [gb, List.getD, List.getElem?_replicate]; split <;> rfl
theorem gi_app : gi (l ++ m) i = if i < l.length then gi l i else gi m (i - l.length) := by
  simp only [gi, List.getD, List.getElem?_append]; split <;> rfl
end
theorem Rq_of' {c X : Prop} (hc : c) : Rq c X = X := Rq_of hc
theorem le_maxLen {n : Nat} (h : n ≤ 9223372036854775807) : n ≤ maxLen := by unfold maxLen; omega
theorem nat_le_maxLen {n : Int} (h : n ≤ 9223372036854775807) : (n ≤ (maxLen : Int)) = True := eq_true (by unfold maxLen; omega)
theorem le_maxLen' {n : Nat} (h : n ≤ 9223372036854775807) : (n ≤ maxLen) = True := eq_true (le_maxLen h)
set_option linter.defProp false in
set_option maxRecDepth 10000 in
def EL := And.intro @setV_vi <|
  And.intro @setV_vb <|
  And.intro @List.length_cons.{0} <|
  And.intro @List.length_nil.{0} <|
  And.intro @List.length_append.{0} <|
  And.intro @List.length_take.{0} <|
  And.intro @List.length_drop.{0} <|
  And.intro @List.length_set.{0} <|
  And.intro @List.length_replicate.{0} <|
  And.intro @List.getD_cons_zero.{0} <|
  And.intro @List.getD_cons_succ.{0} <|
  And.intro @List.all_cons.{0} <|
  And.intro @List.all_nil.{0} <|
  And.intro @List.drop_zero.{0} <|
  And.intro @List.drop_succ_cons.{0} <|
  And.intro @List.take_zero.{0} <|
  And.intro @List.take_succ_cons.{0} <|
  And.intro @List.take_nil.{0} <|
  And.intro @List.drop_nil.{0} <|
  And.intro @List.cons_append.{0} <|
  And.intro @List.nil_append.{0} <|
  And.intro @List.append_nil.{0} <|
  And.intro @List.set_cons_zero.{0} <|
  And.intro @List.set_cons_succ.{0} <|
  And.intro @List.getElem?_cons_zero.{0} <|
  And.intro @List.getElem?_cons_succ.{0} <|
  And.intro @List.map_cons.{0, 0} <|
  And.intro @List.map_nil.{0, 0} <|
  And.intro @List.take_length.{0} <|
  And.intro @List.replicate_zero.{0} <|
  And.intro @List.flatten_nil.{0} <|
  And.intro @Bool.and_true <|
  And.intro @Bool.true_and <|
  And.intro @Bool.and_false <|
  And.intro @Bool.false_and <|
  And.intro @Bool.not_true <|
  And.intro @Bool.not_false <|
  And.intro @and_true <|
  And.intro @true_and <|
  And.intro @and_false <|
  And.intro @false_and <|
  And.intro @or_true <|
  And.intro @true_or <|
  And.intro @or_false <|
  And.intro @false_or <|
  And.intro @not_true_eq_false <|
  And.intro @not_false_eq_true <|
  And.intro @ne_eq.{1} <|
  And.intro @Nat.zero_add <|
  And.intro @Nat.add_zero <|
  And.intro @Nat.zero_mul <|
  And.intro @Nat.mul_one <|
  And.intro @Nat.one_mul <|
  And.intro @Nat.mul_zero <|
  And.intro @Nat.sub_zero <|
  And.intro @Nat.le_refl <|
  And.intro @Nat.zero_le <|
  And.intro @Nat.min_self <|
  And.intro @Int.toNat_natCast <|
  And.intro @Int.toNat_zero <|
  And.intro @Option.map_some.{0, 0} <|
  And.intro @Option.map_none.{0, 0} <|
  And.intro @decide_true <|
  And.intro @decide_false <|
  And.intro @Nat.sub_self <|
  And.intro @vi_len <|
  And.intro @vb_len <|
  And.intro @vt_len <|
  And.intro @vi_get <|
  And.intro @vb_get <|
  And.intro @vt_get <|
  And.intro @vi_set <|
  And.intro @vb_set <|
  And.intro @vt_set <|
  And.intro @vi_take <|
  And.intro @vb_take <|
  And.intro @vt_take <|
  And.intro @vi_drop <|
  And.intro @vb_drop <|
  And.intro @vt_drop <|
  And.intro @vi_app <|
  And.intro @vi_one <|
  And.intro @vb_one <|
  And.intro @vt_one <|
  And.intro @vi_all <|
  And.intro @vb_all <|
  And.intro @vt_all <|
  And.intro @vi_own <|
  And.intro @vb_own <|
  And.intro @vt_own <|
  And.intro @vi_vws <|
  And.intro @vb_vws <|
  And.intro @vt_vws <|
  And.intro @vi_dvs <|
  And.intro @vb_dvs <|
  And.intro @vt_dvs <|
  And.intro @vi_clo <|
  And.intro @vb_clo <|
  And.intro @vt_clo <|
  And.intro @vi_nrf <|
  And.intro @vb_nrf <|
  And.intro @vt_nrf <|
  And.intro @vi_fin <|
  And.intro @vb_fin <|
  And.intro @vt_fin <|
  And.intro @vi_rep <|
  And.intro @vb_rep <|
  And.intro @vt_rep <|
  And.intro @ofVals_ints <|
  And.intro @ofVals_bools <|
  And.intro @ofVals_strs <|
  And.intro @ofVals_app <|
  And.intro @vi_nil <|
  And.intro @vb_nil <|
  And.intro @vt_nil <|
  And.intro @take_vi <|
  And.intro @take_vb <|
  And.intro @drop_vi <|
  And.intro @drop_vb <|
  And.intro @le_maxLen' @nat_le_maxLen
set_option linter.defProp false in
def ER := And.intro @Rq_of' <| And.intro @wrap_i64_of <| And.intro @wrap_u8_of <| And.intro @wrap_u64_of @wrap_i32_of
end
section
open Go.RowKit Go.ChangeShapes Go.WideShapes
set_option linter.constructorNameAsVariable false
inductive Ty where
  | bool
  | int (k : IntKind)
  | str
  | sl (e : Ty)
  | st (l : List Ty)
  | arr (n : Nat) (e : Ty)
mutual
def Ty.sz : Ty → Nat
  | .st l => Ty.szs l
  | .arr n e => n * e.sz
  | .bool => 1
  | .int _ => 1
  | .str => 1
  | .sl _ => 1
def Ty.szs : List Ty → Nat
  | [] => 0
  | t :: l => t.sz + Ty.szs l
end
def tyFs (P : Program) (sub : TypeId → Option Ty) : List Field → Nat → Option (List Ty)
  | [], _ => some []
  | f :: r, off => if f.offset = off then (sub f.type).bind fun T => if P.cellsOf f.type = T.sz then (tyFs P sub r (off + T.sz)).map (T :: ·) else none else none
def tyOf (P : Program) : Nat → TypeId → Option Ty
  | 0, _ => none
  | d + 1, t => match P.underlying t with
    | some .bool => some .bool
    | some (.int k) => some (.int k)
    | some .string => some .str
    | some (.slice e) => (tyOf P d e).bind fun T => if P.cellsOf e = T.sz ∧ 0 < T.sz then some (.sl T) else none
    | some (.struct fs) => (tyFs P (tyOf P d) fs.toList 0).bind fun l => if P.cellsOf t = Ty.szs l then some (.st l) else none
    | some (.array n e) => (tyOf P d e).bind fun T => if P.cellsOf e = T.sz ∧ P.cellsOf t = n * T.sz then some (.arr n T) else none
    | _ => none
mutual
def Ty.fits : Ty → List V → Prop
  | .bool, l => ∃ b, l = [.bool b]
  | .int k, l => ∃ n, l = [.int k n] ∧ k.min ≤ n ∧ n ≤ k.max
  | .str, l => ∃ s, l = [.str s] ∧ s.length ≤ maxLen
  | .sl e, l => ∃ xs : List (List V), l = [.sl xs.length xs.flatten] ∧ xs.length ≤ maxLen ∧ ∀ x ∈ xs, e.fits x
  | .st ts, l => Ty.fitss ts l
  | .arr n e, l => ∃ xs : List (List V), xs.length = n ∧ l = xs.flatten ∧ ∀ x ∈ xs, e.fits x
def Ty.fitss : List Ty → List V → Prop
  | [], l => l = []
  | t :: ts, l => ∃ a b, l = a ++ b ∧ t.fits a ∧ Ty.fitss ts b
end
def Ty.isAgg : Ty → Bool
  | .st _ | .arr .. => true
  | _ => false
def Ty.ok (T : Ty) (v : V) : Prop := if T.isAgg = true then ∃ l, v = .agg l ∧ T.fits l else T.fits [v]
def Ty.oks : List Ty → List V → Prop
  | [], vs => vs = []
  | T :: Ts, vs => ∃ v r, vs = v :: r ∧ T.ok v ∧ Ty.oks Ts r
def whole (w : World) : H := fun b => match w.heap[b]? with
  | some (.cells c e _) => some (.row false e c.toList 0)
  | _ => none
theorem whole_cell {w : World} {a : Addr} {v : Value} (h : w.cell? a = some v) : a.spot = none ∧ ∃ c e, whole w a.block = some (.row false e c 0) ∧ c[a.off]? = some v := by
  unfold World.cell? at h
  split at h
  · rename_i c e fr hb
    split at h
    · cases h
    · rename_i hs
      refine ⟨by simpa using hs, c.toList, e, by simp [whole, hb], by simpa using h⟩
  · cases h
theorem cells_seg {w : World} {base : Nat} {b o : Nat} {c : List Value} {e : TypeId} (hb : whole w b = some (.row false e c 0)) {n : Nat} {r : List Value} (h : w.cells? base ⟨b, o, none⟩ n = some r) :
    r.length = n ∧ r = (c.drop o).take n ∧ (n ≠ 0 → o + n ≤ c.length) := by
  unfold World.cells? at h
  split at h
  · obtain ⟨hl, hg⟩ := mapM_get h
    rw [List.length_range] at hl
    have key : ∀ i, i < n → r[i]? = c[o + i]? := fun i hi => by
      have hr : r[i]? = some (r[i]'(by omega)) := List.getElem?_eq_getElem (by omega)
      obtain ⟨x, hx, hc⟩ := hg i _ hr
      rw [List.getElem?_range hi] at hx
      cases hx
      rw [addr_add] at hc
      obtain ⟨_, c', e', h1, h2⟩ := whole_cell hc
      simp only at h1 h2
      rw [hb] at h1
      cases h1
      rw [hr, h2]
    refine ⟨hl, ?_, fun hn => ?_⟩
    · apply List.ext_getElem?
      intro i
      rw [List.getElem?_take]
      split
      · rename_i hi; rw [List.getElem?_drop]; exact key i hi
      · rw [List.getElem?_eq_none (by omega)]
    · have := key (n - 1) (by omega)
      have hr : r[n - 1]? = some (r[n - 1]'(by omega)) := List.getElem?_eq_getElem (by omega)
      rw [hr] at this
      rcases Nat.lt_or_ge (o + (n - 1)) c.length with h | h
      · omega
      · rw [List.getElem?_eq_none h] at this; cases this
  · cases h
section
variable {HH : Type} {enc : TypeId × Value → HH} {P : Program} {w : World}
theorem segs {F : H} {T : Ty} {sz : Nat} {cs : List Value} : ∀ (n : Nat), n * sz ≤ cs.length → (∀ i, i < n → ∃ l, T.fits l ∧ RL ι0 F l ((cs.drop (i * sz)).take sz)) →
    ∃ xs : List (List V), xs.length = n ∧ (∀ x ∈ xs, T.fits x) ∧ RL ι0 F xs.flatten (cs.take (n * sz))
  | 0, _, _ => ⟨[], rfl, by simp, by simp [RL]⟩
  | n + 1, hn, h => by
    rw [Nat.add_mul, Nat.one_mul] at hn
    obtain ⟨xs, h1, h2, h3⟩ := segs n (by omega) (fun i hi => h i (by omega))
    obtain ⟨l, h4, h5⟩ := h n (by omega)
    refine ⟨xs ++ [l], by simp [h1], ?_, ?_⟩
    · intro x hx
      rcases List.mem_append.1 hx with hx | hx
      · exact h2 x hx
      · simp at hx; rw [hx]; exact h4
    · rw [List.flatten_append, Nat.add_mul, Nat.one_mul, List.take_add]
      simpa using RL_append h3 h5
theorem mapM_at {β : Type} {f : Nat → Option β} {n : Nat} {r : List β} (h : (List.range n).mapM f = some r) : r.length = n ∧ ∀ i, i < n → ∃ y, f i = some y := by
  obtain ⟨hl, hg⟩ := mapM_get h
  rw [List.length_range] at hl
  refine ⟨hl, fun i hi => ?_⟩
  have hr : r[i]? = some (r[i]'(by omega)) := List.getElem?_eq_getElem (by omega)
  obtain ⟨x, hx, hc⟩ := hg i _ hr
  rw [List.getElem?_range hi] at hx
  cases hx
  exact ⟨_, hc⟩
theorem addr_add' {a : Addr} (hs : a.spot = none) (n : Nat) : a.add n = ⟨a.block, a.off + n, none⟩ := by
  cases a; simp only at hs; subst hs; exact addr_add _ _ _
abbrev trd (enc : TypeId × Value → HH) (P : Program) (w : World) := DataW.trod enc P w 0 (fun _ => true) true
theorem trod_bool {t : TypeId} (hu : P.underlying t = some .bool) {fuel : Nat} {cs : List Value} {x : DataW HH × List MemPlace} (h : trd enc P w (fuel + 1) t cs = some x) : ∃ b, cs = [.bool b] := by
  unfold trd DataW.trod at h
  rw [hu] at h
  split at h <;> first | exact ⟨_, rfl⟩ | simp_all
theorem trod_int {t : TypeId} {k : IntKind} (hu : P.underlying t = some (.int k)) {fuel : Nat} {cs : List Value} {x : DataW HH × List MemPlace} (h : trd enc P w (fuel + 1) t cs = some x) :
    ∃ n, cs = [.int k n] ∧ k.min ≤ n ∧ n ≤ k.max := by
  unfold trd DataW.trod at h
  rw [hu] at h
  split at h <;> first | (rename_i he; cases he; done) | skip
  all_goals try (simp_all; done)
  rename_i k0 k' n he
  cases he
  split at h
  · rename_i hc
    obtain ⟨rfl, hw⟩ := hc
    refine ⟨n, rfl, ?_⟩
    simpa [Lit.wf] using hw
  · cases h
theorem trod_str {t : TypeId} (hu : P.underlying t = some .string) {fuel : Nat} {cs : List Value} {x : DataW HH × List MemPlace} (h : trd enc P w (fuel + 1) t cs = some x) : ∃ s, cs = [.string s] ∧ s.size ≤ maxLen := by
  unfold trd DataW.trod at h
  rw [hu] at h
  split at h <;> first | (rename_i he; cases he; done) | skip
  all_goals try (simp_all; done)
theorem trod_slice {t e : TypeId} (hu : P.underlying t = some (.slice e)) {fuel : Nat} {cs : List Value} {x : DataW HH × List MemPlace} (h : trd enc P w (fuel + 1) t cs = some x) :
    cs = [.slice none 0 0] ∨ ∃ a len cap, cs = [.slice (some a) len cap] ∧ len ≤ cap ∧ cap ≤ maxLen ∧ ∀ i, i < len → ∃ y, (w.cells? 0 (a.add (i * P.cellsOf e)) (P.cellsOf e)).bind (trd enc P w fuel e) = some y := by
  unfold trd DataW.trod at h
  rw [hu] at h
  split at h <;> first | (rename_i he; cases he; done) | skip
  all_goals try (simp_all; done)
  rename_i e0 a len cap he
  cases he
  split at h
  · rename_i hc
    refine .inr ⟨a, len, cap, rfl, hc.2.1, hc.2.2, ?_⟩
    simp only [Option.bind_eq_some_iff] at h
    obtain ⟨elems, hel, _⟩ := h
    exact (mapM_at hel).2
  · cases h
theorem trod_struct {t : TypeId} {fs : Array Field} (hu : P.underlying t = some (.struct fs)) {fuel : Nat} {cs : List Value} {x : DataW HH × List MemPlace} (h : trd enc P w (fuel + 1) t cs = some x) :
    cs.length = P.cellsOf t ∧ ∃ r, (fs.toList.mapM fun f => trd enc P w fuel f.type ((cs.drop f.offset).take (P.cellsOf f.type))) = some r := by
  unfold trd DataW.trod at h
  rw [hu] at h
  split at h <;> first | (rename_i he; cases he; done) | skip
  all_goals try (simp_all; done)
  rename_i fs0 he
  cases he
  split at h
  · rename_i hc
    simp only [Option.map_eq_some_iff] at h
    obtain ⟨r, hr, _⟩ := h
    exact ⟨hc, r, hr⟩
  · cases h
theorem trod_array {t e : TypeId} {n : Nat} (hu : P.underlying t = some (.array n e)) {fuel : Nat} {cs : List Value} {x : DataW HH × List MemPlace} (h : trd enc P w (fuel + 1) t cs = some x) :
    cs.length = P.cellsOf t ∧ ∀ i, i < n → ∃ y, trd enc P w fuel e ((cs.drop (i * P.cellsOf e)).take (P.cellsOf e)) = some y := by
  unfold trd DataW.trod at h
  rw [hu] at h
  split at h <;> first | (rename_i he; cases he; done) | skip
  all_goals try (simp_all; done)
  rename_i n0 e0 he
  cases he
  split at h
  · rename_i hc
    simp only [Option.map_eq_some_iff] at h
    obtain ⟨r, hr, _⟩ := h
    exact ⟨hc, (mapM_at hr).2⟩
  · cases h
theorem fields_fit {sub : TypeId → Option Ty} {g : TypeId → List Value → Option (DataW HH × List MemPlace)}
    (hsub : ∀ t T, sub t = some T → ∀ cs x, g t cs = some x → ∃ l, T.fits l ∧ RL ι0 (whole w) l cs) :
    ∀ (fs : List Field) (off : Nat) {Ts : List Ty}, tyFs P sub fs off = some Ts → ∀ {cs : List Value} {r}, (fs.mapM fun f => g f.type ((cs.drop f.offset).take (P.cellsOf f.type))) = some r →
      off + Ty.szs Ts = cs.length → ∃ l, Ty.fitss Ts l ∧ RL ι0 (whole w) l (cs.drop off)
  | [], off, Ts, hT, cs, r, hr, hl => by
    simp only [tyFs, Option.some.injEq] at hT
    subst hT
    simp only [Ty.szs] at hl
    exact ⟨[], by simp [Ty.fitss], by rw [List.drop_eq_nil_of_le (by omega)]; simp [RL]⟩
  | f :: fs, off, Ts, hT, cs, r, hr, hl => by
    simp only [tyFs] at hT
    split at hT
    · rename_i ho
      simp only [Option.bind_eq_some_iff] at hT
      obtain ⟨T, hsT, hT⟩ := hT
      split at hT
      · rename_i hsz
        simp only [Option.map_eq_some_iff] at hT
        obtain ⟨Ts', hTs, rfl⟩ := hT
        simp only [Ty.szs] at hl
        rw [List.mapM_cons] at hr
        cases hg : g f.type ((cs.drop f.offset).take (P.cellsOf f.type)) with
        | none => simp [hg] at hr
        | some y =>
          cases hm : fs.mapM fun f => g f.type ((cs.drop f.offset).take (P.cellsOf f.type)) with
          | none => simp [hg, hm] at hr
          | some r' =>
            obtain ⟨l1, h1, h2⟩ := hsub _ _ hsT _ _ hg
            obtain ⟨l2, h3, h4⟩ := fields_fit hsub fs (off + T.sz) hTs hm (by omega)
            refine ⟨l1 ++ l2, by simp only [Ty.fitss]; exact ⟨l1, l2, rfl, h1, h3⟩, ?_⟩
            have := RL_append h2 h4
            rw [ho, hsz] at this
            have he : cs.drop off = (cs.drop off).take T.sz ++ cs.drop (off + T.sz) := by
              rw [← List.drop_drop, List.take_append_drop]
            rw [he]; exact this
      · cases hT
    · cases hT
set_option maxRecDepth 10000 in
theorem trod_fits : ∀ (d : Nat) {T : Ty} {t : TypeId}, tyOf P d t = some T → ∀ (fuel : Nat) {cs : List Value} {x : DataW HH × List MemPlace},
    trd enc P w fuel t cs = some x → ∃ l, T.fits l ∧ RL ι0 (whole w) l cs
  | 0, T, t, hT, fuel, cs, x, h => by simp [tyOf] at hT
  | d + 1, T, t, hT, 0, cs, x, h => by simp [DataW.trod] at h
  | d + 1, T, t, hT, fuel + 1, cs, x, h => by
    simp only [tyOf] at hT
    split at hT
    · rename_i hu
      cases hT
      obtain ⟨b, rfl⟩ := trod_bool hu h
      exact ⟨[.bool b], by simp [Ty.fits], by simp [RL, R]⟩
    · rename_i k hu
      cases hT
      obtain ⟨n, rfl, h1, h2⟩ := trod_int hu h
      exact ⟨[.int k n], by simp [Ty.fits, h1, h2], by simp [RL, R]⟩
    · rename_i hu
      cases hT
      obtain ⟨s, rfl, h1⟩ := trod_str hu h
      exact ⟨[.str s.data.toList], by simp only [Ty.fits]; exact ⟨_, rfl, by rw [Array.length_toList]; exact h1⟩, by simp [RL, R]⟩
    · rename_i e hu
      simp only [Option.bind_eq_some_iff] at hT
      obtain ⟨E, hE, hT⟩ := hT
      split at hT
      · rename_i hsz
        cases hT
        rcases trod_slice hu h with rfl | ⟨a, len, cap, rfl, h1, h2, h3⟩
        · refine ⟨[.sl 0 []], by simp only [Ty.fits]; exact ⟨[], rfl, Nat.zero_le _, by simp⟩, ?_⟩
          simp [RL, R]
        · by_cases hlen : len = 0
          · subst hlen
            refine ⟨[.sl 0 []], by simp only [Ty.fits]; exact ⟨[], rfl, Nat.zero_le _, by simp⟩, ?_⟩
            simp [RL, R]
          · -- where it lies
            have hcell : ∀ i, i < len → ∃ cs', w.cells? 0 (a.add (i * E.sz)) E.sz = some cs' ∧ ∃ y, trd enc P w fuel e cs' = some y := fun i hi => by
              obtain ⟨y, hy⟩ := h3 i hi
              rw [hsz.1] at hy
              simp only [Option.bind_eq_some_iff] at hy
              obtain ⟨cs', h4, h5⟩ := hy
              exact ⟨cs', h4, y, h5⟩
            obtain ⟨c0, hc0, _⟩ := hcell 0 (by omega)
            have hw0 : ∃ v, w.cell? a = some v := by
              unfold World.cells? at hc0
              split at hc0
              · obtain ⟨_, hg⟩ := mapM_at hc0
                obtain ⟨y, hy⟩ := hg 0 hsz.2
                exact ⟨y, by simpa [Addr.add] using hy⟩
              · cases hc0
            obtain ⟨v0, hv0⟩ := hw0
            obtain ⟨hs, c, ee, hb, _⟩ := whole_cell hv0
            have hseg : ∀ i, i < len → ∃ cs', cs' = (c.drop (a.off + i * E.sz)).take E.sz ∧ a.off + i * E.sz + E.sz ≤ c.length ∧ ∃ y, trd enc P w fuel e cs' = some y := fun i hi => by
              obtain ⟨cs', h4, h5⟩ := hcell i hi
              rw [addr_add' hs] at h4
              obtain ⟨_, h6, h7⟩ := cells_seg hb h4
              exact ⟨cs', h6, h7 (by omega), h5⟩
            obtain ⟨_, _, hend, _⟩ := hseg (len - 1) (by omega)
            have hend' : a.off + len * E.sz ≤ c.length := by
              have : len * E.sz = (len - 1) * E.sz + E.sz := by
                conv => lhs; rw [show len = (len - 1) + 1 by omega]
                rw [Nat.add_mul, Nat.one_mul]
              omega
            obtain ⟨xs, g1, g2, g3⟩ := segs (F := whole w) (T := E) (sz := E.sz) (cs := c.drop a.off) len (by simp; omega) (fun i hi => by
              obtain ⟨cs', h4, _, y, h5⟩ := hseg i hi
              rw [List.drop_drop, ← h4]
              exact trod_fits d hE fuel h5)
            have hxl := RL_len g3
            rw [List.length_take, List.length_drop] at hxl
            refine ⟨[.sl len xs.flatten], by simp only [Ty.fits]; exact ⟨xs, by rw [g1], by omega, g2⟩, ?_⟩
            simp only [RL]
            refine ⟨_, [], rfl, ?_, rfl⟩
            simp only [R]
            refine .inr ⟨a.block, a.off, cap, ?_, h1, .inr ⟨false, ee, c, 0, hb, by omega, ?_⟩⟩
            · cases a; simp only at hs; subst hs; rfl
            · rw [show xs.flatten.length = len * E.sz by omega]; exact g3
      · cases hT
    · rename_i fs hu
      simp only [Option.bind_eq_some_iff] at hT
      obtain ⟨Ts, hTs, hT⟩ := hT
      split at hT
      · rename_i hsz
        cases hT
        obtain ⟨h1, r, h2⟩ := trod_struct hu h
        obtain ⟨l, h3, h4⟩ := fields_fit (fun t T hT cs x hx => trod_fits d hT fuel hx) fs.toList 0 hTs h2 (by omega)
        exact ⟨l, by simpa only [Ty.fits] using h3, by simpa using h4⟩
      · cases hT
    · rename_i n e hu
      simp only [Option.bind_eq_some_iff] at hT
      obtain ⟨E, hE, hT⟩ := hT
      split at hT
      · rename_i hsz
        cases hT
        obtain ⟨h1, h2⟩ := trod_array hu h
        rw [hsz.1] at h2
        obtain ⟨xs, g1, g2, g3⟩ := segs (F := whole w) (T := E) (sz := E.sz) (cs := cs) n (by omega) (fun i hi => by
          obtain ⟨y, hy⟩ := h2 i hi
          exact trod_fits d hE fuel hy)
        refine ⟨xs.flatten, by simp only [Ty.fits]; exact ⟨xs, g1, rfl, g2⟩, ?_⟩
        rwa [List.take_of_length_le (by omega)] at g3
      · cases hT
    · cases hT
theorem arg_tree {d : Nat} {T : Ty} {t : TypeId} (hT : tyOf P d t = some T) {base : Nat} {v : Value} (hv : Value.okWide P w .any base t v) {x : DataW HH} {ps : List MemPlace}
    (h : DataW.Trod enc P w 0 (fun _ => true) true t v x ps) : ∃ y, T.ok y ∧ R ι0 (whole w) y v := by
  obtain ⟨fuel, h⟩ := h
  obtain ⟨l, h1, h2⟩ := trod_fits d hT fuel h
  cases d with
  | zero => simp [tyOf] at hT
  | succ d =>
    simp only [tyOf] at hT
    simp only [Value.okWide] at hv
    have one : T.isAgg = false → v.cells.toList = [v] → ∃ y, T.ok y ∧ R ι0 (whole w) y v := fun ha hc => by
      rw [hc] at h2
      have hl := RL_len h2
      match l, hl, h1, h2 with
      | [y], _, h1, h2 =>
        simp only [RL] at h2
        obtain ⟨v', r', he, hr, _⟩ := h2
        simp only [List.cons.injEq] at he
        obtain ⟨rfl, rfl⟩ := he
        exact ⟨y, by simp only [Ty.ok, ha]; exact h1, hr⟩
    have agg : T.isAgg = true → ∀ cs, v = .agg cs → ∃ y, T.ok y ∧ R ι0 (whole w) y v := fun ha cs hc => by
      subst hc
      refine ⟨.agg l, by simp only [Ty.ok, ha, if_true]; exact ⟨l, rfl, h1⟩, ?_⟩
      simp only [R]
      exact ⟨cs.toList, rfl, h2⟩
    split at hT
    · rename_i hu
      cases hT
      rw [hu] at hv
      simp only [Cell.okWide, hu] at hv
      refine one rfl ?_
      cases v <;> first | rfl | simp_all [Cell.ok]
    · rename_i k hu
      cases hT
      rw [hu] at hv
      simp only [Cell.okWide, hu] at hv
      refine one rfl ?_
      cases v <;> first | rfl | simp_all [Cell.ok]
    · rename_i hu
      cases hT
      rw [hu] at hv
      simp only [Cell.okWide, hu] at hv
      refine one rfl ?_
      cases v <;> first | rfl | simp_all [Cell.ok]
    · rename_i e hu
      simp only [Option.bind_eq_some_iff] at hT
      obtain ⟨E, hE, hT⟩ := hT
      split at hT
      · cases hT
        rw [hu] at hv
        simp only [Cell.okWide, hu] at hv
        refine one rfl ?_
        cases v <;> first | rfl | simp_all [Cell.ok]
      · cases hT
    · rename_i fs hu
      simp only [Option.bind_eq_some_iff] at hT
      obtain ⟨E, hE, hT⟩ := hT
      split at hT
      · cases hT
        rw [hu] at hv
        obtain ⟨cs, rfl, _⟩ := hv
        exact agg rfl cs rfl
      · cases hT
    · rename_i n e hu
      simp only [Option.bind_eq_some_iff] at hT
      obtain ⟨E, hE, hT⟩ := hT
      split at hT
      · cases hT
        rw [hu] at hv
        obtain ⟨cs, rfl, _⟩ := hv
        exact agg rfl cs rfl
      · cases hT
    · cases hT
def tysOf (P : Program) (d : Nat) : List TypeId → Option (List Ty)
  | [] => some []
  | t :: ts => (tyOf P d t).bind fun T => (tysOf P d ts).map (T :: ·)
theorem args_tree {d base : Nat} : ∀ {ts : List TypeId} {Ts : List Ty} {vs : List Value} {ds : List (DataW HH)} {ps : List MemPlace}, tysOf P d ts = some Ts →
    (∀ (j : Nat) t v, ts[j]? = some t → vs[j]? = some v → Value.okWide P w .any base t v) → DataW.TrodAll enc P w 0 (fun _ => true) true ts vs ds ps → ∃ ys, Ty.oks Ts ys ∧ RL ι0 (whole w) ys vs
  | [], Ts, vs, ds, ps, hT, hv, h => by
    simp only [tysOf, Option.some.injEq] at hT
    subst hT
    cases vs with
    | nil => exact ⟨[], rfl, by simp [RL]⟩
    | cons => cases ds <;> simp [DataW.TrodAll] at h
  | t :: ts, Ts, vs, ds, ps, hT, hv, h => by
    simp only [tysOf, Option.bind_eq_some_iff, Option.map_eq_some_iff] at hT
    obtain ⟨T, h1, Ts', h2, rfl⟩ := hT
    obtain ⟨v, vs', x, ds', p, q, rfl, rfl, rfl, h3, h4⟩ := trodAll_cons h
    obtain ⟨y, h5, h6⟩ := arg_tree h1 (hv 0 t v rfl rfl) h3
    obtain ⟨ys, h7, h8⟩ := args_tree h2 (fun j t' v' hj hj' => hv (j + 1) t' v' hj hj') h4
    exact ⟨y :: ys, ⟨y, ys, rfl, h5, h7⟩, by simp only [RL]; exact ⟨v, vs', rfl, h6, h8⟩⟩
theorem whole_sat (w : World) : Sat ⟨w.heap.size, fun _ => True, 0⟩ w w (whole w) := by
  refine ⟨Below.refl _ _, Nat.le_refl _, fun b k hb => ?_, Nat.zero_le _, fun _ _ => .inl trivial⟩
  unfold whole at hb
  split at hb
  · rename_i c e fr ho
    simp only [Option.some.injEq] at hb
    subst hb
    refine ⟨⟨_, ho, c, fr, rfl, by simp, by rw [Array.length_toList, ← Array.length_toList, List.take_length], (fun h => by cases h), (fun h => by cases h)⟩, (fun h => by cases h)⟩
  · cases hb
theorem law_calls {P : Program} {HH : Type} {enc : TypeId × Value → HH} {d : Nat} {k : FuncId} {fn : Func} {Ts : List Ty} (hT : tysOf P d fn.params.toList = some Ts) (hs : ∀ xs, Ty.oks Ts xs → PSpec P k xs fun r => r = .bool true)
    {vars : List String} {W : World} {base : Nat} {args : Array Value} {ds gs : List (DataW HH)} {before : List MemPlace} (hval : ∀ (j : Nat) t v, fn.params[j]? = some t → args[j]? = some v → Value.okWide P W .any base t v)
    (hW : DataW.Whole enc P fn.params.toList vars false W args.toList ds gs before) : Calls P k args W fun e w' => e = .returned (.bool true) ∧ Below W.heap.size W w' := by
  obtain ⟨p, q, hA, _, _, _, _⟩ := hW
  obtain ⟨ys, h1, h2⟩ := args_tree hT (fun j t v hj hj' => hval j t v (by simpa using hj) (by simpa using hj')) hA
  have h3 := hs ys h1 (whole W) args.toList h2 (whole W) (fun _ _ h => h) _ W W (whole_sat W)
  refine h3.mono fun e w' ⟨r, dd, he, ⟨v, hv, ho⟩, _, hs⟩ => ⟨?_, hs.below⟩
  subst hv
  simp only [OV, R] at ho
  rw [he, ho.2]
def readables (P : Program) (ts : List TypeId) : Bool := ts.all fun t => P.readableRec t && decide (t < P.types.size)
theorem trodAll_below {P : Program} {HH : Type} {enc : TypeId × Value → HH} (hl : laidOutB P = true) {W W' : World} (hb : Below W.heap.size W W') :
    ∀ {ts : List TypeId} {vs : List Value} {ds : List (DataW HH)} {ps : List MemPlace}, readables P ts = true → DataW.TrodAll enc P W 0 (fun _ => true) true ts vs ds ps →
    DataW.TrodAll enc P W' 0 (fun b => decide (b < W.heap.size)) true ts vs ds ps
  | [], vs, ds, ps, hr, h => by cases vs <;> cases ds <;> simp_all [DataW.TrodAll]
  | t :: ts, vs, ds, ps, hr, h => by
    obtain ⟨v, vs', x, ds', p, q, rfl, rfl, rfl, h3, h4⟩ := trodAll_cons h
    simp only [readables, List.all_cons, Bool.and_eq_true, decide_eq_true_eq] at hr
    refine trodAll_cons_mk (Below.trod hl hr.1.1 hr.1.2 h3 hb fun y hy => ?_) (trodAll_below hl hb hr.2 h4)
    obtain ⟨m, hm⟩ := h3; exact DataW.trod_lt m _ _ _ hm y hy
theorem trodAll_dlen {P : Program} {HH : Type} {enc : TypeId × Value → HH} {w : World} : ∀ {ts : List TypeId} {vs : List Value} {ds : List (DataW HH)} {ps : List MemPlace}, DataW.TrodAll enc P w 0 (fun _ => true) true ts vs ds ps → ds.length = ts.length
  | [], vs, ds, ps, h => by cases vs <;> cases ds <;> simp_all [DataW.TrodAll]
  | t :: ts, vs, ds, ps, h => by
    obtain ⟨v, vs', x, ds', p, q, rfl, rfl, rfl, h3, h4⟩ := trodAll_cons h
    simp [trodAll_dlen h4]
theorem law_post {P : Program} {HH : Type} {enc : TypeId × Value → HH} {fn : Func} {s : ChangeSpec} (hl : laidOutB P = true) (hr : readables P fn.params.toList = true) {tb : TypeId} (hres : fn.resultTypes = #[tb]) (htb : P.underlying tb = some .bool)
    (hvars : s.vars = []) (hfn : ∀ ds : List (DataW HH), ds.length = fn.params.toList.length → s.fn HH ds = { results := [.lit (.bool true)], args := ds })
    {W W' : World} {args : Array Value} {ds gs : List (DataW HH)} {before : List MemPlace} (hW : DataW.Whole enc P fn.params.toList s.vars false W args.toList ds gs before) (hb : Below W.heap.size W W') :
    s.post enc P fn false true false false W args (.bool true) W' := by
  have hW' := hW
  obtain ⟨p, q, hA, hV, _, _, _⟩ := hW
  rw [hvars] at hV
  obtain ⟨rfl, rfl⟩ := trodVars_none hV
  have hlen := trodAll_dlen hA
  refine ⟨ds, [], before, [], p, [], hW', ?_, ?_, ?_, hb.frame _, fun h => by cases h⟩
  · rw [List.append_nil, hfn ds hlen, hres]
    exact trodAll_mk1 (shut_bool htb _)
  · rw [List.append_nil, hfn ds hlen]
    exact trodAll_below hl hb hr hA
  · rw [List.append_nil, hfn ds hlen, hvars]
    rfl
end
end
section
set_option linter.constructorNameAsVariable false
structure Rec (α : Type) where
  enc : α → List Int
  sz : Nat
  len : ∀ a, (enc a).length = sz
  dflt : α
def vr {α : Type} (r : Rec α) (k : IntKind) (l : List α) : List V := (l.map fun a => vi k (r.enc a)).flatten
section
variable {α : Type} {r : Rec α} {k : IntKind} {l m : List α} {i n : Nat} {a : α} {h : Hp}
theorem vr_eq : vr r k l = vi k (l.map r.enc).flatten := by
  induction l with
  | nil => rfl
  | cons a l ih => simp only [vr, List.map_cons, List.flatten_cons] at ih ⊢; rw [ih, vi_app]
theorem vr_len : (vr r k l).length = l.length * r.sz := by
  induction l with
  | nil => simp [vr]
  | cons a l ih =>
    have : vr r k (a :: l) = vi k (r.enc a) ++ vr r k l := by simp [vr]
    rw [this, List.length_append, ih, vi_len, r.len, List.length_cons, Nat.add_mul]; omega
theorem vr_cons : vr r k (a :: l) = vi k (r.enc a) ++ vr r k l := by simp [vr]
theorem vr_app : vr r k l ++ vr r k m = vr r k (l ++ m) := by simp [vr]
theorem vr_drop : ∀ {l : List α} {i : Nat}, i ≤ l.length → (vr r k l).drop (i * r.sz) = vr r k (l.drop i)
  | l, 0, _ => by simp
  | [], i + 1, h => by simp at h
  | a :: l, i + 1, h => by
    rw [vr_cons, List.drop_succ_cons, ← vr_drop (l := l) (i := i) (by simp at h; exact h)]
    rw [show (i + 1) * r.sz = (vi k (r.enc a)).length + i * r.sz from by rw [vi_len, r.len, Nat.add_mul]; omega]
    rw [List.drop_append]
    simp
theorem vr_at (hi : i < l.length) : ((vr r k l).drop (i * r.sz)).take r.sz = vi k (r.enc (l.getD i r.dflt)) := by
  rw [vr_drop (Nat.le_of_lt hi), List.drop_eq_getElem_cons hi, vr_cons, List.take_left' (by rw [vi_len, r.len])]
  simp [List.getD, hi]
theorem vr_take : ∀ {l : List α} {i : Nat}, i ≤ l.length → (vr r k l).take (i * r.sz) = vr r k (l.take i)
  | l, 0, _ => by simp [vr]
  | [], i + 1, h => by simp at h
  | a :: l, i + 1, h => by
    rw [vr_cons, List.take_succ_cons, vr_cons, ← vr_take (l := l) (i := i) (by simp at h; exact h)]
    rw [show (i + 1) * r.sz = (vi k (r.enc a)).length + i * r.sz from by rw [vi_len, r.len, Nat.add_mul]; omega]
    rw [List.take_length_add_append]
theorem vr_set (hi : i < l.length) : (vr r k l).take (i * r.sz) ++ vi k (r.enc a) ++ (vr r k l).drop ((i + 1) * r.sz) = vr r k (l.set i a) := by
  rw [vr_take (Nat.le_of_lt hi), vr_drop hi, List.append_assoc, ← vr_cons, vr_app]
  congr 1
  rw [List.set_eq_take_append_cons_drop, if_pos hi]
theorem vr_all : (vr r k l).all cell1 = true := by rw [vr_eq, vi_all]
theorem vr_own : noOwn (vr r k l) = true := by rw [vr_eq, vi_own]
theorem vr_vws : vws (vr r k l) = vr r k l := by rw [vr_eq, vi_vws]
theorem vr_dvs : dvs h (vr r k l) = vr r k l := by rw [vr_eq, vi_dvs]
theorem vr_clo : clos (vr r k l) = true := by rw [vr_eq, vi_clo]
theorem vr_nrf : nrfs (vr r k l) = true := by rw [vr_eq, vi_nrf]
theorem vr_fin : folds (fin (n + 1)) h (vr r k l) = some (vr r k l, h) := by rw [vr_eq, vi_fin]
theorem vr_rep : (List.replicate n (vi k (r.enc a))).flatten = vr r k (List.replicate n a) := by simp [vr]
end
def R2 : Rec (Int × Int) := ⟨fun a => [a.1, a.2], 2, fun _ => rfl, (0, 0)⟩
def R3 : Rec (Int × Int × Int) := ⟨fun a => [a.1, a.2.1, a.2.2], 3, fun _ => rfl, (0, 0, 0)⟩
def v2 (k : IntKind) (l : List (Int × Int)) : List V := vr R2 k l
def v3 (k : IntKind) (l : List (Int × Int × Int)) : List V := vr R3 k l
def g2 (l : List (Int × Int)) (i : Nat) : Int × Int := l.getD i (0, 0)
def g3 (l : List (Int × Int × Int)) (i : Nat) : Int × Int × Int := l.getD i (0, 0, 0)
section
variable {k : IntKind} {l m : List (Int × Int)} {p q : List (Int × Int × Int)} {i n : Nat} {a b c : Int} {h : Hp}
theorem v2_len : (v2 k l).length = l.length * 2 := vr_len
theorem v3_len : (v3 k p).length = p.length * 3 := vr_len
theorem v2_at (hi : i < l.length) : ((v2 k l).drop (i * 2)).take 2 = [.int k (g2 l i).1, .int k (g2 l i).2] := vr_at (r := R2) hi
theorem v3_at (hi : i < p.length) : ((v3 k p).drop (i * 3)).take 3 = [.int k (g3 p i).1, .int k (g3 p i).2.1, .int k (g3 p i).2.2] := vr_at (r := R3) hi
theorem v2_app : v2 k l ++ v2 k m = v2 k (l ++ m) := vr_app
theorem v3_app : v3 k p ++ v3 k q = v3 k (p ++ q) := vr_app
theorem v2_one : v2 k l ++ [.int k a, .int k b] = v2 k (l ++ [(a, b)]) := by rw [← v2_app]; rfl
theorem v3_one : v3 k p ++ [.int k a, .int k b, .int k c] = v3 k (p ++ [(a, b, c)]) := by rw [← v3_app]; rfl
theorem v2_set' (hi : i < l.length) : List.take (i * 2) (v2 k l) ++ [.int k a, .int k b] ++ List.drop (i * 2 + 2) (v2 k l) = v2 k (l.set i (a, b)) := by
  have := vr_set (r := R2) (k := k) (a := (a, b)) hi
  rw [show (i + 1) * R2.sz = i * 2 + 2 from by show (i + 1) * 2 = _; omega] at this
  exact this
theorem v3_set' (hi : i < p.length) : List.take (i * 3) (v3 k p) ++ [.int k a, .int k b, .int k c] ++ List.drop (i * 3 + 3) (v3 k p) = v3 k (p.set i (a, b, c)) := by
  have := vr_set (r := R3) (k := k) (a := (a, b, c)) hi
  rw [show (i + 1) * R3.sz = i * 3 + 3 from by show (i + 1) * 3 = _; omega] at this
  exact this
theorem v2_set (hi : i < l.length) : setV (v2 k l) (i * 2) [.int k a, .int k b] = v2 k (l.set i (a, b)) := by
  rw [setV_more (by simp)]; exact v2_set' hi
theorem v3_set (hi : i < p.length) : setV (v3 k p) (i * 3) [.int k a, .int k b, .int k c] = v3 k (p.set i (a, b, c)) := by
  rw [setV_more (by simp)]; exact v3_set' hi
theorem v2_all : (v2 k l).all cell1 = true := vr_all
theorem v3_all : (v3 k p).all cell1 = true := vr_all
theorem v2_own : noOwn (v2 k l) = true := vr_own
theorem v3_own : noOwn (v3 k p) = true := vr_own
theorem v2_vws : vws (v2 k l) = v2 k l := vr_vws
theorem v3_vws : vws (v3 k p) = v3 k p := vr_vws
theorem v2_dvs : dvs h (v2 k l) = v2 k l := vr_dvs
theorem v3_dvs : dvs h (v3 k p) = v3 k p := vr_dvs
theorem v2_clo : clos (v2 k l) = true := vr_clo
theorem v3_clo : clos (v3 k p) = true := vr_clo
theorem v2_nrf : nrfs (v2 k l) = true := vr_nrf
theorem v3_nrf : nrfs (v3 k p) = true := vr_nrf
theorem v2_fin : folds (fin (n + 1)) h (v2 k l) = some (v2 k l, h) := vr_fin
theorem v3_fin : folds (fin (n + 1)) h (v3 k p) = some (v3 k p, h) := vr_fin
theorem v2_rep : (List.replicate n [V.int k a, V.int k b]).flatten = v2 k (List.replicate n (a, b)) := vr_rep (r := R2) (a := (a, b))
theorem v3_rep : (List.replicate n [V.int k a, V.int k b, V.int k c]).flatten = v3 k (List.replicate n (a, b, c)) := vr_rep (r := R3) (a := (a, b, c))
theorem v2_tk (hn : n = l.length * 2) : (v2 k l).take n = v2 k l := List.take_of_length_le (by rw [v2_len]; omega)
theorem v3_tk (hn : n = p.length * 3) : (v3 k p).take n = v3 k p := List.take_of_length_le (by rw [v3_len]; omega)
theorem v2_nil : v2 k [] = [] := rfl
theorem v3_nil : v3 k [] = [] := rfl
end
theorem getD_ext {α : Type} {d : α} {l m : List α} (h1 : l.length = m.length) (h2 : ∀ j, j < l.length → l.getD j d = m.getD j d) : l = m := by
  refine List.ext_getElem h1 fun j hj hk => ?_
  have := h2 j hj
  simpa [List.getD, hj, hk] using this
theorem gi_ext {l m : List Int} (h1 : l.length = m.length) (h2 : ∀ j, j < l.length → gi l j = gi m j) : l = m := getD_ext h1 h2
theorem all_getD {α : Type} {d : α} {p : α → Bool} {l : List α} : l.all p = true ↔ ∀ j, j < l.length → p (l.getD j d) = true := by
  rw [List.all_eq_true]
  refine ⟨fun h j hj => ?_, fun h x hx => ?_⟩
  · simp only [List.getD, hj, List.getElem?_eq_getElem, Option.getD_some]; exact h _ (List.getElem_mem hj)
  · obtain ⟨j, hj, rfl⟩ := List.getElem_of_mem hx
    have := h j hj
    simpa only [List.getD, hj, List.getElem?_eq_getElem, Option.getD_some] using this
theorem drop_getD {α : Type} {d : α} {l : List α} {i : Nat} (hi : i < l.length) : l.drop i = l.getD i d :: l.drop (i + 1) := by
  rw [List.drop_eq_getElem_cons hi]; simp [List.getD, hi]
theorem tk_all {α : Type} {l : List α} {n : Nat} (hn : l.length ≤ n) : l.take n = l := List.take_of_length_le hn
theorem dr_all {α : Type} {l : List α} {n : Nat} (hn : l.length ≤ n) : l.drop n = [] := List.drop_of_length_le hn
theorem tk_app {α : Type} {l r : List α} {n : Nat} (hn : l.length = n) : (l ++ r).take n = l := List.take_left' hn
theorem dr_app {α : Type} {l r : List α} {n : Nat} (hn : l.length = n) : (l ++ r).drop n = r := List.drop_left' hn
theorem dr_app2 {α : Type} {l r : List α} {n : Nat} (hn : l.length < n) : (l ++ r).drop n = r.drop (n - l.length) := by rw [List.drop_append, List.drop_of_length_le (Nat.le_of_lt hn), List.nil_append]
theorem tk_app2 {α : Type} {l r : List α} {n : Nat} (hn : l.length < n) : (l ++ r).take n = l ++ r.take (n - l.length) := by rw [List.take_append, List.take_of_length_le (Nat.le_of_lt hn)]
theorem setV_full {cs vs : List V} (h : cs.length = vs.length) : setV cs 0 vs = vs := by
  match vs, h with
  | [], h => simp [setV]; simpa using h
  | [v], h =>
    match cs, h with
    | [c], _ => rfl
  | v :: w :: l, h => simp [setV]; simp at h; omega
theorem setV_cv {x y : V} {k k' : IntKind} {l m : List Int} (h : l.length = m.length) : setV (x :: vi k l) 0 (y :: vi k' m) = y :: vi k' m := setV_full (by simp [vi_len, h])
theorem setV_vv {k k' : IntKind} {l m : List Int} (h : l.length = m.length) : setV (vi k l) 0 (vi k' m) = vi k' m := setV_full (by simp [vi_len, h])
theorem setV_bb {l m : List Bool} (h : l.length = m.length) : setV (vb l) 0 (vb m) = vb m := setV_full (by simp [vb_len, h])
theorem vb_cons {x : Bool} {l : List Bool} : V.bool x :: vb l = vb (x :: l) := rfl
theorem gi_c0 {a : Int} {l : List Int} : gi (a :: l) 0 = a := rfl
theorem gi_c1 {a b : Int} {l : List Int} : gi (a :: b :: l) 1 = b := rfl
theorem gi_c2 {a b c : Int} {l : List Int} : gi (a :: b :: c :: l) 2 = c := rfl
theorem getD_1 {x d : V} {l : List V} {k : Nat} : (x :: l).getD (1 + k) d = l.getD k d := by rw [Nat.add_comm]; rfl
theorem getD_17 {x d : V} {l : List V} {k : Nat} : (x :: l).getD (17 + k) d = l.getD (16 + k) d := by rw [show 17 + k = (16 + k) + 1 from by omega]; rfl
theorem set_1 {x v : V} {l : List V} {k : Nat} : (x :: l).set (1 + k) v = x :: l.set k v := by rw [Nat.add_comm]; rfl
theorem set_17 {x v : V} {l : List V} {k : Nat} : (x :: l).set (17 + k) v = x :: l.set (16 + k) v := by rw [show 17 + k = (16 + k) + 1 from by omega]; rfl
theorem gi_appl {l m : List Int} {i : Nat} (h : i < l.length) : gi (l ++ m) i = gi l i := by rw [gi_app, if_pos h]
theorem gi_appr {l m : List Int} {i : Nat} (h : l.length ≤ i) : gi (l ++ m) i = gi m (i - l.length) := by rw [gi_app, if_neg (by omega)]
theorem set_appl {l m : List Int} {i : Nat} {v : Int} (h : i < l.length) : (l ++ m).set i v = l.set i v ++ m := List.set_append_left _ _ h
theorem set_appr {l m : List Int} {i : Nat} {v : Int} (h : l.length ≤ i) : (l ++ m).set i v = l ++ m.set (i - l.length) v := List.set_append_right _ _ h
theorem prod_eta {α β : Type} {p : α × β} : (p.1, p.2) = p := rfl
set_option linter.defProp false in
set_option maxRecDepth 10000 in
def E2 := And.intro @prod_eta <| And.intro @getD_1 <| And.intro @getD_17 <| And.intro @set_1 <| And.intro @set_17 <| And.intro @gi_appl <| And.intro @gi_appr <| And.intro @set_appl <| And.intro @set_appr <| And.intro @Nat.add_sub_cancel_left <| And.intro @Nat.add_lt_add_iff_left <| And.intro @gi_c0 <| And.intro @gi_c1 <| And.intro @gi_c2 <| And.intro @setV_bb <| And.intro @vb_cons <| And.intro @vi_cons <| And.intro @tk_app2 <| And.intro @setV_cv <| And.intro @setV_vv <| And.intro @tk_app <| And.intro @dr_app <| And.intro @dr_app2 <| And.intro @tk_all <| And.intro @dr_all <| And.intro @v2_len <| And.intro @v3_len <| And.intro @v2_at <| And.intro @v3_at <| And.intro @v2_app <| And.intro @v3_app <| And.intro @v2_one <| And.intro @v3_one <| And.intro @v2_set <| And.intro @v3_set <| And.intro @v2_set' <| And.intro @v3_set' <|
  And.intro @v2_all <| And.intro @v3_all <| And.intro @v2_own <| And.intro @v3_own <| And.intro @v2_vws <| And.intro @v3_vws <| And.intro @v2_dvs <| And.intro @v3_dvs <| And.intro @v2_clo <| And.intro @v3_clo <|
  And.intro @v2_nrf <| And.intro @v3_nrf <| And.intro @v2_fin <| And.intro @v3_fin <| And.intro @v2_rep <| And.intro @v3_rep <| And.intro @v2_tk <| And.intro @v3_tk <| And.intro @v2_nil @v3_nil
theorem sc_vi {ns : List Nat} {k : IntKind} {l : List Int} : scvs ns (vi k l) = true := by induction l <;> simp_all [vi, scvs, scv]
theorem sc_vb {ns : List Nat} {l : List Bool} : scvs ns (vb l) = true := by induction l <;> simp_all [vb, scvs, scv]
theorem sc_vt {ns : List Nat} {l : List (List UInt8)} : scvs ns (vt l) = true := by induction l <;> simp_all [vt, scvs, scv]
theorem sc_v2 {ns : List Nat} {k : IntKind} {l : List (Int × Int)} : scvs ns (v2 k l) = true := by unfold v2; rw [vr_eq]; exact sc_vi
theorem sc_v3 {ns : List Nat} {k : IntKind} {l : List (Int × Int × Int)} : scvs ns (v3 k l) = true := by unfold v3; rw [vr_eq]; exact sc_vi
def vo (e : TypeId) (ls : List (List Int)) : List V := ls.map fun l => V.own e 1 l.length (vi .i64 l)
def vl (ls : List (List Int)) : List V := ls.map fun l => V.sl l.length (vi .i64 l)
def gl (ls : List (List Int)) (i : Nat) : List Int := ls.getD i []
section
variable {e : TypeId} {ls ms : List (List Int)} {l : List Int} {i n : Nat} {ns : List Nat} {h : Hp}
theorem vo_len : (vo e ls).length = ls.length := by simp [vo]
theorem vl_len : (vl ls).length = ls.length := by simp [vl]
theorem vo_get (hi : i < ls.length) : (vo e ls).getD i .und = .own e 1 (gl ls i).length (vi .i64 (gl ls i)) := by simp [vo, gl, List.getD, hi]
theorem vl_get (hi : i < ls.length) : (vl ls).getD i .und = .sl (gl ls i).length (vi .i64 (gl ls i)) := by simp [vl, gl, List.getD, hi]
theorem vo_one (hn : l.length = n) : vo e ls ++ [.own e 1 n (vi .i64 l)] = vo e (ls ++ [l]) := by subst hn; simp [vo]
theorem vo_set (hn : l.length = n) : (vo e ls).set i (.own e 1 n (vi .i64 l)) = vo e (ls.set i l) := by subst hn; simp [vo, List.map_set]
theorem vo_take : (vo e ls).take n = vo e (ls.take n) := by simp [vo, List.map_take]
theorem vl_take : (vl ls).take n = vl (ls.take n) := by simp [vl, List.map_take]
theorem vo_drop : (vo e ls).drop n = vo e (ls.drop n) := by simp [vo, List.map_drop]
theorem vl_drop : (vl ls).drop n = vl (ls.drop n) := by simp [vl, List.map_drop]
theorem vl_all : (vl ls).all cell1 = true := by simp [vl, cell1]
theorem vl_own : noOwn (vl ls) = true := by simp [noOwn, vl, plain1]
theorem vo_vws : vws (vo e ls) = vl ls := by induction ls <;> simp_all [vo, vl, vws, vw, vi_vws]
theorem vl_vws : vws (vl ls) = vl ls := by induction ls <;> simp_all [vl, vws, vw, vi_vws]
theorem vl_dvs : dvs h (vl ls) = vl ls := by induction ls <;> simp_all [vl, dvs, dv, vi_vws]
theorem vo_clo : clos (vo e ls) = true := by induction ls <;> simp_all [vo, clos, clo, vi_clo]
theorem vo_nrf : nrfs (vo e ls) = true := by induction ls <;> simp_all [vo, nrfs, nrf, vi_nrf]
theorem vl_nrf : nrfs (vl ls) = true := by induction ls <;> simp_all [vl, nrfs, nrf, vi_nrf]
theorem vo_fin : folds (fin (n + 1)) h (vo e ls) = some (vo e ls, h) := folds_still (by simp [vo, still])
theorem vl_fin : folds (fin (n + 1)) h (vl ls) = some (vl ls, h) := folds_still (by simp [vl, still])
theorem sc_vo : scvs ns (vo e ls) = true := by induction ls <;> simp_all [vo, scvs, scv, sc_vi]
theorem sc_vl : scvs ns (vl ls) = true := by induction ls <;> simp_all [vl, scvs, scv, vi_nrf]
theorem vo_nil : vo e [] = [] := rfl
theorem vl_nil : vl [] = [] := rfl
theorem vl_cons {n : Nat} (hn : l.length = n) : V.sl n (vi .i64 l) :: vl ls = vl (l :: ls) := by subst hn; rfl
end
theorem gl_ext {l m : List (List Int)} (h1 : l.length = m.length) (h2 : ∀ j, j < l.length → gl l j = gl m j) : l = m := getD_ext h1 h2
theorem gl_app {l m : List (List Int)} {i : Nat} : gl (l ++ m) i = if i < l.length then gl l i else gl m (i - l.length) := by
  simp only [gl, List.getD, List.getElem?_append]; split <;> rfl
def vn (k : Nat) : List V := List.replicate k .nils
section
variable {k n : Nat} {v : V} {h : Hp} {ns : List Nat} {a b : List V} {i : Nat}
theorem vn_len : (vn k).length = k := by simp [vn]
theorem vn_set0 (hk : 0 < k) : (vn k).set 0 v = v :: vn (k - 1) := by
  cases k with
  | zero => omega
  | succ k => simp [vn, List.replicate_succ]
theorem vn_rep : (List.replicate k [V.nils]).flatten = vn k := by
  induction k with
  | zero => rfl
  | succ k ih => simp only [List.replicate_succ, List.flatten_cons, ih]; simp [vn, List.replicate_succ]
theorem vn_fin : folds (fin (n + 1)) h (vn k) = some (vn k, h) := folds_still (by simp [vn, still])
theorem vn_nrf : nrfs (vn k) = true := by induction k <;> simp_all [vn, List.replicate_succ, nrfs, nrf]
theorem vn_clo : clos (vn k) = true := by induction k <;> simp_all [vn, List.replicate_succ, clos, clo]
theorem sc_vn : scvs ns (vn k) = true := by induction k <;> simp_all [vn, List.replicate_succ, scvs, scv]
theorem setV_appr (hi : a.length ≤ i) : (a ++ b).set i v = a ++ b.set (i - a.length) v := List.set_append_right _ _ hi
end
section
variable {h : Hp} {q : Option Nat} {K : V → Hp → Prop} {b b2 o o2 n : Nat} {x x' y y' : V}
@[congr] theorem pldb_congr (hx : x = x') (hy : y = y') : pldb h q K x y = pldb h q K x' y' := by rw [hx, hy]
theorem pldb_pp : pldb h q K (.ptr b o) (.ptr b2 o2) = Rq (b = b2) (pld h q K (.ptr b o)) := rfl
theorem pldb_pr : pldb h q K (.ptr b o) (.rf b2 o2 n) = Rq (b = b2) (pld h q K (.ptr b o)) := rfl
theorem pavsP_nil {x : V} : pavsP h x [] = True := rfl
theorem pavsP_cons {x y : V} {ys : List V} : pavsP h x (y :: ys) = (pavoidP h x y ∧ pavsP h x ys) := rfl
theorem pavoidP_pp {b o b2 o2 : Nat} : pavoidP h (.ptr b2 o2) (.ptr b o) = (b ≠ b2 ∧ isRow (h b)) := rfl
theorem pavoidP_pr {b o b2 o2 m : Nat} : pavoidP h (.ptr b2 o2) (.rf b o m) = (b ≠ b2 ∧ isRow (h b)) := rfl
theorem pavoid_pr : pavoid h (.rf b2 o2 n) (.ptr b o) = (b ≠ b2 ∧ isRow (h b)) := rfl
theorem pavoid_rr {m : Nat} : pavoid h (.rf b2 o2 n) (.rf b o m) = (b ≠ b2 ∧ isRow (h b)) := rfl
theorem pavoid_pn : pavoid h .nils (.ptr b o) = True := rfl
theorem pavoid_rn {m : Nat} : pavoid h .nils (.rf b o m) = True := rfl
theorem isRow_row {e : TypeId} {sz : Nat} {cs : List V} : isRow (.row e sz cs) = True := rfl
end
set_option linter.defProp false in
def E3 := And.intro @pavsP_nil <| And.intro @pavsP_cons <| And.intro @pavoidP_pp <| And.intro @pavoidP_pr <| And.intro @pldb_pp <| And.intro @pldb_pr <| And.intro @pavoid_pr <| And.intro @pavoid_rr <| And.intro @pavoid_pn <| And.intro @pavoid_rn <| And.intro @isRow_row <| And.intro @vn_len <| And.intro @vn_set0 <| And.intro @vn_rep <| And.intro @vn_fin <| And.intro @vn_nrf <| And.intro @vn_clo <| And.intro @setV_appr <| And.intro @vo_len <| And.intro @vl_len <| And.intro @vo_get <| And.intro @vl_get <| And.intro @vo_one <| And.intro @vo_set <| And.intro @vo_take <| And.intro @vl_take <| And.intro @vo_drop <| And.intro @vl_drop <|
  And.intro @vl_all <| And.intro @vl_own <| And.intro @vo_vws <| And.intro @vl_vws <| And.intro @vl_dvs <| And.intro @vo_clo <| And.intro @vo_nrf <| And.intro @vl_nrf <| And.intro @vo_fin <| And.intro @vl_fin <|
  And.intro @vo_nil <| And.intro @vl_nil <| And.intro @vl_cons @folds_app
theorem ok_sl {T : Ty} {v : V} (h : Ty.ok (.sl T) v) : ∃ xs : List (List V), v = .sl xs.length xs.flatten ∧ xs.length ≤ 9223372036854775807 ∧ ∀ x ∈ xs, T.fits x := by
  simpa [Ty.ok, Ty.isAgg, Ty.fits, maxLen] using h
theorem fits_list {α : Type} {T : Ty} {enc : α → List V} {Q : α → Prop} (hT : ∀ x, T.fits x → ∃ a, x = enc a ∧ Q a) : ∀ {xs : List (List V)}, (∀ x ∈ xs, T.fits x) → ∃ l : List α, xs = l.map enc ∧ ∀ a ∈ l, Q a
  | [], _ => ⟨[], rfl, by simp⟩
  | x :: xs, h => by
    obtain ⟨a, rfl, ha⟩ := hT x (h x (by simp))
    obtain ⟨l, rfl, h2⟩ := fits_list hT (xs := xs) fun y hy => h y (by simp [hy])
    exact ⟨a :: l, rfl, by simpa using ⟨ha, h2⟩⟩
theorem fits_int {k : IntKind} (x : List V) (h : Ty.fits (.int k) x) : ∃ a, x = [.int k a] ∧ k.min ≤ a ∧ a ≤ k.max := by simpa [Ty.fits] using h
theorem flat_vi {k : IntKind} {l : List Int} : (l.map fun a => [V.int k a]).flatten = vi k l := by
  induction l <;> simp_all [vi]
theorem ok_ints {k : IntKind} {v : V} (h : Ty.ok (.sl (.int k)) v) : ∃ l : List Int, v = .sl l.length (vi k l) ∧ l.length ≤ 9223372036854775807 ∧ ∀ a ∈ l, k.min ≤ a ∧ a ≤ k.max := by
  obtain ⟨xs, rfl, h1, h2⟩ := ok_sl h
  obtain ⟨l, rfl, h3⟩ := fits_list fits_int h2
  exact ⟨l, by rw [flat_vi]; simp, by simpa using h1, h3⟩
set_option linter.defProp false in
def EW := And.intro EV <| And.intro EL <| And.intro E2 <| And.intro E3 <| And.intro ER @false_imp_iff
set_option linter.defProp false in
def LN := And.intro @List.length_append.{0} <| And.intro @List.length_cons.{0} <| And.intro @List.length_nil.{0} <| And.intro @List.length_replicate.{0} <| And.intro @List.length_set.{0} <| And.intro @List.length_take.{0} <| And.intro @List.length_drop.{0} <|
  And.intro @vi_len <| And.intro @vb_len <| And.intro @vo_len <| And.intro @vl_len @vn_len
set_option linter.defProp false in
def FRB := And.intro @vi_nrf <| And.intro @vb_nrf <| And.intro @vt_nrf <| And.intro @v2_nrf <| And.intro @v3_nrf <| And.intro @sc_vi <| And.intro @sc_vb <| And.intro @sc_vt <| And.intro @sc_v2 <| And.intro @sc_v3 <| And.intro @sc_vo <| And.intro @sc_vl <|
  And.intro @vo_nrf <| And.intro @vl_nrf <| And.intro @sc_vn @vn_nrf
set_option linter.defProp false in
def SD := And.intro @decide_eq_true_eq <| And.intro @decide_eq_false_iff_not <| And.intro @beq_iff_eq.{0} <| And.intro @bne_iff_ne.{0} <| And.intro @beq_eq_false_iff_ne.{0} <| And.intro @bne_eq_false_iff_eq.{0} <| And.intro @Bool.not_eq_true' <| And.intro @Bool.not_eq_false' <|
  And.intro @Bool.and_eq_true <| And.intro @Bool.or_eq_true <| And.intro @Bool.and_eq_false_iff <| And.intro @Bool.or_eq_false_iff <| And.intro @Int.not_lt <| And.intro @Int.not_le <| And.intro Bool.false_eq_true <| And.intro Bool.true_eq_false <|
  And.intro @false_and <| And.intro @and_false <| And.intro @true_and <| And.intro @and_true <| And.intro @or_false <| And.intro @false_or <| And.intro @or_true <| And.intro @true_or <| And.intro not_true_eq_false not_false_eq_true
end
end Go.Proofs.Ytbjbpmicnmjbfaa.Sep

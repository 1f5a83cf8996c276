/- Every operation is told truly. -/
import Derived.Test.YtbjmdjnopgojdaaSepT
namespace Go.Proofs.Ytbjmdjnopgojdaa.Sep
open Go.RowKit
set_option linter.unusedVariables false
set_option linter.unusedSimpArgs false
set_option linter.constructorNameAsVariable false

section
variable {P : Program} {ι ι' : Iota} {F g : H} {h : Hp} {D : Nat → H}

/-- What is known behind an operation. -/
def Nx (ι : Iota) (F : H) (g' : H) (K : V → Hp → Prop) (r : Value) : Prop :=
  ∃ v h' ι' F' D', (∀ x y, R ι F x y → R ι' F' x y) ∧ Le F F' ∧ Hold ι' F' h' D' g' ∧ R ι' F' v r ∧ K v h'

theorem Nx.same {K : V → Hp → Prop} (hh : Hold ι F h D g) {v : V} {r : Value} (hv : R ι F v r) (hK : K v h) : Nx ι F g K r :=
  ⟨v, h, ι, F, D, fun _ _ h => h, le_rfl' F, hh, hv, hK⟩
theorem Nx.ext {K : V → Hp → Prop} {g' : H} {h' : Hp} {D' : Nat → H} (hi : iext ι ι') (hh : Hold ι' F h' D' g') {v : V} {r : Value} (hv : R ι' F v r) (hK : K v h') : Nx ι F g' K r :=
  ⟨v, h', ι', F, D', fun x y hx => R_mono hi (le_rfl' F) x hx, le_rfl' F, hh, hv, hK⟩

theorem det_sound {op : AOp} {t : Tp} {u : T} (hh : Hold ι F h D g) (ht : ∀ k, R ι F (t k) (u k)) {K : V → Hp → Prop} (hp : OK (vdet h (pev t) op) fun v => K v h) :
    aop P op (ev u) g fun r e => e.ok g → Nx ι F (e.app g) K r := by
  obtain ⟨v, hv, hK⟩ := hp
  obtain ⟨hc, rv, h1, h2⟩ := vdet_sound hh ht hv
  exact (aop_det hc).2 ⟨rv, h1, fun _ => Nx.same hh h2 hK⟩

theorem vcells_own {cs : List V} {off : Nat} (hn : noOwn cs = true) : plain1 (cs.getD off .und) = true := by
  by_cases h : off < cs.length
  · rw [List.getD, List.getElem?_eq_getElem h]
    exact List.all_eq_true.1 hn _ (List.getElem_mem h)
  · rw [List.getD, List.getElem?_eq_none (by omega)]; rfl

/-- A load: the value is there, and what is known of memory behind it. -/
theorem pld_sound {n : Option Nat} {x : V} {rx : Value} (hh : Hold ι F h D g) (hx : R ι F x rx) {K : V → Hp → Prop} (hp : pld h n K x) : ∃ rv, ald g n rx = some rv ∧ Nx ι F g K rv := by
  cases x <;> simp only [pld] at hp <;> try exact hp.elim
  · rename_i b off
    simp only [R] at hx
    obtain ⟨b', tot, sz0, h1, rfl⟩ := hx
    cases hb : h b with
    | free => simp [hb, pldB] at hp
    | dead => simp [hb, pldB] at hp
    | row e sz cs =>
      obtain ⟨b2, rcs, ex, d', q1, q2, q3, q4, q5, q6, q7⟩ := hh.blk hb
      rw [h1] at q1; cases q1
      simp only [hb, pldB] at hp
      simp only [ald, q6, ldB]
      cases n with
      | none =>
        obtain ⟨ho, hp⟩ := hp
        refine ⟨rcs.getD off undef, by simp only [cellsAt, grd]; rw [if_pos (by omega)], ?_⟩
        have hr0 : (rcs.take cs.length).getD off undef = rcs.getD off undef := by simp [List.getD, List.getElem?_take, ho]
        cases hc : cs.getD off .und with
        | own e2 sz2 n2 l =>
          rw [hc] at hp
          obtain ⟨F', D', hF, hh', hv⟩ := hh.freeze hb ho hc h1 q2 q3 q4 q5
          exact ⟨_, _, ι, F', D', fun x y hx => R_mono (iext_refl ι) hF x hx, hF, hh', hv, hp⟩
        | agg l => rw [hc] at hp; exact hp.elim
        | tup l => rw [hc] at hp; exact hp.elim
        | _ =>
          obtain ⟨d1, h2, h3⟩ := OL_get off q5 ho
          rw [hr0] at h2
          have h4 := (OV_plain (by rw [hc]; rfl) h2).2
          rw [hc] at h4 hp
          exact Nx.same hh h4 hp
      | some m =>
        obtain ⟨⟨ho, hn⟩, hp⟩ := hp
        refine ⟨_, by simp only [cellsAt, grd]; rw [if_pos (by omega)], ?_⟩
        obtain ⟨d1, h2, h3⟩ := OL_seg off m q5
        have h4 := (OL_plain hn h2).2
        rw [List.drop_take, List.take_take, Nat.min_eq_left (by omega)] at h4
        refine Nx.same hh ?_ hp
        simp only [R]
        exact ⟨_, rfl, h4⟩
  · rename_i l off
    obtain ⟨v, hv, hp⟩ := hp
    simp only [R] at hx
    obtain ⟨b, o, own, e, cs, ex, rfl, h2, h3, h4⟩ := hx
    obtain ⟨rv, h5, h6⟩ := vcellsAt_R h4 h3 hv
    exact ⟨rv, by simp only [ald, hh.leF _ _ h2, ldB]; exact h5, Nx.same hh h6 hp⟩

theorem sameB_R {x y : V} {rx ry : Value} (h : sameB x y) (hx : R ι F x rx) (hy : R ι F y ry) : blockOf rx = blockOf ry := by
  cases x <;> cases y <;> simp only [sameB] at h
  · subst h
    simp only [R] at hx hy
    obtain ⟨b1, _, _, h1, rfl⟩ := hx
    obtain ⟨b2, _, _, h2, rfl⟩ := hy
    rw [h1] at h2; cases h2; rfl
  · subst h
    simp only [R] at hx hy
    obtain ⟨b1, _, _, h1, rfl⟩ := hx
    obtain ⟨b2, _, _, _, _, h2, rfl, _⟩ := hy
    rw [h1] at h2; cases h2; rfl

theorem pst_sound {m : Nat} {x a : V} {rx ra : Value} (hh : Hold ι F h D g) (hx : R ι F x rx) (ha : R ι F a ra) {K : V → Hp → Prop} (hp : pst h m (cellsV x) K a) :
    astV m rx.cells.toList g (fun r e => e.ok g → Nx ι F (e.app g) K r) ra := by
  cases a <;> simp only [pst] at hp <;> try exact hp.elim
  rename_i b off
  simp only [R] at ha
  obtain ⟨b', tot, sz0, h1, rfl⟩ := ha
  cases hb : h b with
  | free => simp [hb, pstB] at hp
  | dead => simp [hb, pstB] at hp
  | row e sz cs =>
    obtain ⟨b2, rcs, ex, d', q1, q2, q3, q4, q5, q6, q7⟩ := hh.blk hb
    rw [h1] at q1; cases q1
    simp only [hb, pstB] at hp
    obtain ⟨⟨hm, ho, hc⟩, hp⟩ := hp
    have hok := cellOk_of_all hc
    have hcl := cells_R hok hx
    have hlen := RL_len hcl
    simp only [astV, q6, astB]
    refine ⟨⟨by omega, by omega, all1_R hc hcl⟩, fun _ => ?_⟩
    simp only [Eff.app]
    generalize hvs : cellsV x = vs at *
    generalize hrs : rx.cells.toList = rs at *
    have hrl := OL_len q5
    have hset : setL rcs off rs = rcs.take off ++ rs ++ rcs.drop (off + rs.length) := by
      unfold setL
      split
      · rename_i v
        rw [List.set_eq_take_append_cons_drop, if_pos (by simp at hlen; omega)]
        simp
      · rfl
    have hsetV : setV cs off vs = cs.take off ++ vs ++ cs.drop (off + vs.length) := by
      unfold setV
      split
      · rename_i v
        rw [List.set_eq_take_append_cons_drop, if_pos (by simp at hlen ho; simp at hm; omega)]
        simp
      · rfl
    obtain ⟨d2, h2, h3⟩ := OL_seg_set off q5 hcl (by omega)
    have hl1 : (setL rcs off rs).length = rcs.length := by rw [hset]; simp; omega
    have hl2 : (setV cs off vs).length = cs.length := by rw [hsetV]; simp; omega
    refine Nx.ext (ι' := ι) (iext_refl ι) (hh.turn hb h1 q2 q3 (cs' := setV cs off vs) (rcs' := setL rcs off rs) (d2 := d2) hl1 (by omega) ?_ h3) R_und hp
    rw [hl2, hset, hsetV]
    have : (rcs.take off ++ rs ++ rcs.drop (off + rs.length)).take cs.length = (rcs.take cs.length).take off ++ rs ++ (rcs.take cs.length).drop (off + rs.length) := by
      have hr : rs.length ≤ cs.length - off := by omega
      rw [List.take_append, List.take_append, List.drop_take]
      simp only [List.length_take, List.length_append]
      rw [List.take_take, List.take_take, show min cs.length off = off by omega, show min off cs.length = off by omega, show min off rcs.length = off by omega, List.take_of_length_le hr]
      try (congr 2)
    rw [this]
    exact h2

theorem new_dis {b : Nat} (hn : New g b) (k : Blk) : Dis g (single b k) := dis_single k hn
theorem single_emp (b : Nat) (k : Blk) : join (single b k) emp = single b k := join_emp_r _

theorem pnew_sound {d : Nat} (hd : h d = .free) {e : TypeId} {sz : Nat} {cs : List V} {rcs : List Value} {v : V} {r : Nat → Value} (hh : Hold ι F h D g) (hcs : RL ι F cs rcs) {K : V → Hp → Prop}
    (hv : ∀ b, R (iset ι d (b, rcs.length, sz)) F v (r b)) (hp : K v (hput h d (.row e sz cs))) : anew g (.row true e rcs 0) fun b ef => ef.ok g → Nx ι F (ef.app g) K (r b) := by
  intro b hn hok
  simp only [Eff.app]
  have hlen := RL_len hcs
  have hOL := RL_OL cs hcs
  have hadd := hh.add hd (g' := join g (single b (.row true e rcs 0))) (le_join_l (dis_dj (new_dis hn _))) (e := e) (sz := sz) (cs := cs) (b' := b) (rcs := rcs) (ex := 0) (d' := emp) rfl
    (fun x => by rw [single_emp]; exact le_dis (hh.sub x) (new_dis hn _)) (by rw [single_emp]; exact le_dis hh.leF (new_dis hn _)) (by rw [single_emp]; exact le_join_r _ _) (by omega) (by rw [← hlen, List.take_length]; exact hOL)
  exact Nx.ext (iext_iset (hh.dom d hd)) hadd (hv b) hp

theorem emp_le (F : H) : Le emp F := fun x k h => by simp [emp] at h
theorem ι0_ext (ι : Iota) : iext ι0 ι := fun b p h => by simp [ι0] at h

theorem hputs_append (h : Hp) : ∀ (a b : List (Nat × TypeId × Nat × List V)), hputs h (a ++ b) = hputs (hputs h a) b
  | [], b => rfl
  | p :: a, b => by simp only [List.cons_append, hputs]; exact hputs_append _ a b
theorem allFree_append (h : Hp) : ∀ (a b : List (Nat × TypeId × Nat × List V)), allFree h (a ++ b) ↔ allFree h a ∧ allFree (hputs h a) b
  | [], b => by simp [allFree, hputs]
  | p :: a, b => by simp only [List.cons_append, allFree, hputs, allFree_append _ a b, and_assoc]

theorem mat_plain {v : V} (hp : plain1 v = true) (c : Nat) : mat v c = (v, [], c) := by
  cases v <;> simp_all [plain1, mat]

theorem mat_ok_plain (v : V) (hp : plain1 v = true) {r : Value} {d : H} (c : Nat) {h : Hp} {ι : Iota} {D : Nat → H} {g g' : H} (hv : OV ι0 F v r d) (hh : Hold ι F h D g) (hg : Le g g') :
    ∃ ι' D', iext ι ι' ∧ Hold ι' F (hputs h (mat v c).2.1) D' g' ∧ R ι' F (mat v c).1 r ∧ ∀ x y, (D' x y).isSome = true → (D x y).isSome = true ∨ (d y).isSome = true := by
  obtain ⟨rfl, hr⟩ := OV_plain hp hv
  rw [mat_plain hp]
  exact ⟨ι, D, iext_refl ι, ⟨hh.live, hh.idle, fun b => le_trans' (hh.sub b) hg, hh.dj, hh.djF, hh.dom, le_trans' hh.leF hg⟩, R_mono (ι0_ext ι) (le_rfl' F) _ hr, fun x y hx => .inl hx⟩

mutual
/-- Own memory gets names. -/
theorem mat_ok : ∀ (v : V) {r : Value} {d : H} (c : Nat) {h : Hp} {ι : Iota} {D : Nat → H} {g g' : H}, OV ι0 F v r d → Hold ι F h D g → (∀ x, Dj (D x) d) → Dj F d → Le g g' → Le d g' → allFree h (mat v c).2.1 →
    ∃ ι' D', iext ι ι' ∧ Hold ι' F (hputs h (mat v c).2.1) D' g' ∧ R ι' F (mat v c).1 r ∧ ∀ x y, (D' x y).isSome = true → (D x y).isSome = true ∨ (d y).isSome = true
  | .own e sz n l, r, d, c, h, ι, D, g, g', hv, hh, hD, hF, hg, hd, hf => by
    simp only [OV] at hv
    obtain ⟨b, cp, rcs, ex, d', rfl, h2, h3, h4, h5, h6, rfl, h8, h9⟩ := hv
    simp only [mat, allFree, and_true] at hf
    have hadd := hh.add hf hg (e := e) (sz := sz) (cs := l) h8 hD hF hd h6 (OL_mono (ι0_ext ι) (le_rfl' F) _ h9)
    refine ⟨_, _, iext_iset (hh.dom c hf), hadd, ?_, ?_⟩
    · simp only [mat, R]
      exact ⟨b, _, sz, 0, cp, if_pos rfl, rfl, fun _ => rfl, h2, h3, fun _ => ⟨h4, h5⟩⟩
    · intro x y hx
      simp only [dset] at hx
      split at hx
      · exact .inr hx
      · exact .inl hx
  | .agg l, r, d, c, h, ι, D, g, g', hv, hh, hD, hF, hg, hd, hf => by
    simp only [OV] at hv
    obtain ⟨cs, rfl, hv⟩ := hv
    obtain ⟨ι', D', h1, h2, h3, h4⟩ := mats_ok l c hv hh hD hF hg hd (by simpa only [mat] using hf)
    exact ⟨ι', D', h1, by simpa only [mat] using h2, by simp only [mat, R]; exact ⟨cs, rfl, h3⟩, h4⟩
  | .tup l, r, d, c, h, ι, D, g, g', hv, hh, hD, hF, hg, hd, hf => by
    simp only [OV] at hv
    obtain ⟨cs, rfl, hv⟩ := hv
    obtain ⟨ι', D', h1, h2, h3, h4⟩ := mats_ok l c hv hh hD hF hg hd (by simpa only [mat] using hf)
    exact ⟨ι', D', h1, by simpa only [mat] using h2, by simp only [mat, R]; exact ⟨cs, rfl, h3⟩, h4⟩
  | .und, r, d, c, h, ι, D, g, g', hv, hh, hD, hF, hg, hd, hf => mat_ok_plain (.und) rfl c hv hh hg
  | .int k n, r, d, c, h, ι, D, g, g', hv, hh, hD, hF, hg, hd, hf => mat_ok_plain (.int k n) rfl c hv hh hg
  | .bool b, r, d, c, h, ι, D, g, g', hv, hh, hD, hF, hg, hd, hf => mat_ok_plain (.bool b) rfl c hv hh hg
  | .str s, r, d, c, h, ι, D, g, g', hv, hh, hD, hF, hg, hd, hf => mat_ok_plain (.str s) rfl c hv hh hg
  | .ptr b o, r, d, c, h, ι, D, g, g', hv, hh, hD, hF, hg, hd, hf => mat_ok_plain (.ptr b o) rfl c hv hh hg
  | .nilp, r, d, c, h, ι, D, g, g', hv, hh, hD, hF, hg, hd, hf => mat_ok_plain (.nilp) rfl c hv hh hg
  | .pf l o, r, d, c, h, ι, D, g, g', hv, hh, hD, hF, hg, hd, hf => mat_ok_plain (.pf l o) rfl c hv hh hg
  | .sl n l, r, d, c, h, ι, D, g, g', hv, hh, hD, hF, hg, hd, hf => mat_ok_plain (.sl n l) rfl c hv hh hg
  | .rf b o n, r, d, c, h, ι, D, g, g', hv, hh, hD, hF, hg, hd, hf => mat_ok_plain (.rf b o n) rfl c hv hh hg
  | .nils, r, d, c, h, ι, D, g, g', hv, hh, hD, hF, hg, hd, hf => mat_ok_plain (.nils) rfl c hv hh hg
  | .fn f l, r, d, c, h, ι, D, g, g', hv, hh, hD, hF, hg, hd, hf => mat_ok_plain (.fn f l) rfl c hv hh hg
theorem mats_ok : ∀ (l : List V) {r : List Value} {d : H} (c : Nat) {h : Hp} {ι : Iota} {D : Nat → H} {g g' : H}, OL ι0 F l r d → Hold ι F h D g → (∀ x, Dj (D x) d) → Dj F d → Le g g' → Le d g' → allFree h (mats l c).2.1 →
    ∃ ι' D', iext ι ι' ∧ Hold ι' F (hputs h (mats l c).2.1) D' g' ∧ RL ι' F (mats l c).1 r ∧ ∀ x y, (D' x y).isSome = true → (D x y).isSome = true ∨ (d y).isSome = true
  | [], r, d, c, h, ι, D, g, g', hv, hh, hD, hF, hg, hd, hf => by
    simp only [OL] at hv
    obtain ⟨rfl, rfl⟩ := hv
    refine ⟨ι, D, iext_refl ι, ⟨hh.live, hh.idle, fun b => le_trans' (hh.sub b) hg, hh.dj, hh.djF, hh.dom, le_trans' hh.leF hg⟩, by simp [mats, RL], fun x y hx => .inl hx⟩
  | v :: l, r, d, c, h, ι, D, g, g', hv, hh, hD, hF, hg, hd, hf => by
    simp only [OL] at hv
    obtain ⟨x, r', d1, d2, rfl, rfl, hdj, h1, h2⟩ := hv
    simp only [mats] at hf ⊢
    rw [allFree_append] at hf
    rw [join_le_iff hdj] at hd
    rw [dj_join_r] at hF
    obtain ⟨ι1, D1, i1, hh1, r1, k1⟩ := mat_ok v c h1 hh (fun x => (dj_join_r.1 (hD x)).1) hF.1 hg hd.1 hf.1
    have hD1 : ∀ x, Dj (D1 x) d2 := fun x y => by
      cases hy : D1 x y with
      | none => exact .inl rfl
      | some k =>
        rcases k1 x y (by simp [hy]) with h | h
        · rcases (dj_join_r.1 (hD x)).2 y with h' | h'
          · rw [h'] at h; cases h
          · exact .inr h'
        · rcases hdj y with h' | h'
          · rw [h'] at h; cases h
          · exact .inr h'
    obtain ⟨ι2, D2, i2, hh2, r2, k2⟩ := mats_ok l (mat v c).2.2 h2 hh1 hD1 hF.2 (le_rfl' g') hd.2 hf.2
    refine ⟨ι2, D2, fun b p hb => i2 _ _ (i1 _ _ hb), by rw [hputs_append]; exact hh2, ?_, ?_⟩
    · simp only [RL]
      exact ⟨x, r', rfl, R_mono i2 (le_rfl' F) _ r1, r2⟩
    · intro x y hx
      rcases k2 x y hx with h | h
      · rcases k1 x y h with h | h
        · exact .inl h
        · exact .inr (by simp only [join]; cases d2 y <;> simp_all)
      · exact .inr (by simp only [join]; cases h' : d2 y <;> simp_all)
end

theorem Hold.frz {d : H} (hh : Hold ι F h D g) (hd : Dis g d) : Hold ι (join F d) h D (join g d) := by
  have hFd : Dj F d := dj_of_le (dis_dj hd) hh.leF
  constructor
  · intro b e sz cs hb; exact LiveB_mono (iext_refl ι) (le_join_l hFd) (hh.live b e sz cs hb)
  · exact hh.idle
  · intro b; exact le_trans' (hh.sub b) (le_join_l (dis_dj hd))
  · exact hh.dj
  · intro b; exact dj_join_r.2 ⟨hh.djF b, le_dis (hh.sub b) hd⟩
  · exact hh.dom
  · exact le_join_of (le_trans' hh.leF (le_join_l (dis_dj hd))) (le_join_r _ _)

theorem pure_sound {f : FuncId} {vs : List V} {rs : List Value} {d : Nat} (hh : Hold ι F h D g) (hvs : RL ι F vs rs) {K : V → Hp → Prop} (hp : Pure P f vs d h K) :
    ∃ Φ, Spec P f rs g Φ ∧ ∀ r d', Φ r d' → Dis g d' → Nx ι F (join g d') K r := by
  obtain ⟨Φ, hs, hK⟩ := hp
  refine ⟨_, hs g rs (dvs_RL hh vs hvs), ?_⟩
  rintro r d' ⟨v, hv, hov⟩ hdis
  rcases hK with hK | hK
  · have hFd : Dj F d' := dj_of_le (dis_dj hdis) hh.leF
    refine ⟨vw v, h, ι, join F d', D, fun x y hx => R_mono (iext_refl ι) (le_join_l hFd) x hx, le_join_l hFd, hh.frz hdis, ?_, hK v hv⟩
    exact vw_OV (ι' := ι) (emp_le _) v hov (le_join_r _ _)
  · obtain ⟨hf, hK⟩ := hK v hv
    obtain ⟨ι', D', h1, h2, h3, _⟩ := mat_ok (F := F) v d (OV_mono (iext_refl ι0) (emp_le F) _ hov) hh (fun x => le_dis (hh.sub x) hdis) (le_dis hh.leF hdis) (le_join_l (dis_dj hdis)) (le_join_r _ _) hf
    exact Nx.ext h1 h2 h3 hK

theorem live_blk {b b2 : Nat} (hh : Hold ι F h D g) (hne : b ≠ b2) (h1 : isRow (h b)) (h2 : isRow (h b2)) {x y : Nat} {p q : Nat × Nat} (hx : ι b = some (x, p)) (hy : ι b2 = some (y, q)) : x ≠ y := by
  cases hb : h b with
  | free => rw [hb] at h1; exact h1.elim
  | dead => rw [hb] at h1; exact h1.elim
  | row e sz cs =>
    cases hb2 : h b2 with
    | free => rw [hb2] at h2; exact h2.elim
    | dead => rw [hb2] at h2; exact h2.elim
    | row e2 sz2 cs2 =>
      obtain ⟨b', rcs, ex, d', q1, q2, q3, _⟩ := hh.blk hb
      obtain ⟨b2', rcs2, ex2, d2', r1, r2, r3, _⟩ := hh.blk hb2
      rw [hx] at q1; cases q1
      rw [hy] at r1; cases r1
      rintro rfl
      rcases hh.dj b b2 hne x with hd | hd
      · rw [q2] at hd; simp [join, single, q3] at hd
      · rw [r2] at hd; simp [join, single, r3] at hd

theorem avoid_R {s y : V} {rs ry : Value} (hh : Hold ι F h D g) (hp : pavoid h s y) (hs : R ι F s rs) (hy : R ι F y ry) (hl : s = .nils ∨ ∃ b o n, s = .rf b o n ∧ isRow (h b)) :
    (match blockOf rs with
      | none => true
      | some b => match blockOf ry with
        | some b' => decide (b' ≠ b)
        | none => true) = true := by
  rcases hl with rfl | ⟨b, o, n, rfl, hl⟩
  · simp only [R] at hs; subst hs; rfl
  · simp only [R] at hs
    obtain ⟨b', tot, sz, off', c, h1, rfl, _⟩ := hs
    simp only [blockOf]
    cases y <;> simp only [pavoid] at hp <;> simp only [R] at hy
    case int => subst hy; rfl
    case bool => subst hy; rfl
    case str => subst hy; rfl
    case agg => obtain ⟨_, rfl, _⟩ := hy; rfl
    case ptr =>
      obtain ⟨b2, _, _, h2, rfl⟩ := hy
      simpa [blockOf] using live_blk hh hp.1 hp.2 hl h2 h1
    case nilp => subst hy; rfl
    case pf =>
      obtain ⟨b2, o2, own, e, cs, ex, rfl, h2, _⟩ := hy
      simp only [blockOf, ne_eq, decide_not, Bool.not_eq_true', decide_eq_false_iff_not]
      rintro rfl
      cases hb : h b with
      | free => rw [hb] at hl; exact hl.elim
      | dead => rw [hb] at hl; exact hl.elim
      | row e sz cs =>
        obtain ⟨b3, rcs, ex, d', q1, q2, q3, _⟩ := hh.blk hb
        rw [h1] at q1; cases q1
        rcases hh.djF b b2 with hd | hd
        · rw [q2] at hd; simp [join, single, q3] at hd
        · rw [hd] at h2; cases h2
    case sl =>
      rcases hy with ⟨_, h0, _⟩ | ⟨b2, o2, c2, rfl, _, h2⟩
      · exact absurd h0 hp
      · rcases h2 with h2 | ⟨own, e, cs, ex, h2, _⟩
        · exact absurd h2 hp
        · simp only [blockOf, ne_eq, decide_not, Bool.not_eq_true', decide_eq_false_iff_not]
          rintro rfl
          cases hb : h b with
          | free => rw [hb] at hl; exact hl.elim
          | dead => rw [hb] at hl; exact hl.elim
          | row e sz cs =>
            obtain ⟨b3, rcs, ex, d', q1, q2, q3, _⟩ := hh.blk hb
            rw [h1] at q1; cases q1
            rcases hh.djF b b2 with hd | hd
            · rw [q2] at hd; simp [join, single, q3] at hd
            · rw [hd] at h2; cases h2
    case rf =>
      obtain ⟨b2, _, _, _, _, h2, rfl, _⟩ := hy
      simpa [blockOf] using live_blk hh hp.1 hp.2 hl h2 h1
    case nils => subst hy; rfl

/-- The cells of a slice that is read. -/
theorem preadS_sound {sz : Nat} {x : V} {rx : Value} {m : Nat} {news : List V} (hh : Hold ι F h D g) (hx : R ι F x rx) (hp : preadS sz h x = some (m, news)) :
    ∃ rn, readS sz g rx = some (m, rn) ∧ RL ι F news rn ∧ news.length = m * sz := by
  cases x <;> simp only [preadS, reduceCtorEq, Option.some.injEq, Prod.mk.injEq] at hp
  · rename_i n l
    obtain ⟨⟨hz, hc⟩, hp⟩ := grd_some hp
    simp only [Option.some.injEq, Prod.mk.injEq] at hp
    obtain ⟨rfl, rfl⟩ := hp
    simp only [R] at hx
    have hlen : (l.take (n * sz)).length = n * sz := by simp; omega
    rcases hx with ⟨h1, h2, rfl | ⟨a, c, rfl⟩⟩ | ⟨b, o, c, rfl, h2, h3⟩
    · subst h1; subst h2
      exact ⟨[], rfl, by simp [RL], hlen⟩
    · subst h1; subst h2
      exact ⟨[], by simp [readS], by simp [RL], hlen⟩
    · by_cases hn : n = 0
      · subst hn; exact ⟨[], by simp [readS], by simp [RL], hlen⟩
      · simp only [readS, if_neg hn, if_true]
        rcases h3 with h3 | ⟨own, e, cs, ex, h3, h4, h5⟩
        · subst h3
          have : n * sz = 0 := by simpa using hc
          rcases Nat.mul_eq_zero.1 this with h | h
          · exact absurd h hn
          · omega
        · refine ⟨_, by simp only [hh.leF _ _ h3, readB, grd]; rw [if_pos (by omega)], ?_, hlen⟩
          have h6 := RL_take (n * sz) h5
          rwa [List.take_take, Nat.min_eq_left hc] at h6
  · rename_i b o n
    cases hb : h b with
    | free => simp [hb, preadB] at hp
    | dead => simp [hb, preadB] at hp
    | row e sz2 cs =>
      simp only [hb, preadB] at hp
      obtain ⟨⟨hc, hn⟩, hp⟩ := grd_some hp
      simp only [Option.some.injEq, Prod.mk.injEq] at hp
      obtain ⟨rfl, rfl⟩ := hp
      obtain ⟨b2, rcs, ex, d', q1, q2, q3, q4, q5, q6, q7⟩ := hh.blk hb
      simp only [R] at hx
      obtain ⟨b', tot, sz3, off', c, h1, rfl, h2, h3⟩ := hx
      rw [h1] at q1; cases q1
      have hlen : ((cs.drop o).take (n * sz)).length = n * sz := by simp; omega
      by_cases hn0 : n = 0
      · subst hn0; exact ⟨[], by simp [readS], by simp [RL], hlen⟩
      · have : off' = o := h2 (.inl hn0)
        subst this
        obtain ⟨d1, h4, h5⟩ := OL_seg off' (n * sz) q5
        have h6 := (OL_plain hn h4).2
        rw [List.drop_take, List.take_take, Nat.min_eq_left (by omega)] at h6
        exact ⟨_, by simp only [readS, if_neg hn0, if_true, q6, readB, grd]; rw [if_pos (by omega)], h6, hlen⟩
  · obtain ⟨rfl, rfl⟩ := hp
    simp only [R] at hx; subst hx
    exact ⟨[], rfl, by simp [RL], by simp⟩

theorem papV_sound {e : TypeId} {sz bytes d m : Nat} {s : V} {rs : Value} {news : List V} {rn : List Value} (hh : Hold ι F h D g) (hs : R ι F s rs) (hn : RL ι F news rn) (hlen : news.length = m * sz)
    {K : V → Hp → Prop} (hp : papV e sz bytes d h K m news s) : appV e sz bytes g (fun r ef => ef.ok g → Nx ι F (ef.app g) K r) m rn rs := by
  have hrn := RL_len hn
  cases s <;> simp only [papV] at hp <;> try exact hp.elim
  · rename_i b o n
    cases o with
    | succ o => exact hp.elim
    | zero =>
      simp only at hp
      cases hb : h b with
      | free => simp [hb, papB] at hp
      | dead => simp [hb, papB] at hp
      | row e' sz' cs =>
        simp only [hb, papB] at hp
        obtain ⟨⟨rfl, hsz, hsz0, hl, hm, hby, hd⟩, hp⟩ := hp
        obtain ⟨b2, rcs, ex, d', q1, q2, q3, q4, q5, q6, q7⟩ := hh.blk hb
        simp only [R] at hs
        obtain ⟨b', tot, sz3, off', c, h1, rfl, h2, h3, h4, h5⟩ := hs
        have : off' = 0 := h2 (.inr trivial)
        subst this
        rw [h1] at q1; cases q1
        obtain ⟨h5, h6⟩ := h5 trivial
        simp only [appV, q6, appB]
        have hcz : c * sz = rcs.length + ex := by
          rcases hsz with hsz | hsz
          · rw [← hsz]; exact h5
          · subst hsz
            have := h6 rfl
            subst this
            simpa using h5
        refine ⟨⟨trivial, by omega, h3, h4, hcz, hm, hby⟩, fun bn cap' ex' hnew hc1 hc2 hc3 _ => ?_⟩
        simp only [Eff.app]
        obtain ⟨d1, h7, h8⟩ := OL_take (n * sz) q5
        rw [List.take_take, Nat.min_eq_left hl] at h7
        have h9 := OL_append h7 (RL_OL news hn) (dj_emp_r _)
        rw [join_emp_r] at h9
        have hl1 : (cs.take (n * sz) ++ news).length = (rcs.take (n * sz) ++ rn).length := by simp; omega
        have hmv := hh.move hb h1 q2 q3 (c := d) hd hnew (e := e') (sz := sz) (cs2 := cs.take (n * sz) ++ news) (rcs2 := rcs.take (n * sz) ++ rn) (ex2 := ex') (d2 := d1)
          (by omega) (by rw [hl1, List.take_length]; exact h9) h8
        refine Nx.ext (iext_iset (hh.dom d hd)) hmv ?_ hp
        simp only [R]
        refine ⟨bn, _, sz, 0, cap', if_pos rfl, rfl, fun _ => rfl, hc1, hc2, fun _ => ⟨?_, fun h0 => by omega⟩⟩
        rw [hc3]
        simp only [List.length_append, List.length_take]
        rw [Nat.min_eq_left (by omega), hrn, hlen, Nat.add_mul]
  · simp only [R] at hs
    subst hs
    simp only [appV]
    split
    · rename_i h0
      intro _
      exact Nx.same hh (by simp [R]) (hp.1 h0)
    · rename_i h0
      obtain ⟨⟨hsz0, hm, hby, hd⟩, hp⟩ := hp.2 (by omega)
      refine ⟨⟨hm, hby⟩, fun bn cap' ex' hnew hc1 hc2 hc3 _ => ?_⟩
      simp only [Eff.app]
      have hadd := hh.add hd (g' := join g (single bn (.row true e rn ex'))) (le_join_l (dis_dj (new_dis hnew _))) (e := e) (sz := sz) (cs := news) (b' := bn) (rcs := rn) (ex := ex') (d' := emp) rfl
        (fun x => by rw [single_emp]; exact le_dis (hh.sub x) (new_dis hnew _)) (by rw [single_emp]; exact le_dis hh.leF (new_dis hnew _)) (by rw [single_emp]; exact le_join_r _ _) (by omega) (by rw [← hrn, List.take_length]; exact RL_OL news hn)
      refine Nx.ext (iext_iset (hh.dom d hd)) hadd ?_ hp
      simp only [R]
      exact ⟨bn, _, sz, 0, cap', if_pos rfl, rfl, fun _ => rfl, hc1, hc2, fun _ => ⟨by rw [hc3, hrn, hlen], fun h0 => by omega⟩⟩

theorem pop_sound {d : Nat} {op : AOp} {t : Tp} {u : T} (hh : Hold ι F h D g) (ht : ∀ k, R ι F (t k) (u k)) {K : V → Hp → Prop} (hp : pop P d op (pev t) h K) :
    aop P op (ev u) g fun r e => e.ok g → Nx ι F (e.app g) K r := by
  have p := pev_R ht
  cases op <;> simp only [pop] at hp <;> try exact det_sound hh ht hp
  case ld n x =>
    obtain ⟨rv, h1, h2⟩ := pld_sound hh (p x) hp
    exact ⟨rv, h1, fun _ => h2⟩
  case ldb base n x =>
    obtain ⟨hs, hp⟩ := hp
    obtain ⟨rv, h1, h2⟩ := pld_sound hh (p x) hp
    exact ⟨rv, by simp only [adet, grd]; rw [if_pos (sameB_R hs (p x) (p base))]; exact h1, fun _ => h2⟩
  case alloc e z =>
    obtain ⟨hd, hp⟩ := hp
    refine pnew_sound hd (sz := 1) hh (ofVals_R z) (fun b => ?_) hp
    simp only [R]; exact ⟨b, _, 1, if_pos rfl, rfl⟩
  case box e x =>
    obtain ⟨⟨hd, hc⟩, hp⟩ := hp
    have hcl := cells_R (cellOk_of_all hc) (p x)
    refine ⟨all1_R hc hcl, pnew_sound hd (sz := 1) hh hcl (fun b => ?_) hp⟩
    simp only [R]; exact ⟨b, _, 1, if_pos rfl, rfl⟩
  case mks e z len ps =>
    obtain ⟨cs, hcs, ⟨hd, hc, hlen, hz, hz0⟩, hp⟩ := hp
    obtain ⟨rc, h1, h2⟩ := vfill_R (parts_R ht ps) (ofVals_R z) hcs
    refine ⟨rc, h1, all1_R hc h2, pnew_sound hd (sz := if len = 0 then 0 else z.length / len) hh h2 (fun b => ?_) hp⟩
    have hrl := fillL_len _ _ _ h1
    simp only [R]
    refine ⟨b, rc.length, _, 0, len, if_pos rfl, rfl, fun _ => rfl, Nat.le_refl _, hlen, fun _ => ⟨?_, ?_⟩⟩
    · rw [hrl, hz]
      by_cases h0 : len = 0
      · simp [h0]
      · simp only [if_neg h0]
        rw [Nat.mul_div_cancel_left _ (by omega)]
    · intro hs
      by_cases h0 : len = 0
      · exact h0
      · rw [if_neg h0] at hs
        rw [if_neg h0, hs] at hz
        rcases hz0 with hz0 | hz0
        · exact absurd hz0 h0
        · exact absurd (by simpa using hz) hz0
  case mk e bytes z l c =>
    have hl := p l
    have hc := p c
    cases hl0 : pev t l <;> simp only [hl0] at hp <;> try exact hp.elim
    cases hc0 : pev t c <;> simp only [hc0] at hp <;> try exact hp.elim
    rw [hl0] at hl; rw [hc0] at hc
    simp only [R] at hl hc
    obtain ⟨⟨hd, h1, h2, h3, h4, hz⟩, hp⟩ := hp
    simp only [aop, hl, hc, amkV]
    have h5 : (maxLen : Int) ≤ 9223372036854775807 := by simp [maxLen]
    refine ⟨⟨h1, h2, h3, by omega⟩, ?_⟩
    have hz0 : 0 < z.length := by cases z <;> simp_all
    refine pnew_sound hd (sz := z.length) hh (RL_flat _ (ofVals_R z)) (fun b => ?_) hp
    simp only [R]
    refine ⟨b, _, z.length, 0, _, if_pos rfl, rfl, fun _ => rfl, by omega, by omega, fun _ => ⟨?_, fun h0 => by omega⟩⟩
    simp [List.length_flatten]
  case app e sz bytes z av s x =>
    obtain ⟨⟨m, news⟩, hr, ⟨hc, hav⟩, hp⟩ := hp
    obtain ⟨rn, h1, h2, h3⟩ := preadS_sound hh (p x) hr
    simp only at hc hp
    refine ⟨(m, rn), h1, ⟨all1_R hc h2, ?_⟩, papV_sound hh (p s) h2 h3 hp⟩
    have hs : pev t s = .nils ∨ ∃ b o n, pev t s = .rf b o n ∧ isRow (h b) := by
      cases hs : pev t s <;> simp only [hs, papV] at hp <;> try exact hp.elim
      · rename_i b o n
        cases o with
        | succ o => exact hp.elim
        | zero =>
          refine .inr ⟨b, 0, n, rfl, ?_⟩
          cases hb : h b <;> simp [hb, papB, isRow] at hp ⊢
      · exact .inl rfl
    simp only [avoids, List.all_map, List.all_eq_true, Function.comp]
    intro y hy
    exact avoid_R hh (hav y hy) (p s) (p y) hs
  case st n a x => exact pst_sound hh (p x) (p a) hp
  case call f args =>
    obtain ⟨Φ, h1, h2⟩ := pure_sound hh (pevs_R ht args) hp
    exact .inl ⟨Φ, h1, fun r d' hr hd => h2 r d' hr hd⟩
  case callp f args =>
    obtain ⟨Φ, h1, h2⟩ := pure_sound hh (pevs_R ht args) hp
    exact ⟨Φ, h1, fun r d' hr hd => h2 r d' hr hd⟩
  case callv fv args =>
    have hf := p fv
    cases hfv : pev t fv <;> simp only [hfv, pcallv] at hp <;> try exact hp.elim
    rename_i f cap
    rw [hfv] at hf
    simp only [R] at hf
    obtain ⟨cs, hf, hcs⟩ := hf
    obtain ⟨hi, hp⟩ := hp
    obtain ⟨Φ, h1, h2⟩ := pure_sound hh (RL_append (pevs_R ht args) hcs) hp
    simp only [aop, hf, acallv]
    exact ⟨hi, .inl ⟨Φ, by simpa using h1, fun r d' hr hd => h2 r d' hr hd⟩⟩
end
end Go.Proofs.Ytbjmdjnopgojdaa.Sep

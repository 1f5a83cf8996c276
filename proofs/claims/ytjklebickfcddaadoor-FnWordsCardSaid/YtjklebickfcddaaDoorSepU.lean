/- Every operation is told truly. -/
import Derived.Test.YtjklebickfcddaaDoorSepTF
namespace Go.Proofs.YtjklebickfcddaaDoor.Sep
open Go.RowKit
set_option linter.unusedVariables false
set_option linter.unusedSimpArgs false
set_option linter.constructorNameAsVariable false

section
variable {P : Program} {ι ι' : Iota} {F g : H} {h : Hp} {D : Nat → H}

/-- What is known behind an operation. -/
def Nx (ι : Iota) (F : H) (g' : H) (K : V → Hp → Prop) (r : Value) : Prop :=
  ∃ v h' ι' F' D', iext ι ι' ∧ Le F F' ∧ Hold ι' F' h' D' g' ∧ R ι' F' v r ∧ K v h'

theorem Nx.same {K : V → Hp → Prop} (hh : Hold ι F h D g) {v : V} {r : Value} (hv : R ι F v r) (hK : K v h) : Nx ι F g K r :=
  ⟨v, h, ι, F, D, iext_refl ι, le_rfl' F, hh, hv, hK⟩
theorem Nx.ext {K : V → Hp → Prop} {g' : H} {h' : Hp} {D' : Nat → H} (hi : iext ι ι') (hh : Hold ι' F h' D' g') {v : V} {r : Value} (hv : R ι' F v r) (hK : K v h') : Nx ι F g' K r :=
  ⟨v, h', ι', F, D', hi, le_rfl' F, hh, hv, hK⟩

theorem det_sound {op : AOp} {t : Tp} {u : T} (hh : Hold ι F h D g) (ht : ∀ k, R ι F (t k) (u k)) {K : V → Hp → Prop} (hp : OK (vdet h (pev t) op) fun v => K v h) :
    aop P op (ev u) g fun r e => e.ok g → Nx ι F (e.app g) K r := by
  obtain ⟨v, hv, hK⟩ := hp
  obtain ⟨hc, rv, h1, h2⟩ := vdet_sound hh ht hv
  exact (aop_det hc).2 ⟨rv, h1, fun _ => Nx.same hh h2 hK⟩

theorem vcells_own {cs : List V} {off : Nat} (hn : noOwn cs = true) : plain1 (cs.getD off .und) = true := by
  by_cases h : off < cs.length
  · rw [List.getD, List.getElem?_eq_getElem h]
    exact List.all_eq_true.1 hn _ (List.getElem_mem h)
  · rw [List.getD, List.getElem?_eq_none (by omega)]; rfl

/-- A load: the value is there, and what is known of memory behind it. -/
theorem pld_sound {n : Option Nat} {x : V} {rx : Value} (hh : Hold ι F h D g) (hx : R ι F x rx) {K : V → Hp → Prop} (hp : pld h n K x) : ∃ rv, ald g n rx = some rv ∧ Nx ι F g K rv := by
  cases x <;> simp only [pld] at hp <;> try exact hp.elim
  · rename_i b off
    simp only [R] at hx
    obtain ⟨b', tot, sz0, h1, rfl⟩ := hx
    cases hb : h b with
    | free => simp [hb, pldB] at hp
    | dead => simp [hb, pldB] at hp
    | row e sz cs =>
      obtain ⟨b2, rcs, ex, d', q1, q2, q3, q4, q5, q6, q7⟩ := hh.blk hb
      rw [h1] at q1; cases q1
      simp only [hb, pldB] at hp
      simp only [ald, q6, ldB]
      cases n with
      | none =>
        obtain ⟨ho, hp⟩ := hp
        refine ⟨rcs.getD off undef, by simp only [cellsAt, grd]; rw [if_pos (by omega)], ?_⟩
        have hr0 : (rcs.take cs.length).getD off undef = rcs.getD off undef := by simp [List.getD, List.getElem?_take, ho]
        cases hc : cs.getD off .und with
        | own e2 sz2 n2 l =>
          rw [hc] at hp
          rcases hp with hp | ⟨dn, ⟨h64, hfr⟩, hp⟩
          · obtain ⟨F', D', hF, hh', hv⟩ := hh.freeze hb ho hc h1 q2 q3 q4 q5
            exact ⟨_, _, ι, F', D', iext_refl ι, hF, hh', hv, hp⟩
          · obtain ⟨ι', D', hi, hh', hv⟩ := hh.opened hb ho hc h64 hfr h1 q2 q3 q4 q5
            exact ⟨_, _, ι', F, D', hi, le_rfl' F, hh', hv, hp⟩
        | agg l => rw [hc] at hp; exact hp.elim
        | tup l => rw [hc] at hp; exact hp.elim
        | _ =>
          obtain ⟨d1, h2, h3⟩ := OL_get off q5 ho
          rw [hr0] at h2
          have h4 := (OV_plain (by rw [hc]; rfl) h2).2
          rw [hc] at h4 hp
          exact Nx.same hh h4 hp
      | some m =>
        obtain ⟨⟨ho, hn⟩, hp⟩ := hp
        refine ⟨_, by simp only [cellsAt, grd]; rw [if_pos (by omega)], ?_⟩
        obtain ⟨d1, h2, h3⟩ := OL_seg off m q5
        have h4 := (OL_plain hn h2).2
        rw [List.drop_take, List.take_take, Nat.min_eq_left (by omega)] at h4
        refine Nx.same hh ?_ hp
        simp only [R]
        exact ⟨_, rfl, h4⟩
  · rename_i l off
    obtain ⟨v, hv, hp⟩ := hp
    simp only [R] at hx
    obtain ⟨b, o, own, e, cs, ex, rfl, h2, h3, h4⟩ := hx
    obtain ⟨rv, h5, h6⟩ := vcellsAt_R h4 h3 hv
    exact ⟨rv, by simp only [ald, hh.leF _ _ h2, ldB]; exact h5, Nx.same hh h6 hp⟩

theorem sameB_R {x y : V} {rx ry : Value} (h : sameB x y) (hx : R ι F x rx) (hy : R ι F y ry) : blockOf rx = blockOf ry := by
  cases x <;> cases y <;> simp only [sameB] at h
  · subst h
    simp only [R] at hx hy
    obtain ⟨b1, _, _, h1, rfl⟩ := hx
    obtain ⟨b2, _, _, h2, rfl⟩ := hy
    rw [h1] at h2; cases h2; rfl
  · subst h
    simp only [R] at hx hy
    obtain ⟨b1, _, _, h1, rfl⟩ := hx
    obtain ⟨b2, _, _, _, _, h2, rfl, _⟩ := hy
    rw [h1] at h2; cases h2; rfl

theorem pst_sound {m : Nat} {x a : V} {rx ra : Value} (hh : Hold ι F h D g) (hx : R ι F x rx) (ha : R ι F a ra) {K : V → Hp → Prop} (hp : pst h m (cellsV x) K a) :
    astV m rx.cells.toList g (fun r e => e.ok g → Nx ι F (e.app g) K r) ra := by
  cases a <;> simp only [pst] at hp <;> try exact hp.elim
  rename_i b off
  simp only [R] at ha
  obtain ⟨b', tot, sz0, h1, rfl⟩ := ha
  cases hb : h b with
  | free => simp [hb, pstB] at hp
  | dead => simp [hb, pstB] at hp
  | row e sz cs =>
    obtain ⟨b2, rcs, ex, d', q1, q2, q3, q4, q5, q6, q7⟩ := hh.blk hb
    rw [h1] at q1; cases q1
    simp only [hb, pstB] at hp
    obtain ⟨⟨hm, ho, hc⟩, hp⟩ := hp
    have hok := cellOk_of_all hc
    have hcl := cells_R hok hx
    have hlen := RL_len hcl
    simp only [astV, q6, astB]
    refine ⟨⟨by omega, by omega, all1_R hc hcl⟩, fun _ => ?_⟩
    simp only [Eff.app]
    generalize hvs : cellsV x = vs at *
    generalize hrs : rx.cells.toList = rs at *
    have hrl := OL_len q5
    have hset : setL rcs off rs = rcs.take off ++ rs ++ rcs.drop (off + rs.length) := by
      unfold setL
      split
      · rename_i v
        rw [List.set_eq_take_append_cons_drop, if_pos (by simp at hlen; omega)]
        simp
      · rfl
    have hsetV : setV cs off vs = cs.take off ++ vs ++ cs.drop (off + vs.length) := by
      unfold setV
      split
      · rename_i v
        rw [List.set_eq_take_append_cons_drop, if_pos (by simp at hlen ho; simp at hm; omega)]
        simp
      · rfl
    obtain ⟨d2, h2, h3⟩ := OL_seg_set off q5 hcl (by omega)
    have hl1 : (setL rcs off rs).length = rcs.length := by rw [hset]; simp; omega
    have hl2 : (setV cs off vs).length = cs.length := by rw [hsetV]; simp; omega
    refine Nx.ext (ι' := ι) (iext_refl ι) (hh.turn hb h1 q2 q3 (cs' := setV cs off vs) (rcs' := setL rcs off rs) (d2 := d2) hl1 (by omega) ?_ h3) R_und hp
    rw [hl2, hset, hsetV]
    have : (rcs.take off ++ rs ++ rcs.drop (off + rs.length)).take cs.length = (rcs.take cs.length).take off ++ rs ++ (rcs.take cs.length).drop (off + rs.length) := by
      have hr : rs.length ≤ cs.length - off := by omega
      rw [List.take_append, List.take_append, List.drop_take]
      simp only [List.length_take, List.length_append]
      rw [List.take_take, List.take_take, show min cs.length off = off by omega, show min off cs.length = off by omega, show min off rcs.length = off by omega, List.take_of_length_le hr]
      try (congr 2)
    rw [this]
    exact h2

theorem new_dis {b : Nat} (hn : New g b) (k : Blk) : Dis g (single b k) := dis_single k hn
theorem single_emp (b : Nat) (k : Blk) : join (single b k) emp = single b k := join_emp_r _

theorem pnew_sound {d : Nat} (h64 : 64 ≤ d) (hd : h d = .free) {e : TypeId} {sz : Nat} {cs : List V} {rcs : List Value} {v : V} {r : Nat → Value} (hh : Hold ι F h D g) (hcs : RL ι F cs rcs) {K : V → Hp → Prop}
    (hv : ∀ b, R (iset ι d (b, rcs.length, sz)) F v (r b)) (hp : K v (hput h d (.row e sz cs))) : anew g (.row true e rcs 0) fun b ef => ef.ok g → Nx ι F (ef.app g) K (r b) := by
  intro b hn hok
  simp only [Eff.app]
  have hlen := RL_len hcs
  have hOL := RL_OL cs hcs
  have hadd := hh.add h64 hd (g' := join g (single b (.row true e rcs 0))) (le_join_l (dis_dj (new_dis hn _))) (e := e) (sz := sz) (cs := cs) (b' := b) (rcs := rcs) (ex := 0) (d' := emp) rfl
    (fun x => by rw [single_emp]; exact le_dis (hh.sub x) (new_dis hn _)) (by rw [single_emp]; exact le_dis hh.leF (new_dis hn _)) (by rw [single_emp]; exact le_join_r _ _) (by omega) (by rw [← hlen, List.take_length]; exact hOL)
  exact Nx.ext (iext_iset (hh.dom d h64 hd)) hadd (hv b) hp


theorem hputs_append (h : Hp) : ∀ (a b : List (Nat × TypeId × Nat × List V)), hputs h (a ++ b) = hputs (hputs h a) b
  | [], b => rfl
  | p :: a, b => by simp only [List.cons_append, hputs]; exact hputs_append _ a b
theorem allFree_append (h : Hp) : ∀ (a b : List (Nat × TypeId × Nat × List V)), allFree h (a ++ b) ↔ allFree h a ∧ allFree (hputs h a) b
  | [], b => by simp [allFree, hputs]
  | p :: a, b => by simp only [List.cons_append, allFree, hputs, allFree_append _ a b, and_assoc]

theorem mat_plain {v : V} (hp : plain1 v = true) (c : Nat) : mat v c = (v, [], c) := by
  cases v <;> simp_all [plain1, mat]

theorem mat_ok_plain (v : V) (hp : plain1 v = true) {r : Value} {d : H} (c : Nat) {h : Hp} {ι : Iota} {D : Nat → H} {g g' : H} (hv : OV ι0 F v r d) (hh : Hold ι F h D g) (hg : Le g g') :
    ∃ ι' D', iext ι ι' ∧ Hold ι' F (hputs h (mat v c).2.1) D' g' ∧ R ι' F (mat v c).1 r ∧ ∀ x y, (D' x y).isSome = true → (D x y).isSome = true ∨ (d y).isSome = true := by
  obtain ⟨rfl, hr⟩ := OV_plain hp hv
  rw [mat_plain hp]
  exact ⟨ι, D, iext_refl ι, ⟨hh.live, hh.idle, fun b => le_trans' (hh.sub b) hg, hh.dj, hh.djF, hh.dom, le_trans' hh.leF hg⟩, R_mono (ι0_ext ι) (le_rfl' F) _ hr, fun x y hx => .inl hx⟩

mutual
theorem mat_up : ∀ (v : V) (c : Nat), c ≤ (mat v c).2.2
  | .own e sz n l, c => by simp [mat]
  | .agg l, c => by simpa only [mat] using mats_up l c
  | .tup l, c => by simpa only [mat] using mats_up l c
  | .und, c => by simp [mat]
  | .int _ _, c => by simp [mat]
  | .bool _, c => by simp [mat]
  | .str _, c => by simp [mat]
  | .ptr _ _, c => by simp [mat]
  | .nilp, c => by simp [mat]
  | .pf _ _, c => by simp [mat]
  | .sl _ _, c => by simp [mat]
  | .rf _ _ _, c => by simp [mat]
  | .nils, c => by simp [mat]
  | .fn _ _, c => by simp [mat]
  | .fz _ _, c => by simp [mat]
theorem mats_up : ∀ (l : List V) (c : Nat), c ≤ (mats l c).2.2
  | [], c => by simp [mats]
  | v :: l, c => by
    simp only [mats]
    exact Nat.le_trans (mat_up v c) (mats_up l _)
end
mutual
/-- Own memory gets names. -/
theorem mat_ok : ∀ (v : V) {r : Value} {d : H} (c : Nat) {h : Hp} {ι : Iota} {D : Nat → H} {g g' : H}, 64 ≤ c → OV ι0 F v r d → Hold ι F h D g → (∀ x, Dj (D x) d) → Dj F d → Le g g' → Le d g' → allFree h (mat v c).2.1 →
    ∃ ι' D', iext ι ι' ∧ Hold ι' F (hputs h (mat v c).2.1) D' g' ∧ R ι' F (mat v c).1 r ∧ ∀ x y, (D' x y).isSome = true → (D x y).isSome = true ∨ (d y).isSome = true
  | .own e sz n l, r, d, c, h, ι, D, g, g', h64, hv, hh, hD, hF, hg, hd, hf => by
    simp only [OV] at hv
    obtain ⟨b, cp, rcs, ex, d', rfl, h2, h3, h4, h5, h6, rfl, h8, h9⟩ := hv
    simp only [mat, allFree, and_true] at hf
    have hadd := hh.add h64 hf hg (e := e) (sz := sz) (cs := l) h8 hD hF hd h6 (OL_mono (ι0_ext ι) (le_rfl' F) _ h9)
    refine ⟨_, _, iext_iset (hh.dom c h64 hf), hadd, ?_, ?_⟩
    · simp only [mat, R]
      exact ⟨b, _, sz, 0, cp, if_pos rfl, rfl, fun _ => rfl, h2, h3, fun _ => ⟨h4, h5⟩⟩
    · intro x y hx
      simp only [dset] at hx
      split at hx
      · exact .inr hx
      · exact .inl hx
  | .agg l, r, d, c, h, ι, D, g, g', h64, hv, hh, hD, hF, hg, hd, hf => by
    simp only [OV] at hv
    obtain ⟨cs, rfl, hv⟩ := hv
    obtain ⟨ι', D', h1, h2, h3, h4⟩ := mats_ok l c h64 hv hh hD hF hg hd (by simpa only [mat] using hf)
    exact ⟨ι', D', h1, by simpa only [mat] using h2, by simp only [mat, R]; exact ⟨cs, rfl, h3⟩, h4⟩
  | .tup l, r, d, c, h, ι, D, g, g', h64, hv, hh, hD, hF, hg, hd, hf => by
    simp only [OV] at hv
    obtain ⟨cs, rfl, hv⟩ := hv
    obtain ⟨ι', D', h1, h2, h3, h4⟩ := mats_ok l c h64 hv hh hD hF hg hd (by simpa only [mat] using hf)
    exact ⟨ι', D', h1, by simpa only [mat] using h2, by simp only [mat, R]; exact ⟨cs, rfl, h3⟩, h4⟩
  | .und, r, d, c, h, ι, D, g, g', h64, hv, hh, hD, hF, hg, hd, hf => mat_ok_plain (.und) rfl c hv hh hg
  | .int k n, r, d, c, h, ι, D, g, g', h64, hv, hh, hD, hF, hg, hd, hf => mat_ok_plain (.int k n) rfl c hv hh hg
  | .bool b, r, d, c, h, ι, D, g, g', h64, hv, hh, hD, hF, hg, hd, hf => mat_ok_plain (.bool b) rfl c hv hh hg
  | .str s, r, d, c, h, ι, D, g, g', h64, hv, hh, hD, hF, hg, hd, hf => mat_ok_plain (.str s) rfl c hv hh hg
  | .ptr b o, r, d, c, h, ι, D, g, g', h64, hv, hh, hD, hF, hg, hd, hf => mat_ok_plain (.ptr b o) rfl c hv hh hg
  | .nilp, r, d, c, h, ι, D, g, g', h64, hv, hh, hD, hF, hg, hd, hf => mat_ok_plain (.nilp) rfl c hv hh hg
  | .pf l o, r, d, c, h, ι, D, g, g', h64, hv, hh, hD, hF, hg, hd, hf => mat_ok_plain (.pf l o) rfl c hv hh hg
  | .sl n l, r, d, c, h, ι, D, g, g', h64, hv, hh, hD, hF, hg, hd, hf => mat_ok_plain (.sl n l) rfl c hv hh hg
  | .rf b o n, r, d, c, h, ι, D, g, g', h64, hv, hh, hD, hF, hg, hd, hf => mat_ok_plain (.rf b o n) rfl c hv hh hg
  | .nils, r, d, c, h, ι, D, g, g', h64, hv, hh, hD, hF, hg, hd, hf => mat_ok_plain (.nils) rfl c hv hh hg
  | .fn f l, r, d, c, h, ι, D, g, g', h64, hv, hh, hD, hF, hg, hd, hf => mat_ok_plain (.fn f l) rfl c hv hh hg
  | .fz x l, r, d, c, h, ι, D, g, g', h64, hv, hh, hD, hF, hg, hd, hf => mat_ok_plain (.fz x l) rfl c hv hh hg
theorem mats_ok : ∀ (l : List V) {r : List Value} {d : H} (c : Nat) {h : Hp} {ι : Iota} {D : Nat → H} {g g' : H}, 64 ≤ c → OL ι0 F l r d → Hold ι F h D g → (∀ x, Dj (D x) d) → Dj F d → Le g g' → Le d g' → allFree h (mats l c).2.1 →
    ∃ ι' D', iext ι ι' ∧ Hold ι' F (hputs h (mats l c).2.1) D' g' ∧ RL ι' F (mats l c).1 r ∧ ∀ x y, (D' x y).isSome = true → (D x y).isSome = true ∨ (d y).isSome = true
  | [], r, d, c, h, ι, D, g, g', h64, hv, hh, hD, hF, hg, hd, hf => by
    simp only [OL] at hv
    obtain ⟨rfl, rfl⟩ := hv
    refine ⟨ι, D, iext_refl ι, ⟨hh.live, hh.idle, fun b => le_trans' (hh.sub b) hg, hh.dj, hh.djF, hh.dom, le_trans' hh.leF hg⟩, by simp [mats, RL], fun x y hx => .inl hx⟩
  | v :: l, r, d, c, h, ι, D, g, g', h64, hv, hh, hD, hF, hg, hd, hf => by
    simp only [OL] at hv
    obtain ⟨x, r', d1, d2, rfl, rfl, hdj, h1, h2⟩ := hv
    simp only [mats] at hf ⊢
    rw [allFree_append] at hf
    rw [join_le_iff hdj] at hd
    rw [dj_join_r] at hF
    obtain ⟨ι1, D1, i1, hh1, r1, k1⟩ := mat_ok v c h64 h1 hh (fun x => (dj_join_r.1 (hD x)).1) hF.1 hg hd.1 hf.1
    have hD1 : ∀ x, Dj (D1 x) d2 := fun x y => by
      cases hy : D1 x y with
      | none => exact .inl rfl
      | some k =>
        rcases k1 x y (by simp [hy]) with h | h
        · rcases (dj_join_r.1 (hD x)).2 y with h' | h'
          · rw [h'] at h; cases h
          · exact .inr h'
        · rcases hdj y with h' | h'
          · rw [h'] at h; cases h
          · exact .inr h'
    obtain ⟨ι2, D2, i2, hh2, r2, k2⟩ := mats_ok l (mat v c).2.2 (Nat.le_trans h64 (mat_up v c)) h2 hh1 hD1 hF.2 (le_rfl' g') hd.2 hf.2
    refine ⟨ι2, D2, fun b p hb => i2 _ _ (i1 _ _ hb), by rw [hputs_append]; exact hh2, ?_, ?_⟩
    · simp only [RL]
      exact ⟨x, r', rfl, R_mono i2 (le_rfl' F) _ r1, r2⟩
    · intro x y hx
      rcases k2 x y hx with h | h
      · rcases k1 x y h with h | h
        · exact .inl h
        · exact .inr (by simp only [join]; cases d2 y <;> simp_all)
      · exact .inr (by simp only [join]; cases h' : d2 y <;> simp_all)
end

theorem Hold.frz {d : H} (hh : Hold ι F h D g) (hd : Dis g d) : Hold ι (join F d) h D (join g d) := by
  have hFd : Dj F d := dj_of_le (dis_dj hd) hh.leF
  constructor
  · intro b e sz cs hb; exact LiveB_mono (iext_refl ι) (le_join_l hFd) (hh.live b e sz cs hb)
  · exact hh.idle
  · intro b; exact le_trans' (hh.sub b) (le_join_l (dis_dj hd))
  · exact hh.dj
  · intro b; exact dj_join_r.2 ⟨hh.djF b, le_dis (hh.sub b) hd⟩
  · exact hh.dom
  · exact le_join_of (le_trans' hh.leF (le_join_l (dis_dj hd))) (le_join_r _ _)

theorem pure_sound {f : FuncId} {vs : List V} {rs : List Value} {d : Nat} (h64 : 64 ≤ d) (hh : Hold ι F h D g) (hvs : RL ι F vs rs) {K : V → Hp → Prop} (hp : Pure P f vs d h K) :
    ∃ Φ, Spec P f rs g Φ ∧ ∀ r d', Φ r d' → Dis g d' → Nx ι F (join g d') K r := by
  rcases hp with ⟨Φ, hs, hK⟩ | ⟨hn, Φ, hs, hK⟩
  rotate_left
  · refine ⟨_, (hs F rs (nrfs_R vs hn hvs)).mono hh.leF, ?_⟩
    rintro r d' ⟨v, d1, d2, hv, rfl, hdj, hov⟩ hdis
    have hd1 : Dis g d1 := fun x hx => hdis x (by simp only [join]; cases hy : d2 x <;> simp_all)
    have hd2 : Dis g d2 := fun x hx => hdis x (by simp only [join]; cases hy : d2 x <;> simp_all)
    have hFd : Dj F (join d1 d2) := dj_of_le (dis_dj hdis) hh.leF
    rcases hK with hK | hK
    · refine ⟨vw v, h, ι, join F (join d1 d2), D, iext_refl ι, le_join_l hFd, hh.frz hdis, ?_, hK v hv⟩
      refine vw_OV (F := join F d1) (ι' := ι) ?_ v hov (fun x k hx => by simp only [join, hx, Option.some_or])
      rw [← join_assoc]
      exact le_join_l (dj_join_l.2 ⟨(dj_join_r.1 hFd).2, hdj⟩)
    · obtain ⟨hf, hK⟩ := hK v hv
      have hh1 := hh.frz hd1
      obtain ⟨ι', D', h1, h2, h3, _⟩ := mat_ok (F := join F d1) v d h64 (OV_mono (iext_refl ι0) (le_rfl' _) _ hov) hh1 (fun x => le_dis (hh.sub x) hd2) (dj_join_l.2 ⟨(dj_join_r.1 hFd).2, hdj⟩) (g' := join g (join d1 d2))
        (by rw [← join_assoc]; exact le_join_l (dj_join_l.2 ⟨dis_dj hd2, hdj⟩)) (fun x k hx => by simp only [join, hx, Option.some_or]) hf
      exact ⟨_, _, ι', join F d1, D', h1, le_join_l (dj_join_r.1 hFd).1, h2, h3, hK⟩
  refine ⟨_, hs g rs (dvs_RL hh vs hvs), ?_⟩
  rintro r d' ⟨v, hv, hov⟩ hdis
  rcases hK with hK | hK
  · have hFd : Dj F d' := dj_of_le (dis_dj hdis) hh.leF
    refine ⟨vw v, h, ι, join F d', D, iext_refl ι, le_join_l hFd, hh.frz hdis, ?_, hK v hv⟩
    exact vw_OV (ι' := ι) (emp_le _) v hov (le_join_r _ _)
  · obtain ⟨hf, hK⟩ := hK v hv
    obtain ⟨ι', D', h1, h2, h3, _⟩ := mat_ok (F := F) v d h64 (OV_mono (iext_refl ι0) (emp_le F) _ hov) hh (fun x => le_dis (hh.sub x) hdis) (le_dis hh.leF hdis) (le_join_l (dis_dj hdis)) (le_join_r _ _) hf
    exact Nx.ext h1 h2 h3 hK

/-! ### Calls that turn blocks -/
theorem nm_some : ∀ {bs : List Nat} {b j : Nat}, nm bs b = some j → bs[j]? = some b
  | [], b, j, h => by simp [nm] at h
  | a :: l, b, j, h => by
    simp only [nm] at h
    split at h
    · rename_i e; cases h; simp [e]
    · simp only [Option.map_eq_some_iff] at h
      obtain ⟨i, h1, rfl⟩ := h
      simpa using nm_some h1
theorem nm_none : ∀ {bs : List Nat} {b : Nat}, nm bs b = none → b ∉ bs
  | [], b, h => by simp
  | a :: l, b, h => by
    simp only [nm] at h
    split at h
    · cases h
    · rename_i e
      simp only [Option.map_eq_none_iff] at h
      simp only [List.mem_cons, not_or]
      exact ⟨e, nm_none h⟩
theorem nm_at : ∀ {bs : List Nat} {b j : Nat}, bs.Nodup → bs[j]? = some b → nm bs b = some j
  | [], b, j, hn, h => by simp at h
  | a :: l, b, 0, hn, h => by simp at h; simp [nm, h]
  | a :: l, b, j + 1, hn, h => by
    simp only [List.getElem?_cons_succ] at h
    simp only [List.nodup_cons] at hn
    have hm : b ∈ l := List.mem_of_getElem? h
    have : ¬ b = a := fun e => hn.1 (e ▸ hm)
    simp only [nm, if_neg this, nm_at hn.2 h, Option.map_some]

theorem handB_ok {h : Hp} : ∀ {bs : List Nat} {j : Nat} {bx : List (Nat × TypeId × Nat)} {cells : List (List V)}, handB h bs j = some (bx, cells) →
    bx.length = bs.length ∧ cells.length = bs.length ∧ ∀ i b, bs[i]? = some b → ∃ e sz cs, bx[i]? = some (j + i, e, sz) ∧ cells[i]? = some cs ∧ h b = .row e sz cs
  | [], j, bx, cells, hh => by
    simp only [handB, Option.some.injEq, Prod.mk.injEq] at hh
    obtain ⟨rfl, rfl⟩ := hh
    simp
  | a :: l, j, bx, cells, hh => by
    simp only [handB] at hh
    split at hh
    · rename_i e sz cs hb
      simp only [Option.map_eq_some_iff, Prod.mk.injEq] at hh
      obtain ⟨⟨bx2, cells2⟩, h1, rfl, rfl⟩ := hh
      obtain ⟨h2, h3, h4⟩ := handB_ok h1
      refine ⟨by simp [h2], by simp [h3], fun i b hi => ?_⟩
      cases i with
      | zero => simp at hi; subst hi; exact ⟨e, sz, cs, by simp, by simp, hb⟩
      | succ i =>
        obtain ⟨e, sz, cs, g1, g2, g3⟩ := h4 i b (by simpa using hi)
        exact ⟨e, sz, cs, by simp [g1]; omega, by simpa using g2, g3⟩
    · cases hh

/-- The heap that such a call sees. -/
theorem hputb_hand : ∀ {bx : List (Nat × TypeId × Nat)} {cells : List (List V)} {j0 : Nat}, cells.length = bx.length → (∀ i p, bx[i]? = some p → p.1 = j0 + i) →
    ∀ x, hputb hnil bx cells x = if x < j0 then .free else match bx[x - j0]?, cells[x - j0]? with
      | some p, some cs => .row p.2.1 p.2.2 cs
      | _, _ => .free
  | [], cells, j0, hl, hp, x => by simp [hputb, hnil]
  | p :: bx, [], j0, hl, hp, x => by simp at hl
  | p :: bx, cs :: cells, j0, hl, hp, x => by
    have h0 := hp 0 p (by simp)
    simp only [Nat.add_zero] at h0
    have ih := hputb_hand (bx := bx) (cells := cells) (j0 := j0 + 1) (by simpa using hl) (fun i q hq => by rw [hp (i + 1) q (by simpa using hq)]; omega) x
    simp only [hputb, hput, h0, ih]
    by_cases h1 : x = j0
    · subst h1; simp
    · rw [if_neg h1]
      by_cases h2 : x < j0
      · rw [if_pos h2, if_pos (by omega)]
      · rw [if_neg h2, if_neg (by omega), show x - j0 = (x - (j0 + 1)) + 1 from by omega]
        simp

theorem hputs2_at : ∀ {bs : List Nat} {bx : List (Nat × TypeId × Nat)} {cs : List (List V)} {h : Hp}, bs.Nodup → bx.length = bs.length → cs.length = bs.length → ∀ b,
    (nm bs b = none → hputs2 h bs bx cs b = h b) ∧ ∀ j, nm bs b = some j → ∃ p c, bx[j]? = some p ∧ cs[j]? = some c ∧ hputs2 h bs bx cs b = .row p.2.1 p.2.2 c
  | [], bx, cs, h, hn, h1, h2, b => by cases bx <;> simp [nm, hputs2]
  | a :: l, [], cs, h, hn, h1, h2, b => by simp at h1
  | a :: l, p :: bx, [], h, hn, h1, h2, b => by simp at h2
  | a :: l, p :: bx, c :: cs, h, hn, h1, h2, b => by
    simp only [List.nodup_cons] at hn
    obtain ⟨g1, g2⟩ := hputs2_at (h := hput h a (.row p.2.1 p.2.2 c)) hn.2 (by simpa using h1) (by simpa using h2) b
    simp only [hputs2, nm]
    by_cases e : b = a
    · subst e
      have hnn : nm l b = none := by
        cases hx : nm l b with
        | none => rfl
        | some j => exact absurd (List.mem_of_getElem? (nm_some hx)) hn.1
      refine ⟨by simp, fun j hj => ?_⟩
      simp only [if_true, Option.some.injEq] at hj
      subst hj
      exact ⟨p, c, by simp, by simp, by rw [g1 hnn]; simp [hput]⟩
    · simp only [if_neg e]
      refine ⟨fun hx => ?_, fun j hj => ?_⟩
      · simp only [Option.map_eq_none_iff] at hx
        rw [g1 hx]; simp [hput, e]
      · simp only [Option.map_eq_some_iff] at hj
        obtain ⟨i, hi, rfl⟩ := hj
        obtain ⟨q, c2, k1, k2, k3⟩ := g2 i hi
        exact ⟨q, c2, by simpa using k1, by simpa using k2, k3⟩

/-- All but the blocks that are handed on: it is not written in such a call. -/
noncomputable def keepF (F : H) (D : Nat → H) (g : H) (bs : List Nat) : H := fun x => by
  classical exact if (F x).isSome = true ∨ ∃ b, b ∉ bs ∧ (D b x).isSome = true then g x else none
theorem keepF_F (hh : Hold ι F h D g) (bs : List Nat) : Le F (keepF F D g bs) := fun x k hx => by
  simp only [keepF, hx, Option.isSome_some, true_or, if_true]; exact hh.leF _ _ hx
theorem keepF_D (hh : Hold ι F h D g) {bs : List Nat} {b : Nat} (hb : b ∉ bs) : Le (D b) (keepF F D g bs) := fun x k hx => by
  have : (F x).isSome = true ∨ ∃ b, b ∉ bs ∧ (D b x).isSome = true := .inr ⟨b, hb, by simp [hx]⟩
  simp only [keepF, if_pos this]; exact hh.sub b _ _ hx
theorem keepF_g {bs : List Nat} : Le (keepF F D g bs) g := fun x k hx => by
  simp only [keepF] at hx
  split at hx
  · exact hx
  · cases hx
theorem keepF_dj (hh : Hold ι F h D g) {bs : List Nat} {b : Nat} (hb : b ∈ bs) : Dj (D b) (keepF F D g bs) := fun x => by
  cases hx : D b x with
  | none => exact .inl rfl
  | some k =>
    right
    simp only [keepF]
    rw [if_neg]
    rintro (h1 | ⟨b2, h1, h2⟩)
    · rcases hh.djF b x with h | h
      · rw [h] at hx; cases hx
      · rw [h] at h1; cases h1
    · rcases hh.dj b b2 (fun e => h1 (e ▸ hb)) x with h | h
      · rw [h] at hx; cases hx
      · rw [h] at h2; cases h2

theorem Hold.rest (hh : Hold ι F h D g) (bs : List Nat) : Hold ι F (fun b => if b ∈ bs then .dead else h b) (fun b => if b ∈ bs then emp else D b) (keepF F D g bs) := by
  constructor
  · intro b e sz cs hb
    by_cases hm : b ∈ bs
    · simp [hm] at hb
    · simp only [if_neg hm] at hb ⊢; exact hh.live b _ _ _ hb
  · intro b hb
    by_cases hm : b ∈ bs
    · simp [hm]
    · simp only [if_neg hm] at hb ⊢; exact hh.idle b hb
  · intro b
    by_cases hm : b ∈ bs
    · simp only [if_pos hm]; exact emp_le _
    · simp only [if_neg hm]; exact keepF_D hh hm
  · intro b b2 hne
    by_cases hm : b ∈ bs
    · simp only [if_pos hm]; exact dj_emp_l _
    · by_cases hm2 : b2 ∈ bs
      · simp only [if_pos hm2]; exact dj_emp_r _
      · simp only [if_neg hm, if_neg hm2]; exact hh.dj b b2 hne
  · intro b
    by_cases hm : b ∈ bs
    · simp only [if_pos hm]; exact dj_emp_l _
    · simp only [if_neg hm]; exact hh.djF b
  · intro b h64 hb
    by_cases hm : b ∈ bs
    · simp [hm] at hb
    · simp only [if_neg hm] at hb; exact hh.dom b h64 hb
  · exact keepF_F hh bs

/-- Where such a call sees the blocks. -/
def handI (ι : Iota) (bs : List Nat) : Iota := fun j => (bs[j]?).bind ι

section
variable {bs : List Nat}
mutual
theorem mv_R (hh : Hold ι F h D g) : ∀ (v : V) {r : Value}, R ι F v r → R (handI ι bs) (keepF F D g bs) (mv bs h v) r
  | .und, _, hr => by simp [mv, R]
  | .int _ _, _, hr => by simpa [mv, R] using hr
  | .bool _, _, hr => by simpa [mv, R] using hr
  | .str _, _, hr => by simpa [mv, R] using hr
  | .agg l, _, hr => by
    simp only [R] at hr; simp only [mv, R]; obtain ⟨cs, h1, h2⟩ := hr; exact ⟨cs, h1, mvs_R hh l h2⟩
  | .tup l, _, hr => by
    simp only [R] at hr; simp only [mv, R]; obtain ⟨cs, h1, h2⟩ := hr; exact ⟨cs, h1, mvs_R hh l h2⟩
  | .ptr b off, r, hr => by
    simp only [mv]
    cases hn : nm bs b with
    | none =>
      have hb := nm_none hn
      have := dv_R (ι' := handI ι bs) (hh.rest bs) (.ptr b off) hr
      simp only [dv, if_neg hb] at this
      simpa only [mvP, dv] using this
    | some j =>
      simp only [mvP, R] at hr ⊢
      obtain ⟨b', tot, sz, h1, h2⟩ := hr
      exact ⟨b', tot, sz, by simp [handI, nm_some hn, h1], h2⟩
  | .nilp, _, hr => by simpa [mv, R] using hr
  | .pf l off, _, hr => by
    have := vw_R (ι' := handI ι bs) (keepF_F hh bs) _ hr; simpa only [mv, vw] using this
  | .sl n l, _, hr => by
    have := vw_R (ι' := handI ι bs) (keepF_F hh bs) _ hr; simpa only [mv, vw] using this
  | .rf b off n, r, hr => by
    simp only [mv]
    cases hn : nm bs b with
    | none =>
      have hb := nm_none hn
      have := dv_R (ι' := handI ι bs) (hh.rest bs) (.rf b off n) hr
      simp only [dv, if_neg hb] at this
      simpa only [mvR, dv] using this
    | some j =>
      simp only [mvR, R] at hr ⊢
      obtain ⟨b', tot, sz, off', c, h1, h2⟩ := hr
      exact ⟨b', tot, sz, off', c, by simp [handI, nm_some hn, h1], h2⟩
  | .nils, _, hr => by simpa [mv, R] using hr
  | .own .., _, hr => by simp [R] at hr
  | .fn f l, _, hr => by
    simp only [R] at hr; simp only [mv, R]; obtain ⟨cs, h1, h2⟩ := hr; exact ⟨cs, h1, mvs_R hh l h2⟩
  | .fz x l, _, hr => by
    have := vw_R (ι' := handI ι bs) (keepF_F hh bs) _ hr; simpa only [mv, vw] using this
theorem mvs_R (hh : Hold ι F h D g) : ∀ (l : List V) {r : List Value}, RL ι F l r → RL (handI ι bs) (keepF F D g bs) (mvs bs h l) r
  | [], _, hr => by simpa [mvs, RL] using hr
  | a :: l, _, hr => by
    simp only [RL] at hr; simp only [mvs, RL]; obtain ⟨v, r', h1, h2, h3⟩ := hr; exact ⟨v, r', h1, mv_R hh a h2, mvs_R hh l h3⟩
end
end

theorem closs_at : ∀ {cs : List (List V)} {j : Nat} {c : List V}, closs cs = true → cs[j]? = some c → clos c = true
  | [], j, c, h, hc => by simp at hc
  | a :: l, 0, c, h, hc => by simp only [closs, Bool.and_eq_true] at h; simp at hc; subst hc; exact h.1
  | a :: l, j + 1, c, h, hc => by simp only [closs, Bool.and_eq_true] at h; exact closs_at h.2 (by simpa using hc)
theorem closK_at : ∀ {k cs : List (List V)} {j : Nat} {c : List V}, closK k cs → cs[j]? = some c → clos c = true ∨ ∃ a, k[j]? = some a ∧ fzH a c
  | _, [], j, c, h, hc => by simp at hc
  | [], a :: l, 0, c, h, hc => by simp only [closK] at h; simp at hc; subst hc; exact .inl h.1
  | [], a :: l, j + 1, c, h, hc => by
    simp only [closK] at h
    rcases closK_at h.2 (show l[j]? = some c by simpa using hc) with h1 | ⟨a, h1, _⟩
    · exact .inl h1
    · simp at h1
  | b :: k, a :: l, 0, c, h, hc => by
    simp only [closK] at h; simp at hc; subst hc
    rcases h.1 with h1 | h1
    · exact .inl h1
    · exact .inr ⟨b, by simp, h1⟩
  | b :: k, a :: l, j + 1, c, h, hc => by
    simp only [closK] at h
    rcases closK_at h.2 (show l[j]? = some c by simpa using hc) with h1 | ⟨a, h1, h2⟩
    · exact .inl h1
    · exact .inr ⟨a, by simpa using h1, h2⟩
/-- What a call leaves is told where it was called. -/
theorem closK_OL {k cs : List (List V)} {j : Nat} {c : List V} {ι ι' ι2 : Iota} {F F' F2 : H} {r r0 : List Value} {d d0 : H} (h : closK k cs) (hc : cs[j]? = some c) (hk : ∀ a, k[j]? = some a → ∃ r d, OL ι F a r d) (ho : OL ι' F' c r d) : OL ι2 F c r d := by
  rcases closK_at h hc with h1 | ⟨a, h1, h2⟩
  · exact clos_OL _ h1 ho
  · obtain ⟨r1, d1, ha⟩ := hk a h1
    match a, c, h2 with
    | .fz x l :: _, .fz y m :: c', h2 =>
      obtain ⟨⟨rfl, rfl⟩, h3⟩ := h2
      simp only [OL, OV, R] at ha ho ⊢
      obtain ⟨v, r', e1, e2, q1, q2, q3, ⟨q4, q5, q6⟩, q7⟩ := ho
      obtain ⟨v2, r2', e3, e4, _, _, _, ⟨_, p5, p6⟩, _⟩ := ha
      exact ⟨v, r', e1, e2, q1, q2, q3, ⟨q4, q5, by rw [q5, ← p5]; exact p6⟩, clos_OL _ h3 q7⟩
theorem nrfss_at : ∀ {cs : List (List V)} {j : Nat} {c : List V}, nrfss cs = true → cs[j]? = some c → nrfs c = true
  | [], j, c, h, hc => by simp at hc
  | a :: l, 0, c, h, hc => by simp only [nrfss, Bool.and_eq_true] at h; simp at hc; subst hc; exact h.1
  | a :: l, j + 1, c, h, hc => by simp only [nrfss, Bool.and_eq_true] at h; exact nrfss_at h.2 (by simpa using hc)

theorem turnsA_sound {f : FuncId} {vs : List V} {rs : List Value} {d : Nat} (h64 : 64 ≤ d) (hh : Hold ι F h D g) (hvs : RL ι F vs rs) {K : V → Hp → Prop} (hp : TurnsA P f vs d h K) :
    ∃ Φ, SpecW P f rs g Φ ∧ ∀ r g', Φ r g' → Nx ι F g' K r := by
  obtain ⟨bs, hbs, h1, hcl, ⟨bx, cells⟩, hhand, hn, Φ, hs, hK⟩ := hp
  simp only [Bool.and_eq_true, decide_eq_true_eq] at hbs
  obtain ⟨hnd, hlen⟩ := hbs
  simp only at hn hs hK
  obtain ⟨D1, hh1, _⟩ := hh.closeAll hcl
  obtain ⟨hb1, hb2, hb3⟩ := handB_ok hhand
  have hpos : ∀ i p, bx[i]? = some p → p.1 = 0 + i := fun i p hp => by
    have hi : i < bs.length := by rw [← hb1]; exact (List.getElem?_eq_some_iff.1 hp).1
    obtain ⟨e, sz, cs, g1, _, _⟩ := hb3 i bs[i] (by simp [hi])
    rw [hp] at g1; cases g1; rfl
  -- what the call sees
  have hold : Hold (handI ι bs) (keepF F D1 g bs) (hputb hnil bx cells) (fun j => match bs[j]? with | some b => D1 b | none => emp) g := by
    have hat := hputb_hand (by omega) hpos (cells := cells)
    simp only [Nat.not_lt_zero, if_false, Nat.sub_zero] at hat
    constructor
    · intro j e sz cs hj
      rw [hat j] at hj
      cases hbj : bs[j]? with
      | none =>
        have : bx[j]? = none := by rw [List.getElem?_eq_none_iff] at hbj ⊢; omega
        rw [this] at hj; cases hj
      | some b =>
        obtain ⟨e', sz', cs', g1, g2, g3⟩ := hb3 j b hbj
        rw [g1, g2] at hj
        simp only [Slot.row.injEq] at hj
        obtain ⟨rfl, rfl, rfl⟩ := hj
        obtain ⟨b', rcs, ex, d', q1, q2, q3, q4, q5⟩ := hh1.live b _ _ _ g3
        exact ⟨b', rcs, ex, d', by simp [handI, hbj, q1], q2, q3, q4, OL_mono (iext_refl _) (keepF_F hh1 bs) _ (nrfs_OL _ (nrfss_at hn g2) q5)⟩
    · intro j hj
      cases hbj : bs[j]? with
      | none => rfl
      | some b =>
        obtain ⟨e', sz', cs', g1, g2, g3⟩ := hb3 j b hbj
        exact absurd (by rw [hat j, g1, g2]) (hj e' sz' cs')
    · intro j
      cases hbj : bs[j]? with
      | none => exact emp_le g
      | some b => exact hh1.sub b
    · intro j j2 hne
      cases hbj : bs[j]? with
      | none => exact dj_emp_l _
      | some b =>
        cases hbj2 : bs[j2]? with
        | none => exact dj_emp_r _
        | some b2 =>
          refine hh1.dj b b2 fun e => hne ?_
          subst e
          have := nm_at hnd hbj
          rw [nm_at hnd hbj2] at this
          exact (Option.some.inj this).symm
    · intro j
      cases hbj : bs[j]? with
      | none => exact dj_emp_l _
      | some b => exact keepF_dj hh1 (List.mem_of_getElem? hbj)
    · intro j hj _
      have : bs[j]? = none := by rw [List.getElem?_eq_none_iff]; omega
      simp [handI, this]
    · exact keepF_g
  refine ⟨_, hs _ _ _ rs g hold (mvs_R hh1 vs hvs), ?_⟩
  rintro r g' ⟨v, cs, hΦ, hclo, hcl2, F', D', d', hF', hold', hov, hle, hdF, hdD⟩
  -- what is known behind it
  have hcl3 : cs.length = bs.length := by omega
  have hat' := hputb_hand (by omega) hpos (cells := cs)
  simp only [Nat.not_lt_zero, if_false, Nat.sub_zero] at hat'
  have hat := hputs2_at (h := h1) hnd hb1 hcl3
  have hFF : Le F F' := le_trans' (keepF_F hh1 bs) hF'
  have hDF : ∀ b, nm bs b = none → Le (D1 b) F' := fun b hb => le_trans' (keepF_D hh1 (nm_none hb)) hF'
  have hold2 : Hold ι F (hputs2 h1 bs bx cs) (fun b => match nm bs b with | some j => D' j | none => D1 b) g' := by
    constructor
    · intro b e sz c hb
      cases hnb : nm bs b with
      | none =>
        rw [(hat b).1 hnb] at hb
        exact hh1.live b _ _ _ hb
      | some j =>
        obtain ⟨p, c', k1, k2, k3⟩ := (hat b).2 j hnb
        rw [k3] at hb
        simp only [Slot.row.injEq] at hb
        obtain ⟨rfl, rfl, rfl⟩ := hb
        obtain ⟨b', rcs, ex, d2, q1, q2, q3, q4, q5⟩ := hold'.live j p.2.1 p.2.2 c' (by rw [hat' j, k1, k2])
        simp only [handI, nm_some hnb, Option.bind_some] at q1
        exact ⟨b', rcs, ex, d2, q1, q2, q3, q4, closK_OL (ι := ι) (ι2 := ι) (r0 := []) (d0 := emp) (F2 := F) hclo k2 (fun a ha => by
          obtain ⟨e3, sz3, cs3, w1, w2, w3⟩ := hb3 j b (nm_some hnb)
          rw [w2] at ha; cases ha
          obtain ⟨_, rcs3, _, d3, _, _, _, _, w5⟩ := hh1.live b _ _ _ w3
          exact ⟨_, _, w5⟩) q5⟩
    · intro b hb
      cases hnb : nm bs b with
      | none => exact hh1.idle b fun e sz c hx => hb e sz c (by rw [(hat b).1 hnb]; exact hx)
      | some j =>
        obtain ⟨p, c', k1, k2, k3⟩ := (hat b).2 j hnb
        exact absurd k3 (hb _ _ _)
    · intro b
      cases hnb : nm bs b with
      | none => exact le_trans' (hDF b hnb) hold'.leF
      | some j => exact hold'.sub j
    · intro b b2 hne
      cases hnb : nm bs b with
      | none =>
        cases hnb2 : nm bs b2 with
        | none => exact hh1.dj b b2 hne
        | some j => exact (dj_of_le (hold'.djF j).symm (hDF b hnb))
      | some i =>
        cases hnb2 : nm bs b2 with
        | none => exact (dj_of_le (hold'.djF i).symm (hDF b2 hnb2)).symm
        | some j =>
          refine hold'.dj i j fun e => hne ?_
          subst e
          have := nm_some hnb
          rw [nm_some hnb2] at this
          exact (Option.some.inj this).symm
    · intro b
      cases hnb : nm bs b with
      | none => exact hh1.djF b
      | some j => exact (dj_of_le (hold'.djF j).symm hFF).symm
    · intro b hb64 hb
      cases hnb : nm bs b with
      | none => rw [(hat b).1 hnb] at hb; exact hh1.dom b hb64 hb
      | some j =>
        obtain ⟨p, c', k1, k2, k3⟩ := (hat b).2 j hnb
        rw [k3] at hb; cases hb
    · exact le_trans' hFF hold'.leF
  have hdF2 : Dj F d' := dj_of_le hdF.symm hFF
  have hdD2 : ∀ b, Dj (match nm bs b with | some j => D' j | none => D1 b) d' := fun b => by
    cases hnb : nm bs b with
    | none => exact dj_of_le hdF.symm (hDF b hnb)
    | some j => exact (hdD j).symm
  rcases hK with hK | hK
  · refine ⟨vw v, _, ι, join F d', (fun b => match nm bs b with | some j => D' j | none => D1 b), iext_refl ι, le_join_l hdF2, ?_, vw_OV (ι' := ι) (emp_le _) v hov (le_join_r _ _), hK v cs hΦ⟩
    constructor
    · intro b e sz c hb; exact LiveB_mono (iext_refl ι) (le_join_l hdF2) (hold2.live b e sz c hb)
    · exact hold2.idle
    · exact hold2.sub
    · exact hold2.dj
    · intro b; exact dj_join_r.2 ⟨hold2.djF b, hdD2 b⟩
    · exact hold2.dom
    · exact le_join_of hold2.leF hle
  · obtain ⟨hf, hK⟩ := hK v cs hΦ
    obtain ⟨ι', D3, i1, i2, i3, _⟩ := mat_ok (F := F) v d h64 (OV_mono (iext_refl ι0) (emp_le F) _ hov) hold2 hdD2 hdF2 (le_rfl' g') hle hf
    exact Nx.ext i1 i2 i3 hK

theorem turnsR_sound {f : FuncId} {vs : List V} {rs : List Value} (hh : Hold ι F h D g) (hvs : RL ι F vs rs) {K : V → Hp → Prop} (hp : TurnsR P f vs h K) :
    ∃ Φ, SpecW P f rs g Φ ∧ ∀ r g', Φ r g' → Nx ι F g' K r := by
  obtain ⟨bs, hbs, h1, hcl, ⟨bx, cells⟩, hhand, hn, Φ, hs, hK⟩ := hp
  simp only [Bool.and_eq_true, decide_eq_true_eq] at hbs
  obtain ⟨hnd, hlen⟩ := hbs
  simp only at hn hs hK
  obtain ⟨D1, hh1, _⟩ := hh.closeAll hcl
  obtain ⟨hb1, hb2, hb3⟩ := handB_ok hhand
  have hpos : ∀ i p, bx[i]? = some p → p.1 = 0 + i := fun i p hp => by
    have hi : i < bs.length := by rw [← hb1]; exact (List.getElem?_eq_some_iff.1 hp).1
    obtain ⟨e, sz, cs, g1, _, _⟩ := hb3 i bs[i] (by simp [hi])
    rw [hp] at g1; cases g1; rfl
  -- what the call sees
  have hold : Hold (handI ι bs) (keepF F D1 g bs) (hputb hnil bx cells) (fun j => match bs[j]? with | some b => D1 b | none => emp) g := by
    have hat := hputb_hand (by omega) hpos (cells := cells)
    simp only [Nat.not_lt_zero, if_false, Nat.sub_zero] at hat
    constructor
    · intro j e sz cs hj
      rw [hat j] at hj
      cases hbj : bs[j]? with
      | none =>
        have : bx[j]? = none := by rw [List.getElem?_eq_none_iff] at hbj ⊢; omega
        rw [this] at hj; cases hj
      | some b =>
        obtain ⟨e', sz', cs', g1, g2, g3⟩ := hb3 j b hbj
        rw [g1, g2] at hj
        simp only [Slot.row.injEq] at hj
        obtain ⟨rfl, rfl, rfl⟩ := hj
        obtain ⟨b', rcs, ex, d', q1, q2, q3, q4, q5⟩ := hh1.live b _ _ _ g3
        exact ⟨b', rcs, ex, d', by simp [handI, hbj, q1], q2, q3, q4, OL_mono (iext_refl _) (keepF_F hh1 bs) _ (nrfs_OL _ (nrfss_at hn g2) q5)⟩
    · intro j hj
      cases hbj : bs[j]? with
      | none => rfl
      | some b =>
        obtain ⟨e', sz', cs', g1, g2, g3⟩ := hb3 j b hbj
        exact absurd (by rw [hat j, g1, g2]) (hj e' sz' cs')
    · intro j
      cases hbj : bs[j]? with
      | none => exact emp_le g
      | some b => exact hh1.sub b
    · intro j j2 hne
      cases hbj : bs[j]? with
      | none => exact dj_emp_l _
      | some b =>
        cases hbj2 : bs[j2]? with
        | none => exact dj_emp_r _
        | some b2 =>
          refine hh1.dj b b2 fun e => hne ?_
          subst e
          have := nm_at hnd hbj
          rw [nm_at hnd hbj2] at this
          exact (Option.some.inj this).symm
    · intro j
      cases hbj : bs[j]? with
      | none => exact dj_emp_l _
      | some b => exact keepF_dj hh1 (List.mem_of_getElem? hbj)
    · intro j hj _
      have : bs[j]? = none := by rw [List.getElem?_eq_none_iff]; omega
      simp [handI, this]
    · exact keepF_g
  refine ⟨_, hs _ _ _ rs g hold (mvs_R hh1 vs hvs), ?_⟩
  rintro r g' ⟨j, o, n, cs, hΦ, hclo, hcl2, F', D', hF', hold', hR⟩
  -- what is known behind it
  have hcl3 : cs.length = bs.length := by omega
  have hat' := hputb_hand (by omega) hpos (cells := cs)
  simp only [Nat.not_lt_zero, if_false, Nat.sub_zero] at hat'
  have hat := hputs2_at (h := h1) hnd hb1 hcl3
  have hFF : Le F F' := le_trans' (keepF_F hh1 bs) hF'
  have hDF : ∀ b, nm bs b = none → Le (D1 b) F' := fun b hb => le_trans' (keepF_D hh1 (nm_none hb)) hF'
  have hold2 : Hold ι F (hputs2 h1 bs bx cs) (fun b => match nm bs b with | some j => D' j | none => D1 b) g' := by
    constructor
    · intro b e sz c hb
      cases hnb : nm bs b with
      | none =>
        rw [(hat b).1 hnb] at hb
        exact hh1.live b _ _ _ hb
      | some j =>
        obtain ⟨p, c', k1, k2, k3⟩ := (hat b).2 j hnb
        rw [k3] at hb
        simp only [Slot.row.injEq] at hb
        obtain ⟨rfl, rfl, rfl⟩ := hb
        obtain ⟨b', rcs, ex, d2, q1, q2, q3, q4, q5⟩ := hold'.live j p.2.1 p.2.2 c' (by rw [hat' j, k1, k2])
        simp only [handI, nm_some hnb, Option.bind_some] at q1
        exact ⟨b', rcs, ex, d2, q1, q2, q3, q4, closK_OL (ι := ι) (ι2 := ι) (r0 := []) (d0 := emp) (F2 := F) hclo k2 (fun a ha => by
          obtain ⟨e3, sz3, cs3, w1, w2, w3⟩ := hb3 j b (nm_some hnb)
          rw [w2] at ha; cases ha
          obtain ⟨_, rcs3, _, d3, _, _, _, _, w5⟩ := hh1.live b _ _ _ w3
          exact ⟨_, _, w5⟩) q5⟩
    · intro b hb
      cases hnb : nm bs b with
      | none => exact hh1.idle b fun e sz c hx => hb e sz c (by rw [(hat b).1 hnb]; exact hx)
      | some j =>
        obtain ⟨p, c', k1, k2, k3⟩ := (hat b).2 j hnb
        exact absurd k3 (hb _ _ _)
    · intro b
      cases hnb : nm bs b with
      | none => exact le_trans' (hDF b hnb) hold'.leF
      | some j => exact hold'.sub j
    · intro b b2 hne
      cases hnb : nm bs b with
      | none =>
        cases hnb2 : nm bs b2 with
        | none => exact hh1.dj b b2 hne
        | some j => exact (dj_of_le (hold'.djF j).symm (hDF b hnb))
      | some i =>
        cases hnb2 : nm bs b2 with
        | none => exact (dj_of_le (hold'.djF i).symm (hDF b2 hnb2)).symm
        | some j =>
          refine hold'.dj i j fun e => hne ?_
          subst e
          have := nm_some hnb
          rw [nm_some hnb2] at this
          exact (Option.some.inj this).symm
    · intro b
      cases hnb : nm bs b with
      | none => exact hh1.djF b
      | some j => exact (dj_of_le (hold'.djF j).symm hFF).symm
    · intro b hb64 hb
      cases hnb : nm bs b with
      | none => rw [(hat b).1 hnb] at hb; exact hh1.dom b hb64 hb
      | some j =>
        obtain ⟨p, c', k1, k2, k3⟩ := (hat b).2 j hnb
        rw [k3] at hb; cases hb
    · exact le_trans' hFF hold'.leF
  simp only [R] at hR
  obtain ⟨b', tot, sz, off', c, k1, k2, k3⟩ := hR
  simp only [handI] at k1
  cases hbj : bs[j]? with
  | none => rw [hbj] at k1; simp at k1
  | some b =>
    rw [hbj] at k1
    simp only [Option.bind_some] at k1
    exact Nx.ext (iext_refl ι) hold2 (by simp only [R]; exact ⟨b', tot, sz, off', c, k1, k2, k3⟩) (hK j o n cs hΦ b hbj)

theorem turns_sound {f : FuncId} {vs : List V} {rs : List Value} {d : Nat} (h64 : 64 ≤ d) (hh : Hold ι F h D g) (hvs : RL ι F vs rs) {K : V → Hp → Prop} (hp : Turns P f vs d h K) :
    ∃ Φ, SpecW P f rs g Φ ∧ ∀ r g', Φ r g' → Nx ι F g' K r := by
  rcases hp with hp | hp
  · exact turnsA_sound h64 hh hvs hp
  · exact turnsR_sound hh hvs hp

theorem pnewB_sound {f : FuncId} {vs : List V} {rs : List Value} {d : Nat} (h64 : 64 ≤ d) (hh : Hold ι F h D g) (hvs : RL ι F vs rs) {K : V → Hp → Prop} (hp : PNew P f vs d h K) :
    ∃ Φ, Spec P f rs g Φ ∧ ∀ r d', Φ r d' → Dis g d' → Nx ι F (join g d') K r := by
  obtain ⟨hn, Φ, hs, hK⟩ := hp
  refine ⟨_, (hs F rs (nrfs_R vs hn hvs)).mono hh.leF, ?_⟩
  rintro r d' ⟨e, cells, b, rcs, ex, hΦ, rfl, rfl, hl, hR⟩ hdis
  obtain ⟨hf, hK⟩ := hK e cells hΦ
  have hadd := hh.add h64 hf (g' := join g (single b (.row true e rcs ex))) (le_join_l (dis_dj hdis)) (e := e) (sz := 1) (cs := cells) (b' := b) (rcs := rcs) (ex := ex) (d' := emp) rfl
    (fun x => by rw [join_emp_r]; exact le_dis (hh.sub x) hdis) (by rw [join_emp_r]; exact le_dis hh.leF hdis) (by rw [join_emp_r]; exact le_join_r _ _) hl (RL_OL _ (RL_mono (ι0_ext ι) (le_rfl' F) _ hR))
  rw [join_emp_r] at hadd
  exact Nx.ext (iext_iset (hh.dom d h64 hf)) hadd (by simp only [R]; exact ⟨b, _, 1, if_pos rfl, rfl⟩) hK

theorem pcall_sound {f : FuncId} {vs : List V} {rs : List Value} {d : Nat} (h64 : 64 ≤ d) (hh : Hold ι F h D g) (hvs : RL ι F vs rs) {K : V → Hp → Prop} (hp : pcall P f vs d h K) :
    acall P f rs g fun r e => e.ok g → Nx ι F (e.app g) K r := by
  rcases hp with hp | hp
  · obtain ⟨Φ, h1, h2⟩ := pure_sound h64 hh hvs hp
    exact .inl ⟨Φ, h1, fun r d' hr hd => h2 r d' hr hd⟩
  rcases hp with hp | hp
  · obtain ⟨Φ, h1, h2⟩ := turns_sound h64 hh hvs hp
    exact .inr ⟨Φ, h1, fun r g' hr _ => h2 r g' hr⟩
  · obtain ⟨Φ, h1, h2⟩ := pnewB_sound h64 hh hvs hp
    exact .inl ⟨Φ, h1, fun r d' hr hd => h2 r d' hr hd⟩

theorem live_blk {b b2 : Nat} (hh : Hold ι F h D g) (hne : b ≠ b2) (h1 : isRow (h b)) (h2 : isRow (h b2)) {x y : Nat} {p q : Nat × Nat} (hx : ι b = some (x, p)) (hy : ι b2 = some (y, q)) : x ≠ y := by
  cases hb : h b with
  | free => rw [hb] at h1; exact h1.elim
  | dead => rw [hb] at h1; exact h1.elim
  | row e sz cs =>
    cases hb2 : h b2 with
    | free => rw [hb2] at h2; exact h2.elim
    | dead => rw [hb2] at h2; exact h2.elim
    | row e2 sz2 cs2 =>
      obtain ⟨b', rcs, ex, d', q1, q2, q3, _⟩ := hh.blk hb
      obtain ⟨b2', rcs2, ex2, d2', r1, r2, r3, _⟩ := hh.blk hb2
      rw [hx] at q1; cases q1
      rw [hy] at r1; cases r1
      rintro rfl
      rcases hh.dj b b2 hne x with hd | hd
      · rw [q2] at hd; simp [join, single, q3] at hd
      · rw [r2] at hd; simp [join, single, r3] at hd

theorem avoid_R {s y : V} {rs ry : Value} (hh : Hold ι F h D g) (hp : pavoid h s y) (hs : R ι F s rs) (hy : R ι F y ry) (hl : s = .nils ∨ ∃ b o n, s = .rf b o n ∧ isRow (h b)) :
    (match blockOf rs with
      | none => true
      | some b => match blockOf ry with
        | some b' => decide (b' ≠ b)
        | none => true) = true := by
  rcases hl with rfl | ⟨b, o, n, rfl, hl⟩
  · simp only [R] at hs; subst hs; rfl
  · simp only [R] at hs
    obtain ⟨b', tot, sz, off', c, h1, rfl, _⟩ := hs
    simp only [blockOf]
    cases y <;> simp only [pavoid] at hp <;> simp only [R] at hy
    case int => subst hy; rfl
    case bool => subst hy; rfl
    case str => subst hy; rfl
    case agg => obtain ⟨_, rfl, _⟩ := hy; rfl
    case ptr =>
      obtain ⟨b2, _, _, h2, rfl⟩ := hy
      simpa [blockOf] using live_blk hh hp.1 hp.2 hl h2 h1
    case nilp => subst hy; rfl
    case pf =>
      obtain ⟨b2, o2, own, e, cs, ex, rfl, h2, _⟩ := hy
      simp only [blockOf, ne_eq, decide_not, Bool.not_eq_true', decide_eq_false_iff_not]
      rintro rfl
      cases hb : h b with
      | free => rw [hb] at hl; exact hl.elim
      | dead => rw [hb] at hl; exact hl.elim
      | row e sz cs =>
        obtain ⟨b3, rcs, ex, d', q1, q2, q3, _⟩ := hh.blk hb
        rw [h1] at q1; cases q1
        rcases hh.djF b b2 with hd | hd
        · rw [q2] at hd; simp [join, single, q3] at hd
        · rw [hd] at h2; cases h2
    case sl =>
      rcases hy with ⟨_, h0, _⟩ | ⟨b2, o2, c2, rfl, _, h2⟩
      · exact absurd h0 hp
      · rcases h2 with h2 | ⟨own, e, cs, ex, h2, _⟩
        · exact absurd h2 hp
        · simp only [blockOf, ne_eq, decide_not, Bool.not_eq_true', decide_eq_false_iff_not]
          rintro rfl
          cases hb : h b with
          | free => rw [hb] at hl; exact hl.elim
          | dead => rw [hb] at hl; exact hl.elim
          | row e sz cs =>
            obtain ⟨b3, rcs, ex, d', q1, q2, q3, _⟩ := hh.blk hb
            rw [h1] at q1; cases q1
            rcases hh.djF b b2 with hd | hd
            · rw [q2] at hd; simp [join, single, q3] at hd
            · rw [hd] at h2; cases h2
    case rf =>
      obtain ⟨b2, _, _, _, _, h2, rfl, _⟩ := hy
      simpa [blockOf] using live_blk hh hp.1 hp.2 hl h2 h1
    case nils => subst hy; rfl

theorem avoid_P {b o : Nat} {y : V} {rs ry : Value} (hh : Hold ι F h D g) (hp : pavoid h (.rf b o 0) y) (hs : R ι F (.ptr b o) rs) (hy : R ι F y ry) (hl : isRow (h b)) :
    (match blockOf rs with
      | none => true
      | some b => match blockOf ry with
        | some b' => decide (b' ≠ b)
        | none => true) = true := by
  simp only [R] at hs
  obtain ⟨b', tot, sz, h1, rfl⟩ := hs
  simp only [blockOf]
  cases y <;> simp only [pavoid] at hp <;> simp only [R] at hy
  case int => subst hy; rfl
  case bool => subst hy; rfl
  case str => subst hy; rfl
  case agg => obtain ⟨_, rfl, _⟩ := hy; rfl
  case ptr =>
    obtain ⟨b2, _, _, h2, rfl⟩ := hy
    simpa [blockOf] using live_blk hh hp.1 hp.2 hl h2 h1
  case nilp => subst hy; rfl
  case pf =>
    obtain ⟨b2, o2, own, e, cs, ex, rfl, h2, _⟩ := hy
    simp only [blockOf, ne_eq, decide_not, Bool.not_eq_true', decide_eq_false_iff_not]
    rintro rfl
    cases hb : h b with
    | free => rw [hb] at hl; exact hl.elim
    | dead => rw [hb] at hl; exact hl.elim
    | row e sz cs =>
      obtain ⟨b3, rcs, ex, d', q1, q2, q3, _⟩ := hh.blk hb
      rw [h1] at q1; cases q1
      rcases hh.djF b b2 with hd | hd
      · rw [q2] at hd; simp [join, single, q3] at hd
      · rw [hd] at h2; cases h2
  case sl =>
    rcases hy with ⟨_, h0, _⟩ | ⟨b2, o2, c2, rfl, _, h2⟩
    · exact absurd h0 hp
    · rcases h2 with h2 | ⟨own, e, cs, ex, h2, _⟩
      · exact absurd h2 hp
      · simp only [blockOf, ne_eq, decide_not, Bool.not_eq_true', decide_eq_false_iff_not]
        rintro rfl
        cases hb : h b with
        | free => rw [hb] at hl; exact hl.elim
        | dead => rw [hb] at hl; exact hl.elim
        | row e sz cs =>
          obtain ⟨b3, rcs, ex, d', q1, q2, q3, _⟩ := hh.blk hb
          rw [h1] at q1; cases q1
          rcases hh.djF b b2 with hd | hd
          · rw [q2] at hd; simp [join, single, q3] at hd
          · rw [hd] at h2; cases h2
  case rf =>
    obtain ⟨b2, _, _, _, _, h2, rfl, _⟩ := hy
    simpa [blockOf] using live_blk hh hp.1 hp.2 hl h2 h1
  case nils => subst hy; rfl

/-- The cells of a slice that is read. -/
theorem preadS_sound {sz : Nat} {x : V} {rx : Value} {m : Nat} {news : List V} (hh : Hold ι F h D g) (hx : R ι F x rx) (hp : preadS sz h x = some (m, news)) :
    ∃ rn, readS sz g rx = some (m, rn) ∧ RL ι F news rn ∧ news.length = m * sz := by
  cases x <;> simp only [preadS, reduceCtorEq, Option.some.injEq, Prod.mk.injEq] at hp
  · rename_i n l
    obtain ⟨⟨hz, hc⟩, hp⟩ := grd_some hp
    simp only [Option.some.injEq, Prod.mk.injEq] at hp
    obtain ⟨rfl, rfl⟩ := hp
    simp only [R] at hx
    have hlen : (l.take (n * sz)).length = n * sz := by simp; omega
    rcases hx with ⟨h1, h2, rfl | ⟨a, c, rfl⟩⟩ | ⟨b, o, c, rfl, h2, h3⟩
    · subst h1; subst h2
      exact ⟨[], rfl, by simp [RL], hlen⟩
    · subst h1; subst h2
      exact ⟨[], by simp [readS], by simp [RL], hlen⟩
    · by_cases hn : n = 0
      · subst hn; exact ⟨[], by simp [readS], by simp [RL], hlen⟩
      · simp only [readS, if_neg hn, if_true]
        rcases h3 with h3 | ⟨own, e, cs, ex, h3, h4, h5⟩
        · subst h3
          have : n * sz = 0 := by simpa using hc
          rcases Nat.mul_eq_zero.1 this with h | h
          · exact absurd h hn
          · omega
        · refine ⟨_, by simp only [hh.leF _ _ h3, readB, grd]; rw [if_pos (by omega)], ?_, hlen⟩
          have h6 := RL_take (n * sz) h5
          rwa [List.take_take, Nat.min_eq_left hc] at h6
  · rename_i b o n
    cases hb : h b with
    | free => simp [hb, preadB] at hp
    | dead => simp [hb, preadB] at hp
    | row e sz2 cs =>
      simp only [hb, preadB] at hp
      obtain ⟨⟨hc, hn⟩, hp⟩ := grd_some hp
      simp only [Option.some.injEq, Prod.mk.injEq] at hp
      obtain ⟨rfl, rfl⟩ := hp
      obtain ⟨b2, rcs, ex, d', q1, q2, q3, q4, q5, q6, q7⟩ := hh.blk hb
      simp only [R] at hx
      obtain ⟨b', tot, sz3, off', c, h1, rfl, h2, h3⟩ := hx
      rw [h1] at q1; cases q1
      have hlen : ((cs.drop o).take (n * sz)).length = n * sz := by simp; omega
      by_cases hn0 : n = 0
      · subst hn0; exact ⟨[], by simp [readS], by simp [RL], hlen⟩
      · have : off' = o := h2 (.inl hn0)
        subst this
        obtain ⟨d1, h4, h5⟩ := OL_seg off' (n * sz) q5
        have h6 := (OL_plain hn h4).2
        rw [List.drop_take, List.take_take, Nat.min_eq_left (by omega)] at h6
        exact ⟨_, by simp only [readS, if_neg hn0, if_true, q6, readB, grd]; rw [if_pos (by omega)], h6, hlen⟩
  · obtain ⟨rfl, rfl⟩ := hp
    simp only [R] at hx; subst hx
    exact ⟨[], rfl, by simp [RL], by simp⟩

theorem papV_sound {e : TypeId} {sz bytes d m : Nat} {s : V} {rs : Value} {news : List V} {rn : List Value} (hh : Hold ι F h D g) (hs : R ι F s rs) (hn : RL ι F news rn) (hlen : news.length = m * sz)
    {K : V → Hp → Prop} (h64 : 64 ≤ d) (hp : papV e sz bytes d h K m news s) : appV e sz bytes g (fun r ef => ef.ok g → Nx ι F (ef.app g) K r) m rn rs := by
  have hrn := RL_len hn
  cases s <;> simp only [papV] at hp <;> try exact hp.elim
  · rename_i b o n
    cases o with
    | succ o => exact hp.elim
    | zero =>
      simp only at hp
      cases hb : h b with
      | free => simp [hb, papB] at hp
      | dead => simp [hb, papB] at hp
      | row e' sz' cs =>
        simp only [hb, papB] at hp
        obtain ⟨⟨rfl, hsz, hsz0, hl, hm, hby, hd⟩, hp⟩ := hp
        obtain ⟨b2, rcs, ex, d', q1, q2, q3, q4, q5, q6, q7⟩ := hh.blk hb
        simp only [R] at hs
        obtain ⟨b', tot, sz3, off', c, h1, rfl, h2, h3, h4, h5⟩ := hs
        have : off' = 0 := h2 (.inr trivial)
        subst this
        rw [h1] at q1; cases q1
        obtain ⟨h5, h6⟩ := h5 trivial
        simp only [appV, q6, appB]
        have hcz : c * sz = rcs.length + ex := by
          rcases hsz with hsz | hsz
          · rw [← hsz]; exact h5
          · subst hsz
            have := h6 rfl
            subst this
            simpa using h5
        refine ⟨⟨trivial, by omega, h3, h4, hcz, hm, hby⟩, fun bn cap' ex' hnew hc1 hc2 hc3 _ => ?_⟩
        simp only [Eff.app]
        obtain ⟨d1, h7, h8⟩ := OL_take (n * sz) q5
        rw [List.take_take, Nat.min_eq_left hl] at h7
        have h9 := OL_append h7 (RL_OL news hn) (dj_emp_r _)
        rw [join_emp_r] at h9
        have hl1 : (cs.take (n * sz) ++ news).length = (rcs.take (n * sz) ++ rn).length := by simp; omega
        have hmv := hh.move hb h1 q2 q3 (c := d) h64 hd hnew (e := e') (sz := sz) (cs2 := cs.take (n * sz) ++ news) (rcs2 := rcs.take (n * sz) ++ rn) (ex2 := ex') (d2 := d1)
          (by omega) (by rw [hl1, List.take_length]; exact h9) h8
        refine Nx.ext (iext_iset (hh.dom d h64 hd)) hmv ?_ hp
        simp only [R]
        refine ⟨bn, _, sz, 0, cap', if_pos rfl, rfl, fun _ => rfl, hc1, hc2, fun _ => ⟨?_, fun h0 => by omega⟩⟩
        rw [hc3]
        simp only [List.length_append, List.length_take]
        rw [Nat.min_eq_left (by omega), hrn, hlen, Nat.add_mul]
  · simp only [R] at hs
    subst hs
    simp only [appV]
    split
    · rename_i h0
      intro _
      exact Nx.same hh (by simp [R]) (hp.1 h0)
    · rename_i h0
      obtain ⟨⟨hsz0, hm, hby, hd⟩, hp⟩ := hp.2 (by omega)
      refine ⟨⟨hm, hby⟩, fun bn cap' ex' hnew hc1 hc2 hc3 _ => ?_⟩
      simp only [Eff.app]
      have hadd := hh.add h64 hd (g' := join g (single bn (.row true e rn ex'))) (le_join_l (dis_dj (new_dis hnew _))) (e := e) (sz := sz) (cs := news) (b' := bn) (rcs := rn) (ex := ex') (d' := emp) rfl
        (fun x => by rw [single_emp]; exact le_dis (hh.sub x) (new_dis hnew _)) (by rw [single_emp]; exact le_dis hh.leF (new_dis hnew _)) (by rw [single_emp]; exact le_join_r _ _) (by omega) (by rw [← hrn, List.take_length]; exact RL_OL news hn)
      refine Nx.ext (iext_iset (hh.dom d h64 hd)) hadd ?_ hp
      simp only [R]
      exact ⟨bn, _, sz, 0, cap', if_pos rfl, rfl, fun _ => rfl, hc1, hc2, fun _ => ⟨by rw [hc3, hrn, hlen], fun h0 => by omega⟩⟩

theorem pcpy_sound {sz m : Nat} {news : List V} {rn : List Value} {d : V} {rd : Value} (hh : Hold ι F h D g) (hd : R ι F d rd) (h2 : RL ι F news rn) {K : V → Hp → Prop} (hp : pcpyV sz h K m news d) :
    acpyV sz g (fun r e => e.ok g → Nx ι F (e.app g) K r) m rn rd := by
  cases d <;> simp only [pcpyV] at hp <;> try exact hp.elim
  case rf b off n =>
    simp only [R] at hd
    obtain ⟨b', tot, sz0, off', c, i1, rfl, ho, _⟩ := hd
    simp only [acpyV]
    by_cases h0 : min m n = 0
    · rw [if_pos h0] at hp ⊢
      exact fun _ => Nx.same hh (by simp [R]) hp
    · rw [if_neg h0] at hp ⊢
      have hoff : off' = off := ho (.inl (by omega))
      subst hoff
      have hR : R ι F (.agg (news.take (min m n * sz))) (.agg (rn.take (min m n * sz)).toArray) := by simp only [R]; exact ⟨_, rfl, RL_take _ h2⟩
      have hst := pst_sound hh hR (a := .ptr b off') (ra := .pointer (some ⟨b', off', none⟩)) (by simp only [R]; exact ⟨b', tot, sz0, i1, rfl⟩) hp
      simp only [astV] at hst
      unfold astB at hst
      split at hst
      · rename_i e cs ex hb
        simp only [acpyB, hb]
        obtain ⟨⟨q1, q2, q3⟩, q4⟩ := hst
        have hc : (Value.agg (rn.take (min m n * sz)).toArray).cells.toList = rn.take (min m n * sz) := rfl
        rw [hc] at q1 q3 q4
        refine ⟨⟨by rw [q1]; exact q2, q3⟩, fun hok => ?_⟩
        obtain ⟨v, h', ι', F', D', x1, x2, x3, x4, x5⟩ := q4 hok
        exact ⟨.int .i64 (min m n : Nat), h', ι', F', D', x1, x2, x3, by simp [R], x5⟩
      · exact hst.elim
  case nils =>
    simp only [R] at hd
    subst hd
    exact fun _ => Nx.same hh (by simp [R]) hp

theorem pclr_sound {z : List Value} {d : V} {rd : Value} (hh : Hold ι F h D g) (hd : R ι F d rd) {K : V → Hp → Prop} (hp : pclrV (ofVals z) h K d) :
    aclrV z g (fun r e => e.ok g → Nx ι F (e.app g) K r) rd := by
  cases d <;> simp only [pclrV] at hp <;> try exact hp.elim
  case rf b off n =>
    simp only [R] at hd
    obtain ⟨b', tot, sz0, off', c, i1, rfl, ho, _⟩ := hd
    simp only [aclrV]
    by_cases h0 : n = 0
    · rw [if_pos h0] at hp ⊢
      exact fun _ => Nx.same hh (by simp [R, RL]) hp
    · rw [if_neg h0] at hp ⊢
      have hoff : off' = off := ho (.inl (by omega))
      subst hoff
      have hR : R ι F (.agg (List.replicate n (ofVals z)).flatten) (.agg (reps z n).toArray) := by simp only [R]; exact ⟨_, rfl, RL_flat n (ofVals_R z)⟩
      have hst := pst_sound hh hR (a := .ptr b off') (ra := .pointer (some ⟨b', off', none⟩)) (by simp only [R]; exact ⟨b', tot, sz0, i1, rfl⟩) hp
      simp only [astV] at hst
      unfold astB at hst
      split at hst
      · rename_i e cs ex hb
        simp only [aclrB, hb]
        obtain ⟨⟨q1, q2, q3⟩, q4⟩ := hst
        have hc : (Value.agg (reps z n).toArray).cells.toList = reps z n := rfl
        rw [hc] at q1 q3 q4
        refine ⟨⟨by rw [q1]; exact q2, q3⟩, fun hok => ?_⟩
        obtain ⟨v, h', ι', F', D', x1, x2, x3, x4, x5⟩ := q4 hok
        exact ⟨.tup [], h', ι', F', D', x1, x2, x3, by simp [R, RL], x5⟩
      · exact hst.elim
  case nils =>
    simp only [R] at hd
    subst hd
    exact fun _ => Nx.same hh (by simp [R, RL]) hp

theorem pop_sound {d : Nat} {op : AOp} {t : Tp} {u : T} (h64 : 64 ≤ d) (hh : Hold ι F h D g) (ht : ∀ k, R ι F (t k) (u k)) {K : V → Hp → Prop} (hp : pop P d op (pev t) h K) :
    aop P op (ev u) g fun r e => e.ok g → Nx ι F (e.app g) K r := by
  have p := pev_R ht
  cases op <;> simp only [pop] at hp <;> try exact det_sound hh ht hp
  case ld n x =>
    obtain ⟨rv, h1, h2⟩ := pld_sound hh (p x) hp
    exact ⟨rv, h1, fun _ => h2⟩
  case ldb base n x =>
    obtain ⟨hs, hp⟩ := hp
    obtain ⟨rv, h1, h2⟩ := pld_sound hh (p x) hp
    exact ⟨rv, by simp only [adet, grd]; rw [if_pos (sameB_R hs (p x) (p base))]; exact h1, fun _ => h2⟩
  case alloc e z =>
    obtain ⟨hd, hp⟩ := hp
    refine pnew_sound h64 hd (sz := 1) hh (ofVals_R z) (fun b => ?_) hp
    simp only [R]; exact ⟨b, _, 1, if_pos rfl, rfl⟩
  case box e x =>
    obtain ⟨⟨hd, hc⟩, hp⟩ := hp
    have hcl := cells_R (cellOk_of_all hc) (p x)
    refine ⟨all1_R hc hcl, pnew_sound h64 hd (sz := 1) hh hcl (fun b => ?_) hp⟩
    simp only [R]; exact ⟨b, _, 1, if_pos rfl, rfl⟩
  case mks e z len ps =>
    obtain ⟨cs, hcs, ⟨hd, hc, hlen, hz, hz0⟩, hp⟩ := hp
    obtain ⟨rc, h1, h2⟩ := vfill_R (parts_R ht ps) (ofVals_R z) hcs
    refine ⟨rc, h1, all1_R hc h2, pnew_sound h64 hd (sz := if len = 0 then 0 else z.length / len) hh h2 (fun b => ?_) hp⟩
    have hrl := fillL_len _ _ _ h1
    simp only [R]
    refine ⟨b, rc.length, _, 0, len, if_pos rfl, rfl, fun _ => rfl, Nat.le_refl _, hlen, fun _ => ⟨?_, ?_⟩⟩
    · rw [hrl, hz]
      by_cases h0 : len = 0
      · simp [h0]
      · simp only [if_neg h0]
        rw [Nat.mul_div_cancel_left _ (by omega)]
    · intro hs
      by_cases h0 : len = 0
      · exact h0
      · rw [if_neg h0] at hs
        rw [if_neg h0, hs] at hz
        rcases hz0 with hz0 | hz0
        · exact absurd hz0 h0
        · exact absurd (by simpa using hz) hz0
  case mk e bytes z l c =>
    have hl := p l
    have hc := p c
    cases hl0 : pev t l <;> simp only [hl0] at hp <;> try exact hp.elim
    cases hc0 : pev t c <;> simp only [hc0] at hp <;> try exact hp.elim
    rw [hl0] at hl; rw [hc0] at hc
    simp only [R] at hl hc
    obtain ⟨⟨hd, h1, h2, h3, h4, hz⟩, hp⟩ := hp
    simp only [aop, hl, hc, amkV]
    have h5 : (maxLen : Int) ≤ 9223372036854775807 := by simp [maxLen]
    refine ⟨⟨h1, h2, h3, by omega⟩, ?_⟩
    have hz0 : 0 < z.length := by cases z <;> simp_all
    refine pnew_sound h64 hd (sz := z.length) hh (RL_flat _ (ofVals_R z)) (fun b => ?_) hp
    simp only [R]
    refine ⟨b, _, z.length, 0, _, if_pos rfl, rfl, fun _ => rfl, by omega, by omega, fun _ => ⟨?_, fun h0 => by omega⟩⟩
    simp [List.length_flatten]
  case app e sz bytes z av s x =>
    obtain ⟨⟨m, news⟩, hr, ⟨hc, hav⟩, hp⟩ := hp
    obtain ⟨rn, h1, h2, h3⟩ := preadS_sound hh (p x) hr
    simp only at hc hp
    refine ⟨(m, rn), h1, ⟨all1_R hc h2, ?_⟩, papV_sound hh (p s) h2 h3 h64 hp⟩
    have hs : pev t s = .nils ∨ ∃ b o n, pev t s = .rf b o n ∧ isRow (h b) := by
      cases hs : pev t s <;> simp only [hs, papV] at hp <;> try exact hp.elim
      · rename_i b o n
        cases o with
        | succ o => exact hp.elim
        | zero =>
          refine .inr ⟨b, 0, n, rfl, ?_⟩
          cases hb : h b <;> simp [hb, papB, isRow] at hp ⊢
      · exact .inl rfl
    simp only [avoids, List.all_map, List.all_eq_true, Function.comp]
    intro y hy
    exact avoid_R hh (hav y hy) (p s) (p y) hs
  case st n a x => exact pst_sound hh (p x) (p a) hp
  case cpy sz x y =>
    obtain ⟨⟨m, news⟩, hr, hp⟩ := hp
    obtain ⟨rn, h1, h2, h3⟩ := preadS_sound hh (p y) hr
    exact ⟨(m, rn), h1, pcpy_sound hh (p x) h2 hp⟩
  case clr z x => exact pclr_sound hh (p x) hp
  case sta av n a x =>
    obtain ⟨hav, hp⟩ := hp
    refine ⟨?_, pst_sound hh (p x) (p a) hp⟩
    have hpa := p a
    cases ha : pev t a <;> rw [ha] at hp hav hpa <;> simp only [pst] at hp <;> try exact hp.elim
    rename_i b off
    have hl : isRow (h b) := by cases hb : h b <;> simp [hb, pstB, isRow] at hp ⊢
    simp only [avoids, List.all_map, List.all_eq_true, Function.comp]
    intro y hy
    exact avoid_P hh (hav y hy) hpa (p y) hl
  case call f args => exact pcall_sound h64 hh (pevs_R ht args) hp
  case callp f args =>
    obtain ⟨Φ, h1, h2⟩ := pure_sound h64 hh (pevs_R ht args) hp
    exact ⟨Φ, h1, fun r d' hr hd => h2 r d' hr hd⟩
  case callv fv args =>
    have hf := p fv
    cases hfv : pev t fv <;> simp only [hfv, pcallv] at hp <;> try exact hp.elim
    rename_i f cap
    rw [hfv] at hf
    simp only [R] at hf
    obtain ⟨cs, hf, hcs⟩ := hf
    obtain ⟨hi, hp⟩ := hp
    have := pcall_sound h64 hh (RL_append (pevs_R ht args) hcs) hp
    simp only [aop, hf, acallv]
    exact ⟨hi, by simpa using this⟩
end
end Go.Proofs.YtjklebickfcddaaDoor.Sep

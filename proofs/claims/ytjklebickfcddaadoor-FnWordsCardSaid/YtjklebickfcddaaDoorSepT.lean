/- The operations on memory. -/
import Derived.Test.YtjklebickfcddaaDoorSepS
namespace Go.Proofs.YtjklebickfcddaaDoor.Sep
open Go.RowKit
set_option linter.unusedVariables false
set_option linter.unusedSimpArgs false
set_option linter.constructorNameAsVariable false

section
variable {ι ι' : Iota} {F g : H} {h : Hp} {D : Nat → H}

theorem LiveB_mono {F' : H} (hi : iext ι ι') (hF : Le F F') {b : Nat} {e : TypeId} {sz : Nat} {cs : List V} {d : H} (h : LiveB ι F b e sz cs d) : LiveB ι' F' b e sz cs d := by
  obtain ⟨b', rcs, ex, d', h1, h2, h3, h4, h5⟩ := h
  exact ⟨b', rcs, ex, d', hi _ _ h1, h2, h3, h4, OL_mono hi hF _ h5⟩

def iset (ι : Iota) (b : Nat) (p : Nat × Nat × Nat) : Iota := fun x => if x = b then some p else ι x
def dset (D : Nat → H) (b : Nat) (d : H) : Nat → H := fun x => if x = b then d else D x
theorem iext_iset {b : Nat} {p : Nat × Nat × Nat} (hb : ι b = none) : iext ι (iset ι b p) := fun x q hx => by
  have : x ≠ b := fun e => by rw [e, hb] at hx; cases hx
  simp [iset, this, hx]

theorem le_dis {a d : H} (hl : Le a g) (hd : Dis g d) : Dj a d := fun x => by
  cases hx : d x with
  | none => exact .inr rfl
  | some k =>
    left
    have h0 := hd x (by simp [hx])
    cases ha : a x with
    | none => rfl
    | some k' => rw [hl x k' ha] at h0; cases h0

/-- A new named block. -/
theorem Hold.add (hh : Hold ι F h D g) {b : Nat} (hb64 : 64 ≤ b) (hb : h b = .free) {g' : H} (hle : Le g g') {e : TypeId} {sz : Nat} {cs : List V} {b' : Nat} {rcs : List Value} {ex : Nat} {d' : H}
    (hd : d' b' = none) (hdD : ∀ x, Dj (D x) (join (single b' (.row true e rcs ex)) d')) (hdF : Dj F (join (single b' (.row true e rcs ex)) d')) (hdl : Le (join (single b' (.row true e rcs ex)) d') g') (hlen : cs.length ≤ rcs.length) (hOL : OL ι F cs (rcs.take cs.length) d') :
    Hold (iset ι b (b', rcs.length + ex, sz)) F (hput h b (.row e sz cs)) (dset D b (join (single b' (.row true e rcs ex)) d')) g' := by
  have hi : iext ι (iset ι b (b', rcs.length + ex, sz)) := iext_iset (hh.dom b hb64 hb)
  constructor
  · intro x e2 sz2 cs2 hx
    simp only [hput] at hx
    by_cases hxb : x = b
    · subst hxb
      simp only [if_true, Slot.row.injEq] at hx
      obtain ⟨rfl, rfl, rfl⟩ := hx
      simp only [dset, if_true]
      exact ⟨b', rcs, ex, d', by simp [iset], rfl, hd, hlen, OL_mono hi (le_rfl' F) _ hOL⟩
    · rw [if_neg hxb] at hx
      simp only [dset, if_neg hxb]
      exact LiveB_mono hi (le_rfl' F) (hh.live x _ _ _ hx)
  · intro x hx
    by_cases hxb : x = b
    · subst hxb
      exact absurd (by simp [hput]) (hx e sz cs)
    · simp only [dset, if_neg hxb]
      exact hh.idle x fun e2 sz2 cs2 h2 => hx e2 sz2 cs2 (by simp [hput, hxb, h2])
  · intro x
    by_cases hxb : x = b
    · subst hxb; simpa [dset] using hdl
    · simp only [dset, if_neg hxb]; exact le_trans' (hh.sub x) hle
  · intro x y hxy
    by_cases hxb : x = b
    · subst hxb
      have : y ≠ x := fun e => hxy e.symm
      simp only [dset, if_true, if_neg this]
      exact (hdD y).symm
    · simp only [dset, if_neg hxb]
      by_cases hyb : y = b
      · subst hyb; simp only [if_true]; exact hdD x
      · simp only [if_neg hyb]; exact hh.dj x y hxy
  · intro x
    by_cases hxb : x = b
    · subst hxb; simp only [dset, if_true]; exact hdF.symm
    · simp only [dset, if_neg hxb]; exact hh.djF x
  · intro x h64 hx
    by_cases hxb : x = b
    · subst hxb; simp [hput] at hx
    · simp only [hput, if_neg hxb] at hx
      simp only [iset, if_neg hxb]; exact hh.dom x h64 hx
  · exact le_trans' hh.leF hle

/-- What becomes of a named block whose own cells are written. -/
theorem Hold.turn (hh : Hold ι F h D g) {b : Nat} {e : TypeId} {sz : Nat} {cs : List V} (hb : h b = .row e sz cs) {b' : Nat} {rcs : List Value} {ex : Nat} {d' : H}
    (hι : ι b = some (b', rcs.length + ex, sz)) (hD : D b = join (single b' (.row true e rcs ex)) d') (hd : d' b' = none) {cs' : List V} {rcs' : List Value} {d2 : H}
    (hlen : rcs'.length = rcs.length) (hcl : cs'.length ≤ rcs'.length) (hOL : OL ι F cs' (rcs'.take cs'.length) d2) (hd2 : Le d2 d') :
    Hold ι F (hput h b (.row e sz cs')) (dset D b (join (single b' (.row true e rcs' ex)) d2)) (upd g b' (.row true e rcs' ex)) := by
  have hDb' : (D b b').isSome = true := by rw [hD]; simp [join, single, hd]
  have hne : ∀ x, x ≠ b → D x b' = none := fun x hx => by
    rcases hh.dj x b hx b' with h | h
    · exact h
    · rw [h] at hDb'; cases hDb'
  have hFb : F b' = none := by
    rcases hh.djF b b' with h | h
    · rw [h] at hDb'; cases hDb'
    · exact h
  have hd2b : d2 b' = none := by
    cases hx : d2 b' with
    | none => rfl
    | some k => rw [hd2 _ _ hx] at hd; cases hd
  have hd'g : Le d' g := by
    have := hh.sub b; rw [hD, join_le_iff (single_dj hd)] at this; exact this.2
  have hsm : ∀ x, ((join (single b' (.row true e rcs' ex)) d2) x).isSome = true → (D b x).isSome = true := fun x hx => by
    rw [hD]
    by_cases hxb : x = b'
    · subst hxb; simp [join, single, hd]
    · simp only [join, single, if_neg hxb, Option.or_none] at hx ⊢
      cases hx2 : d2 x with
      | none => rw [hx2] at hx; cases hx
      | some k => simp [hd2 _ _ hx2]
  constructor
  · intro x e2 sz2 cs2 hx
    simp only [hput] at hx
    by_cases hxb : x = b
    · subst hxb
      simp only [if_true, Slot.row.injEq] at hx
      obtain ⟨rfl, rfl, rfl⟩ := hx
      simp only [dset, if_true]
      exact ⟨b', rcs', ex, d2, by rw [hlen]; exact hι, rfl, hd2b, hcl, hOL⟩
    · rw [if_neg hxb] at hx
      simp only [dset, if_neg hxb]
      exact hh.live x _ _ _ hx
  · intro x hx
    by_cases hxb : x = b
    · subst hxb
      exact absurd (by simp [hput]) (hx e sz cs')
    · simp only [dset, if_neg hxb]
      exact hh.idle x fun e2 sz2 cs2 h2 => hx e2 sz2 cs2 (by simp [hput, hxb, h2])
  · intro x
    by_cases hxb : x = b
    · subst hxb
      simp only [dset, if_true]
      refine le_join_of (fun y k hy => ?_) (fun y k hy => ?_)
      · simp only [single] at hy
        split at hy
        · rename_i hyb; subst hyb; simpa [upd] using hy
        · cases hy
      · have : y ≠ b' := fun e => by rw [e, hd2b] at hy; cases hy
        simp only [upd, if_neg this]
        exact hd'g _ _ (hd2 _ _ hy)
    · simp only [dset, if_neg hxb]
      intro y k hy
      have : y ≠ b' := fun e => by rw [e, hne x hxb] at hy; cases hy
      simp only [upd, if_neg this]
      exact hh.sub x y k hy
  · intro x y hxy
    by_cases hxb : x = b
    · subst hxb
      have : y ≠ x := fun e => hxy e.symm
      simp only [dset, if_true, if_neg this]
      exact dj_le (hh.dj x y hxy) hsm
    · simp only [dset, if_neg hxb]
      by_cases hyb : y = b
      · subst hyb; simp only [if_true]; exact (dj_le (hh.dj x y hxy).symm hsm).symm
      · simp only [if_neg hyb]; exact hh.dj x y hxy
  · intro x
    by_cases hxb : x = b
    · subst hxb; simp only [dset, if_true]; exact dj_le (hh.djF x) hsm
    · simp only [dset, if_neg hxb]; exact hh.djF x
  · intro x h64 hx
    by_cases hxb : x = b
    · subst hxb; simp [hput] at hx
    · simp only [hput, if_neg hxb] at hx
      exact hh.dom x h64 hx
  · intro y k hy
    have : y ≠ b' := fun e => by rw [e, hFb] at hy; cases hy
    simp only [upd, if_neg this]
    exact hh.leF y k hy

theorem OL_freeze : ∀ {l : List V} {r : List Value} {d : H} (off : Nat) {w : V}, OL ι F l r d → off < l.length →
    ∃ d1 d2, d = join d1 d2 ∧ Dj d1 d2 ∧ OV ι F (l.getD off .und) (r.getD off undef) d1 ∧ ∀ F', Le F F' → R ι F' w (r.getD off undef) → OL ι F' (l.set off w) r d2
  | [], _, _, off, w, h, ho => by simp at ho
  | a :: l, _, _, off, w, h, ho => by
    simp only [OL] at h
    obtain ⟨v, r', da, dl, e, e2, hdj, ha, hl⟩ := h
    subst e; subst e2
    cases off with
    | zero =>
      refine ⟨da, dl, rfl, hdj, by simpa using ha, fun F' hF hw => ?_⟩
      simp only [List.set_cons_zero, OL]
      exact ⟨v, r', emp, dl, rfl, (join_emp_l _).symm, dj_emp_l _, R_OV w (by simpa using hw), OL_mono (iext_refl ι) hF _ hl⟩
    | succ off =>
      obtain ⟨d1, d2, h1, h2, h3, h4⟩ := OL_freeze (w := w) off hl (by simpa using ho)
      subst h1
      rw [dj_join_r] at hdj
      refine ⟨d1, join da d2, ?_, dj_join_r.2 ⟨hdj.1.symm, h2⟩, by simpa using h3, fun F' hF hw => ?_⟩
      · rw [← join_assoc, ← join_assoc, join_comm hdj.1]
      · simp only [List.set_cons_succ, OL]
        exact ⟨v, r', da, d2, rfl, rfl, hdj.2, OV_mono (iext_refl ι) hF _ ha, h4 F' hF (by simpa using hw)⟩

/-- Own memory in a cell that is read is not written from then on. -/
theorem Hold.freeze (hh : Hold ι F h D g) {b : Nat} {e : TypeId} {sz : Nat} {cs : List V} (hb : h b = .row e sz cs) {off : Nat} (ho : off < cs.length) {e2 : TypeId} {sz2 n : Nat} {l : List V}
    (hc : cs.getD off .und = .own e2 sz2 n l) {b' : Nat} {rcs : List Value} {ex : Nat} {d' : H}
    (hι : ι b = some (b', rcs.length + ex, sz)) (hD : D b = join (single b' (.row true e rcs ex)) d') (hd : d' b' = none) (hlen : cs.length ≤ rcs.length) (hOL : OL ι F cs (rcs.take cs.length) d') :
    ∃ F' D', Le F F' ∧ Hold ι F' (hput h b (.row e sz (cs.set off (.sl n (vws l))))) D' g ∧ R ι F' (.sl n (vws l)) (rcs.getD off undef) := by
  have hr0 : (rcs.take cs.length).getD off undef = rcs.getD off undef := by simp [List.getD, List.getElem?_take, ho]
  obtain ⟨d1, d2, h1, h2, h3, h4⟩ := OL_freeze (w := .sl n (vws l)) off hOL ho
  subst h1
  rw [hc, hr0] at h3
  have hDd : Le (join d1 d2) (D b) := by rw [hD]; exact le_join_r _ _
  have hdjF : Dj F (join d1 d2) := (dj_of_le (hh.djF b) hDd).symm
  have hF' : Le F (join F d1) := le_join_l (dj_join_r.1 hdjF).1
  have hv : R ι (join F d1) (.sl n (vws l)) (rcs.getD off undef) := by
    have := vw_OV (ι' := ι) (g := join F d1) hF' _ h3 (le_join_r _ _)
    simpa only [vw] using this
  have h5 := h4 _ hF' (by rw [hr0]; exact hv)
  have hd2 : d2 b' = none := by simp only [join, Option.or_eq_none_iff] at hd; exact hd.1
  have hd1 : d1 b' = none := by simp only [join, Option.or_eq_none_iff] at hd; exact hd.2
  have hsm : ∀ x, ((join (single b' (.row true e rcs ex)) d2) x).isSome = true → (D b x).isSome = true := fun x hx => by
    rw [hD]
    simp only [join] at hx ⊢
    cases hx2 : d2 x with
    | none => rw [hx2] at hx; cases hx1 : d1 x <;> simp_all
    | some k => simp
  have hgb := hh.sub b
  rw [hD, join_le_iff (single_dj hd), join_le_iff h2] at hgb
  have hd1D : ∀ x, x ≠ b → Dj (D x) d1 := fun x hx => (dj_of_le (hh.dj b x (Ne.symm hx)) (le_trans' (le_join_l h2) hDd)).symm
  refine ⟨join F d1, dset D b (join (single b' (.row true e rcs ex)) d2), hF', ?_, hv⟩
  constructor
  · intro x e2 sz2 cs2 hx
    simp only [hput] at hx
    by_cases hxb : x = b
    · subst hxb
      simp only [if_true, Slot.row.injEq] at hx
      obtain ⟨rfl, rfl, rfl⟩ := hx
      simp only [dset, if_true]
      refine ⟨b', rcs, ex, d2, hι, rfl, hd2, by simpa using hlen, ?_⟩
      simpa using h5
    · rw [if_neg hxb] at hx
      simp only [dset, if_neg hxb]
      exact LiveB_mono (iext_refl ι) hF' (hh.live x _ _ _ hx)
  · intro x hx
    by_cases hxb : x = b
    · subst hxb
      exact absurd (by simp [hput]) (hx e sz (cs.set off (.sl n (vws l))))
    · simp only [dset, if_neg hxb]
      exact hh.idle x fun e2 sz2 cs2 h2 => hx e2 sz2 cs2 (by simp [hput, hxb, h2])
  · intro x
    by_cases hxb : x = b
    · subst hxb; simp only [dset, if_true]; exact le_join_of hgb.1 hgb.2.2
    · simp only [dset, if_neg hxb]; exact hh.sub x
  · intro x y hxy
    by_cases hxb : x = b
    · subst hxb
      have : y ≠ x := fun e => hxy e.symm
      simp only [dset, if_true, if_neg this]
      exact dj_le (hh.dj x y hxy) hsm
    · simp only [dset, if_neg hxb]
      by_cases hyb : y = b
      · subst hyb; simp only [if_true]; exact (dj_le (hh.dj x y hxy).symm hsm).symm
      · simp only [if_neg hyb]; exact hh.dj x y hxy
  · intro x
    by_cases hxb : x = b
    · subst hxb
      simp only [dset, if_true]
      refine dj_join_r.2 ⟨dj_le (hh.djF x) hsm, ?_⟩
      exact dj_join_l.2 ⟨single_dj hd1, h2.symm⟩
    · simp only [dset, if_neg hxb]; exact dj_join_r.2 ⟨hh.djF x, hd1D x hxb⟩
  · intro x h64 hx
    by_cases hxb : x = b
    · subst hxb; simp [hput] at hx
    · simp only [hput, if_neg hxb] at hx
      exact hh.dom x h64 hx
  · exact le_join_of hh.leF hgb.2.1

/-- An append: the old block is out, a new one is in. -/
theorem Hold.move (hh : Hold ι F h D g) {b : Nat} {e0 : TypeId} {sz0 : Nat} {cs : List V} (hb : h b = .row e0 sz0 cs) {b' : Nat} {rcs : List Value} {ex : Nat} {d' : H}
    (hι : ι b = some (b', rcs.length + ex, sz0)) (hD : D b = join (single b' (.row true e0 rcs ex)) d') (hd : d' b' = none)
    {c : Nat} (hc64 : 64 ≤ c) (hc : h c = .free) {b2 : Nat} (hn : New (erase g b') b2) {e : TypeId} {sz : Nat} {cs2 : List V} {rcs2 : List Value} {ex2 : Nat} {d2 : H}
    (hcl : cs2.length ≤ rcs2.length) (hOL : OL ι F cs2 (rcs2.take cs2.length) d2) (hd2 : Le d2 d') :
    Hold (iset ι c (b2, rcs2.length + ex2, sz)) F (hput (hput h b .dead) c (.row e sz cs2)) (dset (dset D b emp) c (join (single b2 (.row true e rcs2 ex2)) d2)) (upd (erase g b') b2 (.row true e rcs2 ex2)) := by
  have hcb : c ≠ b := fun e => by rw [e, hb] at hc; cases hc
  have hi : iext ι (iset ι c (b2, rcs2.length + ex2, sz)) := iext_iset (hh.dom c hc64 hc)
  have hDb' : (D b b').isSome = true := by rw [hD]; simp [join, single, hd]
  have hne : ∀ x, x ≠ b → D x b' = none := fun x hx => by
    rcases hh.dj x b hx b' with h | h
    · exact h
    · rw [h] at hDb'; cases hDb'
  have hFb : F b' = none := by
    rcases hh.djF b b' with h | h
    · rw [h] at hDb'; cases hDb'
    · exact h
  have hd'g : Le d' g := by
    have := hh.sub b; rw [hD, join_le_iff (single_dj hd)] at this; exact this.2
  have hb2 : ∀ a : H, Le a g → a b' = none → a b2 = none := fun a ha hab => by
    cases hx : a b2 with
    | none => rfl
    | some k =>
      have hbb : b2 ≠ b' := fun e => by rw [e, hab] at hx; cases hx
      exact absurd rfl (hn b2 (by simp [erase, hbb, ha _ _ hx])).1
  have hd2b' : d2 b' = none := by
    cases hx : d2 b' with
    | none => rfl
    | some k => rw [hd2 _ _ hx] at hd; cases hd
  have hd2b : d2 b2 = none := hb2 d2 (le_trans' hd2 hd'g) hd2b'
  have hup : ∀ a : H, Le a g → a b' = none → Le a (upd (erase g b') b2 (.row true e rcs2 ex2)) := fun a ha hab y k hy => by
    have h1 : y ≠ b' := fun e => by rw [e, hab] at hy; cases hy
    have h2 : y ≠ b2 := fun e => by rw [e, hb2 a ha hab] at hy; cases hy
    simp [upd, h2, erase, h1, ha y k hy]
  have hnew : ∀ a : H, Le a g → a b' = none → Dj d2 a → Dj (join (single b2 (.row true e rcs2 ex2)) d2) a := fun a ha hab hdj =>
    dj_join_l.2 ⟨single_dj (hb2 a ha hab), hdj⟩
  have hDsub : ∀ x, x ≠ b → Dj d2 (D x) := fun x hx => dj_of_le (hh.dj b x (Ne.symm hx)) (by rw [hD]; exact le_trans' hd2 (le_join_r _ _))
  constructor
  · intro x e3 sz3 cs3 hx
    simp only [hput] at hx
    by_cases hxc : x = c
    · subst hxc
      simp only [if_true, Slot.row.injEq] at hx
      obtain ⟨rfl, rfl, rfl⟩ := hx
      simp only [dset, if_true]
      exact ⟨b2, rcs2, ex2, d2, by simp [iset], rfl, hd2b, hcl, OL_mono hi (le_rfl' F) _ hOL⟩
    · rw [if_neg hxc] at hx
      by_cases hxb : x = b
      · rw [if_pos hxb] at hx; cases hx
      · rw [if_neg hxb] at hx
        simp only [dset, if_neg hxc, if_neg hxb]
        exact LiveB_mono hi (le_rfl' F) (hh.live x _ _ _ hx)
  · intro x hx
    by_cases hxc : x = c
    · subst hxc; exact absurd (by simp [hput]) (hx e sz cs2)
    · simp only [dset, if_neg hxc]
      by_cases hxb : x = b
      · rw [if_pos hxb]
      · rw [if_neg hxb]; exact hh.idle x fun e3 sz3 cs3 h3 => hx e3 sz3 cs3 (by simp [hput, hxc, hxb, h3])
  · intro x
    by_cases hxc : x = c
    · subst hxc
      simp only [dset, if_true]
      exact le_join_of (fun y k hy => by simp only [single] at hy; split at hy <;> simp_all [upd]) (hup d2 (le_trans' hd2 hd'g) hd2b')
    · simp only [dset, if_neg hxc]
      by_cases hxb : x = b
      · rw [if_pos hxb]; intro y k hy; simp [emp] at hy
      · rw [if_neg hxb]; exact hup _ (hh.sub x) (hne x hxb)
  · have key : ∀ x y, x ≠ y → x ≠ c → Dj (dset (dset D b emp) c (join (single b2 (.row true e rcs2 ex2)) d2) x) (dset (dset D b emp) c (join (single b2 (.row true e rcs2 ex2)) d2) y) := by
      intro x y hxy hxc
      simp only [dset, if_neg hxc]
      by_cases hxb : x = b
      · rw [if_pos hxb]; exact dj_emp_l _
      · rw [if_neg hxb]
        by_cases hyc : y = c
        · rw [if_pos hyc]; exact (hnew _ (hh.sub x) (hne x hxb) (hDsub x hxb)).symm
        · rw [if_neg hyc]
          by_cases hyb : y = b
          · rw [if_pos hyb]; exact dj_emp_r _
          · rw [if_neg hyb]; exact hh.dj x y hxy
    intro x y hxy
    by_cases hxc : x = c
    · exact (key y x (Ne.symm hxy) (fun e => hxy (hxc.trans e.symm))).symm
    · exact key x y hxy hxc
  · intro x
    by_cases hxc : x = c
    · subst hxc
      simp only [dset, if_true]
      exact hnew F hh.leF hFb (dj_of_le (hh.djF b) (by rw [hD]; exact le_trans' hd2 (le_join_r _ _)))
    · simp only [dset, if_neg hxc]
      by_cases hxb : x = b
      · rw [if_pos hxb]; exact dj_emp_l _
      · rw [if_neg hxb]; exact hh.djF x
  · intro x h64 hx
    by_cases hxc : x = c
    · subst hxc; simp [hput] at hx
    · simp only [hput, if_neg hxc] at hx
      by_cases hxb : x = b
      · rw [if_pos hxb] at hx; cases hx
      · rw [if_neg hxb] at hx
        simp only [iset, if_neg hxc]; exact hh.dom x h64 hx
  · exact hup F hh.leF hFb
end
end Go.Proofs.YtjklebickfcddaaDoor.Sep

/- Regions: every order; the code; calls. -/
import Derived.Test.YtjklebickfcddaaDoorSepH
namespace Go.Proofs.YtjklebickfcddaaDoor.Sep
open Go.RowKit
set_option linter.unusedVariables false
set_option linter.unusedSimpArgs false
set_option linter.constructorNameAsVariable false

section
variable {P : Program}

theorem Spec.mono {f : FuncId} {args : List Value} {h h' : H} {Φ : Value → H → Prop} (hs : Spec P f args h Φ) (hle : Le h h') : Spec P f args h' Φ :=
  fun hr hl B w0 w hw => hs hr (fun b k hb => hl b k (hle b k hb)) B w0 w hw

theorem le_upd {h : H} {b : Nat} {k : Blk} (hb : New h b) : Le h (upd h b k) := fun x k' hx => by
  have : ¬ x = b := (hb x (by simp [hx])).1
  simp [upd, this, hx]

theorem new_of_upd {h : H} {b b2 : Nat} {k : Blk} (hb2 : New (upd h b k) b2) : New h b2 ∧ b2 ≠ b := by
  refine ⟨fun x hx => hb2 x (by simp only [upd]; split; rfl; exact hx), ?_⟩
  have := (hb2 b (by simp [upd])).2
  exact this

theorem upd_comm {h : H} {b b2 : Nat} {k k2 : Blk} (hne : b2 ≠ b) : upd (upd h b k) b2 k2 = upd (upd h b2 k2) b k := by
  funext x; simp only [upd]; split <;> split <;> first | rfl | (rename_i h1 h2; exact absurd (h1.symm.trans h2) (fun e => hne (by omega)))

theorem new_upd {h : H} {b b2 : Nat} {k2 : Blk} (hb : New h b) (hne : b2 ≠ b) : New (upd h b2 k2) b := fun x hx => by
  simp only [upd] at hx
  split at hx
  · rename_i e; subst e; exact ⟨hne, fun e => hne e.symm⟩
  · exact hb x hx

/-- What lays memory, calls purely or stores does so beside a block that it does not know. -/
theorem step_frame {x : AOper} (hx : x.op.class = 2 ∨ x.op.class = 3 ∨ (∃ n a v, x.op = .st n a v)) {K1 K2 : T → H → Prop} {t : T} {h : H} {b : Nat} {k : Blk} (hb : New h b)
    (hK : ∀ t' h', New h' b → K1 t' h' → K2 t' (upd h' b k)) (hs : step P x K1 t h) : step P x K2 t (upd h b k) := by
  rw [step_def] at hs ⊢
  split
  · rename_i hg
    rw [if_pos hg] at hs
    rcases hx with hx | hx | ⟨n, a, v, hx⟩
    · rw [aop_new hx] at hs ⊢
      obtain ⟨p, hp, hs⟩ := hs
      refine ⟨p, hp, fun b2 hb2 hok => ?_⟩
      obtain ⟨h1, h2⟩ := new_of_upd hb2
      have := hs b2 h1 (dis_single _ h1)
      simp only [Eff.app, join_single] at this ⊢
      rw [upd_comm h2]
      exact hK _ _ (new_upd hb h2) this
    · obtain ⟨dst, op, g⟩ := x
      cases op <;> simp [AOp.class] at hx
      case callp f args =>
        simp only [aop] at hs ⊢
        obtain ⟨Φ, h1, h2⟩ := hs
        refine ⟨Φ, h1.mono (le_upd hb), fun r d hΦ hok => ?_⟩
        have hdb : d b = none := by
          cases hd : d b with
          | none => rfl
          | some k' => have := hok b (by simp [hd]); simp [upd] at this
        have hd : Dis h d := fun y hy => by
          have := hok y hy
          simp only [upd] at this
          split at this
          · cases this
          · exact this
        have := h2 r d hΦ hd
        simp only [Eff.app] at this ⊢
        have he : join (upd h b k) d = upd (join h d) b k := by
          funext y; simp only [join, upd]; by_cases hy : y = b
          · subst hy; simp [hdb]
          · simp [hy]
        rw [he]
        refine hK _ _ (fun y hy => ?_) this
        simp only [join] at hy
        cases hdy : d y with
        | some k' => constructor <;> (rintro rfl; rw [hdb] at hdy; cases hdy)
        | none => rw [hdy] at hy; exact hb y (by simpa using hy)
    · rw [hx] at hs ⊢
      simp only [aop] at hs ⊢
      unfold astV at hs ⊢
      split at hs
      · rename_i ba off ha
        unfold astB at hs ⊢
        split at hs
        · rename_i e cs ex hba
          have hne := hb ba (by simp [hba])
          simp only [upd, hne.1, if_false, hba]
          refine ⟨hs.1, fun _ => ?_⟩
          have := hs.2 trivial
          simp only [Eff.app] at this ⊢
          rw [upd_comm hne.1]
          exact hK _ _ (new_upd hb hne.1) this
        · exact hs.elim
      · exact hs.elim
  · rename_i hg
    rw [if_neg hg] at hs
    exact hK _ _ hb hs

theorem new2_puto {o : AOper} {d : Option Nat} (hd : ∀ k, d = some k → k ∉ o.looks) {t : T} {v : Value} : new2 (ev (puto t d v)) o.op = new2 (ev t) o.op :=
  new2_congr (ev_puto hd)

/-- 'x' and a new block, turned. -/
theorem turn_new {x y : AOper} (hx : x.op.class = 2 ∨ x.op.class = 3 ∨ (∃ n a v, x.op = .st n a v)) (hy : y.op.class = 2) (hap : Apart x y) {K : T → H → Prop} {t : T} {h : H}
    (hc : goes t y.guard = true → ∃ p, new2 (ev t) y.op = some p) (hs : step P x (step P y K) t h) : step P y (step P x K) t h := by
  by_cases hg : goes t y.guard = true
  · obtain ⟨p, hp⟩ := hc hg
    rw [step_def y, if_pos hg, aop_new hy]
    refine ⟨p, hp, fun b hb hok => ?_⟩
    simp only [Eff.app, join_single]
    rw [step_put hap.yx hap.ne']
    have hrel : ∀ t' h', New h' b → (∃ u, t' = puto t x.dst u) ∧ step P y K t' h' → K (puto t' y.dst (p.1 b)) (upd h' b p.2) := by
      rintro t' h' hn ⟨⟨u, rfl⟩, hsy⟩
      rw [step_def, goes_puto hap.xy, if_pos hg, aop_new hy, new2_puto hap.xy] at hsy
      obtain ⟨p', hp', hsy⟩ := hsy
      rw [hp] at hp'
      simp only [Option.some.injEq] at hp'
      subst hp'
      have := hsy b hn (dis_single _ hn)
      simpa only [Eff.app, join_single] using this
    refine step_frame hx hb (K1 := fun t' h' => (∃ u, t' = puto t x.dst u) ∧ step P y K t' h') hrel ?_
    rw [step_def] at hs ⊢
    split
    · rename_i hgx; rw [if_pos hgx] at hs; exact aop_mono (fun v e hve hok => ⟨⟨v, rfl⟩, hve hok⟩) hs
    · rename_i hgx; rw [if_neg hgx] at hs; exact ⟨⟨undef, rfl⟩, hs⟩
  · rw [step_def y, if_neg hg, step_put hap.yx hap.ne']
    rw [step_def x] at hs ⊢
    split
    · rename_i hgx; rw [if_pos hgx] at hs
      refine aop_mono (fun v e hve hok => ?_) hs
      have := hve hok
      rw [step_def y, goes_puto hap.xy, if_neg hg] at this
      exact this
    · rename_i hgx; rw [if_neg hgx] at hs
      rw [step_def y, goes_puto hap.xy, if_neg hg] at hs
      exact hs

/-- A load of a block that the append avoids. -/
theorem app_keeps {x : AOper} {base : Operand} {n : Option Nat} {xa : Operand} (hx : x.op = .ldb base n xa) {y : AOper} {e : TypeId} {sz by' : Nat} {z : List Value} {av : List Operand} {s ya : Operand}
    (hy : y.op = .app e sz by' z av s ya) (hav : base ∈ av) {t : T} {h : H} {v : Value} (hv : detV t h x = some v) {K : T → H → Prop} (hs : step P y K t h) :
    step P y (fun t' h' => K t' h' ∧ detV t h' x = some v) t h := by
  rw [step_def] at hs ⊢
  split
  · rename_i hg
    rw [if_pos hg, hy] at hs
    rw [hy]
    simp only [aop] at hs ⊢
    obtain ⟨⟨m, news⟩, hrd, ⟨h1, hav2⟩, hs⟩ := hs
    refine ⟨⟨m, news⟩, hrd, ⟨h1, hav2⟩, ?_⟩
    -- the load, wherever its block is as it was
    have hld : ∀ h' : H, (∀ b, blockOf (ev t s) ≠ some b → (h b).isSome = true → h' b = h b) → detV t h' x = some v := fun h' hh => by
      unfold detV at hv ⊢
      split
      · rename_i hgx
        rw [if_pos hgx, hx] at hv
        rw [hx]
        simp only [adet] at hv ⊢
        obtain ⟨hb, hv⟩ := grd_some hv
        simp only [grd]; rw [if_pos hb]
        unfold ald at hv ⊢
        split at hv
        · rename_i b off hxa
          unfold ldB at hv ⊢
          split at hv
          · rename_i hb2
            have hbase : blockOf (ev t base) = some b := by rw [← hb, hxa]; rfl
            have hne : blockOf (ev t s) ≠ some b := fun hsb => by
              simp only [avoids, List.all_eq_true, List.mem_map, forall_exists_index, and_imp, forall_apply_eq_imp_iff₂] at hav2
              have := hav2 base hav
              rw [hsb, hbase] at this
              simp at this
            rw [hh b hne (by simp [hb2]), hb2]
            exact hv
          · cases hv
        · cases hv
      · rename_i hgx; rw [if_neg hgx] at hv; exact hv
    unfold appV at hs ⊢
    split at hs
    · rename_i b0 n0 cap hsv
      unfold appB at hs ⊢
      split at hs
      · refine ⟨hs.1, fun b' cap' ex' hb' h2 h3 h4 hok => ⟨hs.2 b' cap' ex' hb' h2 h3 h4 hok, hld _ fun b hb hbs => ?_⟩⟩
        have hne0 : ¬ b = b0 := fun e => hb (by rw [hsv, e]; rfl)
        have hn := hb' b (by simp only [erase]; rw [if_neg hne0]; exact hbs)
        simp only [Eff.app, upd, erase]
        rw [if_neg hn.1, if_neg hne0]
      · exact hs.elim
    · split at hs
      · rename_i hm; rw [if_pos hm]; exact fun hok => ⟨hs hok, hld _ fun _ _ _ => rfl⟩
      · rename_i hm; rw [if_neg hm]
        refine ⟨hs.1, fun b' cap' ex' hb' h2 h3 h4 hok => ⟨hs.2 b' cap' ex' hb' h2 h3 h4 hok, hld _ fun b hb hbs => ?_⟩⟩
        have hn := hb' b hbs
        simp only [Eff.app, join_single, upd]
        rw [if_neg hn.1]
    · exact hs.elim
  · rename_i hg
    rw [if_neg hg] at hs
    exact ⟨hs, hv⟩

/-- A load of a block that the store avoids. -/
theorem sta_keeps {x : AOper} {base : Operand} {n : Option Nat} {xa : Operand} (hx : x.op = .ldb base n xa) {y : AOper} {av : List Operand} {m : Nat} {s ya : Operand}
    (hy : y.op = .sta av m s ya) (hav : base ∈ av) {t : T} {h : H} {v : Value} (hv : detV t h x = some v) {K : T → H → Prop} (hs : step P y K t h) :
    step P y (fun t' h' => K t' h' ∧ detV t h' x = some v) t h := by
  rw [step_def] at hs ⊢
  split
  · rename_i hg
    rw [if_pos hg, hy] at hs
    rw [hy]
    simp only [aop] at hs ⊢
    obtain ⟨hav2, hs⟩ := hs
    refine ⟨hav2, ?_⟩
    have hld : ∀ h' : H, (∀ b, blockOf (ev t s) ≠ some b → (h b).isSome = true → h' b = h b) → detV t h' x = some v := fun h' hh => by
      unfold detV at hv ⊢
      split
      · rename_i hgx
        rw [if_pos hgx, hx] at hv
        rw [hx]
        simp only [adet] at hv ⊢
        obtain ⟨hb, hv⟩ := grd_some hv
        simp only [grd]; rw [if_pos hb]
        unfold ald at hv ⊢
        split at hv
        · rename_i b off hxa
          unfold ldB at hv ⊢
          split at hv
          · rename_i hb2
            have hbase : blockOf (ev t base) = some b := by rw [← hb, hxa]; rfl
            have hne : blockOf (ev t s) ≠ some b := fun hsb => by
              simp only [avoids, List.all_eq_true, List.mem_map, forall_exists_index, and_imp, forall_apply_eq_imp_iff₂] at hav2
              have := hav2 base hav
              rw [hsb, hbase] at this
              simp at this
            rw [hh b hne (by simp [hb2]), hb2]
            exact hv
          · cases hv
        · cases hv
      · rename_i hgx; rw [if_neg hgx] at hv; exact hv
    unfold astV at hs ⊢
    split at hs
    · rename_i b0 off0 hsv
      unfold astB at hs ⊢
      split at hs
      · refine ⟨hs.1, fun hok => ⟨hs.2 hok, hld _ fun b hb hbs => ?_⟩⟩
        have hne0 : ¬ b = b0 := fun e => hb (by rw [hsv, e]; rfl)
        simp only [Eff.app, upd]
        rw [if_neg hne0]
      · exact hs.elim
    · exact hs.elim
  · rename_i hg
    rw [if_neg hg] at hs
    exact ⟨hs, hv⟩

theorem apart_of {x y : AOper} (h : mayTurn x y = true) : Apart x y := by
  unfold mayTurn at h
  simp only [Bool.and_eq_true] at h
  obtain ⟨⟨h1, h2⟩, _⟩ := h
  refine ⟨fun k hk => ?_, fun k hk => ?_, fun k hk => ?_⟩
  · rw [hk] at h1; simp at h1; exact h1.1
  · rw [hk] at h1; simp at h1; exact h1.2
  · rw [hk] at h2; simp at h2; exact h2

theorem turn {x y : AOper} (hm : mayTurn x y = true) {K : T → H → Prop} {t : T} {h : H}
    (hc : y.op.class = 2 → goes t y.guard = true → ∃ p, new2 (ev t) y.op = some p) (hs : step P x (step P y K) t h) : step P y (step P x K) t h := by
  have hap := apart_of hm
  unfold mayTurn at hm
  simp only [Bool.and_eq_true] at hm
  obtain ⟨_, hm⟩ := hm
  split at hm
  · rename_i h0
    refine turn_det (by omega) hap (fun v hv K hs => ?_) hs
    refine step_mono (fun t' h' hK => ⟨hK, ?_⟩) hs
    unfold detV at hv ⊢
    rw [adet_pure h0 (h' := h)]; exact hv
  · rename_i h1
    refine turn_det (by omega) hap (fun v hv K hs => ?_) hs
    unfold passes at hm
    split at hm
    · rename_i e sz by' z av s ya hy
      split at hm
      · rename_i k hat
        have : ∃ n xa, x.op = .ldb (.tmp k) n xa := by
          unfold AOp.at at hat
          split at hat
          · rename_i b n xa ho; simp only [Option.some.injEq] at hat; subst hat; exact ⟨n, xa, ho⟩
          · cases hat
        obtain ⟨n, xa, hx⟩ := this
        have hav : Operand.tmp k ∈ av := by
          simp only [List.any_eq_true] at hm
          obtain ⟨o, ho, hk⟩ := hm
          cases o <;> simp at hk
          subst hk; exact ho
        exact app_keeps hx hy hav hv hs
      · cases hm
    · rename_i av m s ya hy
      split at hm
      · rename_i k hat
        have : ∃ n xa, x.op = .ldb (.tmp k) n xa := by
          unfold AOp.at at hat
          split at hat
          · rename_i b n xa ho; simp only [Option.some.injEq] at hat; subst hat; exact ⟨n, xa, ho⟩
          · cases hat
        obtain ⟨n, xa, hx⟩ := this
        have hav : Operand.tmp k ∈ av := by
          simp only [List.any_eq_true] at hm
          obtain ⟨o, ho, hk⟩ := hm
          cases o <;> simp at hk
          subst hk; exact ho
        exact sta_keeps hx hy hav hv hs
      · cases hm
    · have := step_grows (by simpa using hm) hs
      exact step_mono (fun t' h' ⟨hK, hle⟩ => ⟨hK, detV_mono hle hv⟩) this
  · rename_i h2; exact turn_new (.inl h2) (by simpa using hm) hap (hc (by simpa using hm)) hs
  · rename_i h3; exact turn_new (.inr (.inl h3)) (by simpa using hm) hap (hc (by simpa using hm)) hs
  · simp only [Bool.and_eq_true, beq_iff_eq] at hm
    obtain ⟨hst, hy⟩ := hm
    split at hst
    · rename_i n a v ho; exact turn_new (.inr (.inr ⟨n, a, v, ho⟩)) hy hap (hc hy) hs
    · cases hst

end
end Go.Proofs.YtjklebickfcddaaDoor.Sep

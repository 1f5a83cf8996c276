/- slices.Delete of one number: the walk, and what it says of named blocks. -/
import Derived.Test.YtcleiehdddjicaaSepRec
import Derived.Test.YtcleiehdddjicaaForm
import Derived.WalkKit
import Derived.Deep.RegionLaw
import Derived.Lib.SliceRun
import Derived.Lib.SlicesDelete
namespace Go.Proofs.Ytcleiehdddjicaa.Sep
open Go.RowKit
set_option linter.unusedVariables false
set_option linter.unusedSimpArgs false

theorem infoE : (Try.prog.info? 2).map (fun i => (i.zero, i.size, i.bytes)) = some (some (.int .i64 0), 1, 8) := by kernel_rfl
theorem zeroE : ∀ w, (zeroValue 2).run Try.prog w = .ok (.int .i64 0) w := by intro w; kernel_rfl
/-- The cells that are moved. -/
def movedD (zs : List Int) (i : Nat) : List Value := (zs.drop (i + 1)).map (Value.int .i64)
theorem movedD_length {zs : List Int} {i : Nat} : (movedD zs i).length = zs.length - (i + 1) := by simp [movedD]
theorem movedD_get {zs : List Int} {i j : Nat} (hj : j < zs.length - (i + 1)) : (movedD zs i)[j]? = some (.int .i64 (zs.getD (i + 1 + j) 0)) := by
  simp [movedD, List.getD, show i + 1 + j < zs.length by omega]

set_option maxHeartbeats 4000000 in
set_option maxRecDepth 1000000 in
theorem delete_walk (b off n cap i j : Nat) (zs : List Int) (w : World) (hn : zs.length = n) (hi : i < n) (hj : j = i + 1) (hl : n ≤ cap) (hm : cap ≤ 9223372036854775807)
    (hc : ∀ j, j < n → w.cell? ⟨b, off + j, none⟩ = some (.int .i64 (zs.getD j 0))) (hf : ∀ j, j < n → w.frozen? ⟨b, off + j, none⟩ = false) :
    Calls Try.prog 54 #[.slice (some ⟨b, off, none⟩) n cap, .int .i64 i, .int .i64 j] w fun e w' => e = .returned (.slice (some ⟨b, off, none⟩) (n - 1) cap) ∧
      w' = (w.drew.setCells b (off + i) (movedD zs i)).setCells b (off + (n - 1)) [.int .i64 0] := by
  obtain ⟨i0, hi0, hz0, hz1, hz2⟩ := info_parts infoE
  obtain ⟨A, hA, hnews⟩ : ∃ A : Addr, (if cap = j then some (⟨b, off, none⟩ : Addr) else some ⟨b, off + j, none⟩) = some A ∧ Hid (∀ t u, (movedD zs i)[t]? = some u → w.drew.cell? (A.add t) = some u) := by
    by_cases h : cap = j
    · refine ⟨⟨b, off, none⟩, by simp [h], fun t u hu => ?_⟩
      have h0 : (movedD zs i).length = 0 := by rw [movedD_length]; omega
      rw [List.length_eq_zero_iff.1 h0] at hu
      simp at hu
    · refine ⟨⟨b, off + j, none⟩, by simp [h], fun t u hu => ?_⟩
      have ht : t < zs.length - (i + 1) := by
        have := (List.getElem?_eq_some_iff.1 hu).1
        rwa [movedD_length] at this
      rw [movedD_get ht] at hu
      rw [Addr.add_lit, show off + j + t = off + (i + 1 + t) by omega]
      exact (hc (i + 1 + t) (by omega)).trans hu
  have s1 : Hid ((movedD zs i).length = (n - j) * 1) := by rw [Nat.mul_one]; show (movedD zs i).length = n - j; rw [movedD_length]; omega
  have s2 : Hid (∀ u ∈ movedD zs i, u.oneCell' = true) := by
    intro u hu
    obtain ⟨x, _, rfl⟩ := List.mem_map.1 hu
    rfl
  have s3 : Hid (∀ t, t < (movedD zs i).length → (w.drew.cell? ⟨b, off + i * 1 + t, none⟩).isSome = true ∧ w.drew.frozen? ⟨b, off + i * 1 + t, none⟩ = false) := by
    intro t ht
    rw [movedD_length] at ht
    rw [Nat.mul_one, Nat.add_assoc]
    exact ⟨by show (w.cell? _).isSome = true; rw [hc (i + t) (by omega)]; rfl, hf (i + t) (by omega)⟩
  obtain ⟨W1, hW1⟩ : ∃ W1, W1 = w.drew.setCells b (off + i * 1) (movedD zs i) := ⟨_, rfl⟩
  have hcl : ∀ ty, (Builtin.clear_ #[25] ty #[.slice (some ⟨b, off + (i + (n - j)), none⟩) (n - (i + (n - j))) (cap - (i + (n - j)))]).run Try.prog W1 = .ok (.tuple #[]) (W1.setCells b (off + (i + (n - j))) (List.replicate (n - (i + (n - j))) (.int .i64 0))) :=
    fun ty => Lib.run_clear_slice W1 _ _ ty _ (by kernel_rfl) zeroE rfl rfl b (off + (i + (n - j))) _ _ (by omega)
      (fun t ht => by
        rw [hW1]
        by_cases h : i + (n - j) + t < i * 1 + (movedD zs i).length
        · have := World.cell?_setCells_in b (movedD zs i) (off + i * 1) w.drew (fun q hq => (s3 q hq).1) (i + (n - j) + t - i) (by omega)
          rw [show off + (i + (n - j)) + t = off + i * 1 + (i + (n - j) + t - i) by omega, this]; rfl
        · rw [World.cell?_setCells_out b _ _ _ _ (fun _ _ => .inr (by simp only; omega))]
          show (w.cell? _).isSome = true
          rw [show off + (i + (n - j)) + t = off + (i + (n - j) + t) by omega, hc _ (by omega)]; rfl)
      (fun t ht => by
        rw [hW1, World.frozen?_setCells]
        rw [show off + (i + (n - j)) + t = off + (i + (n - j) + t) by omega]
        exact hf _ (by omega))
  have hW : Hid (W1 = w.drew.setCells b (off + i * 1) (movedD zs i)) := hW1
  have hic : i ≤ cap := by omega
  have hjc : j ≤ cap := by omega
  have hij : ¬ i = j := by omega
  have hij2 : i ≤ j := by omega
  have hjn : j ≤ n := by omega
  have hfin : Hid (n - 1 = i + (n - j) ∧ n - (i + (n - j)) = 1) := ⟨by omega, by omega⟩
  clear hW1 hc hf hj hn
  go_enter Try.func54, Try.ntmps54
  go_wp2_with fail
  go_region_law (refine step_append_room rfl (.tmp 22) (.tmp 25) 25 rfl 2 i0 1 (by kernel_rfl) hi0 hz1 b off i cap (by simp [Act.eval, Act.put]) A (n - j) (cap - j) (movedD zs i) (by first | (simp [Act.eval, Act.put]; done) | (simp [Act.eval, Act.put]; simpa using hA)) s1.out hnews.out s2.out (by omega) s3.out ?_; rw [← hW.out])
  go_wp2
  go_ret
  refine ⟨by rw [hfin.out.1]; rfl, ?_⟩
  rw [hW.out, hfin.out.2, ← hfin.out.1, Nat.mul_one]
  rfl

/-! ### What it says of named blocks -/
theorem OL_vi {ι : Iota} {F : H} : ∀ {l : List Int} {r : List Value} {d : H}, OL ι F (vi .i64 l) r d → r = l.map (Value.int .i64) ∧ d = emp
  | [], r, d, h => by simp only [vi, List.map_nil, OL] at h; exact ⟨by rw [h.1]; rfl, h.2⟩
  | a :: l, r, d, h => by
    have h' : OL ι F (V.int .i64 a :: vi .i64 l) r d := h
    simp only [OL] at h'
    obtain ⟨v, r', d1, d2, rfl, rfl, _, h1, h2⟩ := h'
    simp only [OV, R] at h1
    obtain ⟨rfl, rfl⟩ := h1
    obtain ⟨rfl, rfl⟩ := OL_vi h2
    exact ⟨rfl, by funext x; rfl⟩
theorem OL_vi_of {ι : Iota} {F : H} : ∀ {l : List Int}, OL ι F (vi .i64 l) (l.map (Value.int .i64)) emp
  | [] => ⟨rfl, rfl⟩
  | a :: l => ⟨.int .i64 a, l.map (Value.int .i64), emp, emp, rfl, by funext x; rfl, fun x => .inl rfl, ⟨rfl, rfl⟩, OL_vi_of⟩
theorem setL_eq {cs vs : List Value} {off : Nat} (h : off + vs.length ≤ cs.length) : setL cs off vs = cs.take off ++ vs ++ cs.drop (off + vs.length) := by
  unfold setL
  split
  · rename_i v
    rw [List.set_eq_take_append_cons_drop, if_pos (by simp at h; omega)]
    simp
  · rfl
theorem setL_len {cs vs : List Value} {off : Nat} (h : off + vs.length ≤ cs.length) : (setL cs off vs).length = cs.length := by
  rw [setL_eq h]; simp; omega
theorem sat_set {B : Bd} {w0 w : World} {h : H} (hs : Sat B w0 w h) {b off : Nat} {e : TypeId} {cs : List Value} {ex : Nat}
    (hb : h b = some (.row true e cs ex)) {vs : List Value} (hoff : off + vs.length ≤ cs.length) (h1 : all1 vs = true) (hw : ∀ v ∈ vs, v.oneCell' = true) :
    Sat B w0 (w.setCells b off vs) (upd h b (.row true e (setL cs off vs) ex)) := by
  obtain ⟨w', hr, hs'⟩ := stc_run (P := Try.prog) hs hb rfl hoff h1
  have hfz : ∀ t, w.frozen? ⟨b, t, none⟩ = false := fun t => by
    obtain ⟨⟨o, ho, c, fr, rfl, _, _, hfr, _⟩, _⟩ := hs.blk b _ hb
    obtain rfl := hfr rfl
    simp [World.frozen?, ho]
  have hr2 := run_storeCells_cells (P := Try.prog) b off vs 0 w (fun j hj => by
    rw [hs.cell hb (by omega)]; rfl) (fun j hj => hfz _) hw
  rw [hr] at hr2
  simp only [Nat.add_zero] at hr2
  cases hr2
  exact hs'
theorem c_slices_Delete {zs : List Int} {n i j : Nat} (hn : zs.length = n) (hi : i < n) (hj : j = i + 1) :
    PSpecMR Try.prog 54 [.rf 0 0 n, .int .i64 i, .int .i64 j] [(0, 2, 1)] [vi .i64 zs]
      fun q o k c => q = 0 ∧ o = 0 ∧ k = n - 1 ∧ c = [vi .i64 (zs.take i ++ zs.drop (i + 1) ++ [0])] := by
  intro ι F D rs g hH hR B w0 w hs
  have hlive := hH.live 0 2 1 (vi .i64 zs) rfl
  obtain ⟨b', rcs, ex, d', hι, hD, hd', hlen, hol⟩ := hlive
  rw [vi_len, hn] at hlen
  rw [vi_len, hn] at hol
  obtain ⟨htake, rfl⟩ := OL_vi hol
  simp only [RL, R] at hR
  obtain ⟨v0, r0, rfl, ⟨b2, tot, sz, off', c, hι2, rfl, hoff, hnc, hcm, hcap⟩, v1, r1, rfl, rfl, v2, r2, rfl, rfl, rfl⟩ := hR
  rw [hι] at hι2
  simp only [Option.some.injEq, Prod.mk.injEq] at hι2
  obtain ⟨rfl, rfl, rfl⟩ := hι2
  obtain rfl := hoff (.inr trivial)
  have hgb : g b' = some (.row true 2 rcs ex) := hH.sub 0 _ _ (by rw [hD]; simp [join, single, emp])
  have hcell : ∀ j, j < n → w.cell? ⟨b', 0 + j, none⟩ = some (.int .i64 (zs.getD j 0)) := fun t ht => by
    rw [Nat.zero_add, hs.cell hgb (by omega)]
    have h1 : (rcs.take n)[t]? = some (.int .i64 (zs.getD t 0)) := by
      rw [htake, List.getElem?_map]; simp [List.getD, show t < zs.length by omega]
    rw [List.getElem?_take, if_pos ht] at h1
    rw [List.getD, h1]; rfl
  have hfz : ∀ t, w.frozen? ⟨b', t, none⟩ = false := fun t => by
    obtain ⟨⟨o, ho, c, fr, rfl, _, _, hfr, _⟩, _⟩ := hs.blk b' _ hgb
    obtain rfl := hfr rfl
    simp [World.frozen?, ho]
  have hm9 : c ≤ 9223372036854775807 := hcm
  refine (delete_walk b' 0 n c i j zs w hn hi hj hnc hm9 hcell (fun t _ => hfz _)).mono ?_
  rintro e w' ⟨rfl, rfl⟩
  have hml : (movedD zs i).length = n - (i + 1) := by rw [movedD_length, hn]
  have s1 := sat_set (B := B) (w0 := w0) hs.drew hgb (off := 0 + i) (vs := movedD zs i) (by omega) (by
      simp only [all1, List.all_eq_true]; intro v hv; obtain ⟨x, _, rfl⟩ := List.mem_map.1 hv; rfl)
    (fun v hv => by obtain ⟨x, _, rfl⟩ := List.mem_map.1 hv; rfl)
  have hl1 : (setL rcs (0 + i) (movedD zs i)).length = rcs.length := setL_len (by omega)
  have s2 := sat_set (B := B) (w0 := w0) s1 (b := b') (off := 0 + (n - 1)) (vs := [.int .i64 0]) (e := 2) (cs := setL rcs (0 + i) (movedD zs i)) (ex := ex) (by simp [upd]) (by simp only [List.length_cons, List.length_nil]; omega) rfl
    (fun v hv => by simp only [List.mem_cons, List.not_mem_nil, or_false] at hv; subst hv; rfl)
  have hl2 : (setL (setL rcs (0 + i) (movedD zs i)) (0 + (n - 1)) [.int .i64 0]).length = rcs.length := by rw [setL_len (by simp only [List.length_cons, List.length_nil]; omega), hl1]
  generalize hrc : setL (setL rcs (0 + i) (movedD zs i)) (0 + (n - 1)) [.int .i64 0] = rc at *
  have hrt : rc.take n = (zs.take i ++ zs.drop (i + 1) ++ [0]).map (Value.int .i64) := by
    have q1 : setL rcs (0 + i) (movedD zs i) = (zs.take i).map (Value.int .i64) ++ movedD zs i ++ rcs.drop (n - 1) := by
      rw [setL_eq (by omega), hml]
      have : rcs.take (0 + i) = (zs.take i).map (Value.int .i64) := by
        have h2 := congrArg (List.take i) htake
        rw [List.take_take, Nat.min_eq_left (by omega), ← List.map_take] at h2
        rw [Nat.zero_add]; exact h2
      rw [this, show 0 + i + (n - (i + 1)) = n - 1 by omega]
    have q2 : ((zs.take i).map (Value.int .i64) ++ movedD zs i).length = n - 1 := by rw [List.length_append, List.length_map, List.length_take, hml]; omega
    rw [← hrc, setL_eq (by simp only [List.length_cons, List.length_nil]; omega), q1, Nat.zero_add, List.take_left' q2]
    rw [List.take_append, List.take_append, q2]
    simp only [List.length_append, q2, List.length_cons, List.length_nil]
    rw [show n - 1 + (0 + 1) = n by omega, show n - (n - 1) = 1 by omega]
    rw [List.take_of_length_le (show ((zs.take i).map (Value.int .i64) ++ movedD zs i).length ≤ n by omega)]
    simp [movedD]
  refine ⟨_, _, rfl, ⟨0, 0, n - 1, _, ⟨rfl, rfl, rfl, rfl⟩, by simp [closs, vi_clo], rfl, F, fun b => if b = 0 then single b' (.row true 2 rc ex) else D b, fun _ _ h => h, ?_, ?_⟩, s2⟩
  · have hF : F b' = none := by
      rcases hH.djF 0 b' with h1 | h1
      · rw [hD] at h1; simp [join, single, emp] at h1
      · exact h1
    have hDo : ∀ b, b ≠ 0 → D b = emp := fun b hb => hH.idle b fun e sz cs h => by
      simp only [hputb, hput] at h
      rw [if_neg hb] at h
      cases h
    refine ⟨fun b e sz cs h => ?_, fun b h => ?_, fun b x k h => ?_, fun b b2 hb x => ?_, fun b x => ?_, fun b hb h => hH.dom b hb (by simpa [hputb, hput, show b ≠ 0 by omega] using h), fun x k h => ?_⟩
    · by_cases hb : b = 0
      · subst hb
        simp only [hputb, hput, if_true] at h
        cases h
        refine ⟨b', rc, ex, emp, by rw [hι, hl2], by simp only [if_true]; funext x; simp [join, emp], rfl, by rw [vi_len]; simp; omega, ?_⟩
        rw [vi_len]
        have : (zs.take i ++ zs.drop (i + 1) ++ [0]).length = n := by simp; omega
        rw [this, hrt]
        exact OL_vi_of
      · simp only [hputb, hput] at h
        rw [if_neg hb] at h
        cases h
    · by_cases hb : b = 0
      · subst hb
        exact absurd rfl (h _ _ _)
      · simp only [if_neg hb]; exact hDo b hb
    · by_cases hb : b = 0
      · subst hb
        simp only [if_true, single] at h
        split at h
        · rename_i hx; subst hx
          cases h
          simp [upd]
        · cases h
      · simp only [if_neg hb] at h
        rw [hDo b hb] at h
        cases h
    · by_cases hb0 : b = 0
      · right
        have : b2 ≠ 0 := fun e => hb (hb0.trans e.symm)
        simp only [if_neg this]
        rw [hDo b2 this]; rfl
      · left
        simp only [if_neg hb0]
        rw [hDo b hb0]; rfl
    · by_cases hb0 : b = 0
      · subst hb0
        by_cases hx : x = b'
        · subst hx; exact .inr hF
        · left; simp [single, hx]
      · left; simp only [if_neg hb0]; rw [hDo b hb0]; rfl
    · have hx : x ≠ b' := by rintro rfl; rw [hF] at h; cases h
      simp only [upd, if_neg hx]
      exact hH.leF x k h
  · simp only [R]
    exact ⟨b', _, _, 0, c, hι, rfl, fun _ => rfl, by omega, hcm, hcap⟩
end Go.Proofs.Ytcleiehdddjicaa.Sep

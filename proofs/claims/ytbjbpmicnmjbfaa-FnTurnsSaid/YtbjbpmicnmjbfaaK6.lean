/- Texts put together: C110, C111, C40, C112, C113, C114, C115, C116, C117, C118, C119, C120. -/
import Derived.Test.YtbjbpmicnmjbfaaK5
import Derived.Lib.BytesEntry
import Derived.Lib.Bytealg
import Derived.Laws.Externs
import Derived.WalkKit
import Derived.Deep.RegionWith
namespace Go.Proofs.Ytbjbpmicnmjbfaa.Sep
open Go.RowKit
set_option linter.unusedVariables false
set_option linter.unusedSimpArgs false
set_option maxRecDepth 20000
section
set_option maxHeartbeats 8000000
structure Pq (l : List Int) (n : Nat) (m : List Int) (a b : Int) : Prop where
  sw : Sw 0 n l m
  lo : Srt 0 a m
  hi : Srt b n m
  lx : ∀ s t : Nat, (s : Int) < a → a ≤ t → t < n → gi m s ≤ gi m t
  hx : ∀ s t : Nat, (s : Int) < b → b ≤ t → t < n → gi m s ≤ gi m t
section
variable {l m m' : List Int} {n : Nat} {a b x : Int}
theorem Pq.len (h : Pq l n m a b) (hn : l.length = n) : m.length = n := by rw [h.sw.len, hn]
theorem Pq.mid (h : Pq l n m a b) (hs : Sw a b m m') (h0 : 0 ≤ a ∧ b ≤ n) : Pq l n m' a b := by
  refine ⟨h.sw.trans (hs.wide h0.1 h0.2), fun i j h1 h2 h3 => ?_, fun i j h1 h2 h3 => ?_, fun s t h1 h2 h3 => ?_, fun s t h1 h2 h3 => ?_⟩
  · rw [hs.out (t := i) (by omega), hs.out (t := j) (by omega)]; exact h.lo i j h1 h2 h3
  · rw [hs.out (t := i) (by omega), hs.out (t := j) (by omega)]; exact h.hi i j h1 h2 h3
  · rw [hs.out (t := s) (by omega)]
    by_cases ht : (t : Int) < b
    · exact hs.all (Q := fun y => gi m s ≤ y) (fun t p1 p2 => h.lx s t h1 p1 (by omega)) t h2 ht
    · rw [hs.out (t := t) (by omega)]; exact h.lx s t h1 h2 h3
  · rw [hs.out (t := t) (by omega)]
    by_cases hsa : (s : Int) < a
    · rw [hs.out (t := s) (by omega)]; exact h.hx s t h1 h2 h3
    · exact hs.all (Q := fun y => y ≤ gi m t) (fun s p1 p2 => h.hx s t p2 h2 h3) s (by omega) h1
theorem Pq.fin (h : Pq l n m a b) (hs : Srt a b m) : Srt 0 n m := fun i j h1 h2 h3 => by
  by_cases ia : (i : Int) < a
  · by_cases ja : (j : Int) < a
    · exact h.lo i j h1 h2 ja
    · exact h.lx i j ia (by omega) (by omega)
  · by_cases jb : (j : Int) < b
    · exact hs i j (by omega) h2 jb
    · by_cases ib : (i : Int) < b
      · exact h.hx i j ib (by omega) (by omega)
      · exact h.hi i j (by omega) h2 h3
theorem Pq.left (h : Pq l n m a b) (hs : Srt a x m) (h1 : ∀ t : Nat, a ≤ t → (t : Int) < x → gi m t ≤ gi m x.toNat) (h2 : ∀ t : Nat, x < t → (t : Int) < b → gi m x.toNat ≤ gi m t) (h0 : 0 ≤ a ∧ a ≤ x ∧ x < b ∧ b ≤ n) : Pq l n m (x + 1) b := by
  refine ⟨h.sw, fun i j p1 p2 p3 => ?_, h.hi, fun s t p1 p2 p3 => ?_, h.hx⟩
  · by_cases ia : (i : Int) < a
    · by_cases ja : (j : Int) < a
      · exact h.lo i j p1 p2 ja
      · exact h.lx i j ia (by omega) (by omega)
    · by_cases jx : (j : Int) < x
      · exact hs i j (by omega) p2 jx
      · have ej : j = x.toNat := by omega
        by_cases ix : (i : Int) < x
        · rw [ej]; exact h1 i (by omega) ix
        · rw [show i = j by omega]; exact Int.le_refl _
  · by_cases sa : (s : Int) < a
    · exact h.lx s t sa (by omega) p3
    · have q : gi m s ≤ gi m x.toNat := by
        by_cases sx : (s : Int) < x
        · exact h1 s (by omega) sx
        · rw [show s = x.toNat by omega]; exact Int.le_refl _
      by_cases tb : (t : Int) < b
      · have := h2 t (by omega) tb; omega
      · have := h.hx x.toNat t (by omega) (by omega) p3; omega
theorem Pq.right (h : Pq l n m a b) (hs : Srt (x + 1) b m) (h1 : ∀ t : Nat, a ≤ t → (t : Int) < x → gi m t ≤ gi m x.toNat) (h2 : ∀ t : Nat, x < t → (t : Int) < b → gi m x.toNat ≤ gi m t) (h0 : 0 ≤ a ∧ a ≤ x ∧ x < b ∧ b ≤ n) : Pq l n m a x := by
  refine ⟨h.sw, h.lo, fun i j p1 p2 p3 => ?_, h.lx, fun s t p1 p2 p3 => ?_⟩
  · by_cases ib : (i : Int) < b
    · by_cases jb : (j : Int) < b
      · by_cases ix : (i : Int) = x
        · by_cases jx : (j : Int) = x
          · rw [show i = j by omega]; exact Int.le_refl _
          · rw [show i = x.toNat by omega]; exact h2 j (by omega) jb
        · exact hs i j (by omega) p2 jb
      · exact h.hx i j ib (by omega) (by omega)
    · exact h.hi i j (by omega) p2 p3
  · by_cases sa : (s : Int) < a
    · exact h.lx s t sa (by omega) p3
    · have q := h1 s (by omega) p1
      by_cases tb : (t : Int) < b
      · by_cases tx : (t : Int) = x
        · rw [show t = x.toNat by omega]; exact q
        · have := h2 t (by omega) tb; omega
      · exact h.hx s t (by omega) (by omega) p3
theorem Pq.equal (h : Pq l n m a b) (hs : Sw a b m m') {pv : Int} (hp : gi m (a - 1).toNat ≥ pv) (h1 : ∀ t : Nat, a ≤ t → (t : Int) < x → gi m' t ≤ pv) (h2 : ∀ t : Nat, x ≤ t → (t : Int) < b → pv < gi m' t) (h0 : 0 < a ∧ a < x ∧ x ≤ b ∧ b ≤ n) : Pq l n m' x b := by
  have h' := h.mid hs ⟨by omega, by omega⟩
  have hge : ∀ t : Nat, a ≤ t → (t : Int) < b → pv ≤ gi m' t := hs.all (Q := fun y => pv ≤ y) fun t p1 p2 => by
    have := h.lx (a - 1).toNat t (by omega) p1 (by omega); omega
  refine ⟨h'.sw, fun i j p1 p2 p3 => ?_, h'.hi, fun s t p1 p2 p3 => ?_, h'.hx⟩
  · by_cases ia : (i : Int) < a
    · by_cases ja : (j : Int) < a
      · exact h'.lo i j p1 p2 ja
      · exact h'.lx i j ia (by omega) (by omega)
    · have q1 := h1 i (by omega) (by omega)
      have q2 := hge j (by omega) (by omega)
      omega
  · by_cases sa : (s : Int) < a
    · exact h'.lx s t sa (by omega) p3
    · have q1 := h1 s (by omega) p1
      by_cases tb : (t : Int) < b
      · have q2 := h2 t p2 tb; omega
      · exact h'.hx s t (by omega) (by omega) p3
end
theorem c_pdq12 {l : List Int} {n : Nat} {a b k : Int} (hn : l.length = n) (h0 : 0 ≤ a ∧ a ≤ 1000) (hab : b - a ≤ 12 ∧ -100 ≤ b - a) (hb : b ≤ n) (hl : n ≤ 1000) : PSpecM Try.prog 79 [.rf 0 0 n, .int .i64 a, .int .i64 b, .int .i64 k] [(0, 2, 1)] [vi .i64 l] fun v c => v = .tup [] ∧ ∃ m, c = [vi .i64 m] ∧ Sw a b l m ∧ Srt a b m := by
  refine slices_pdqsortOrdered_int64_f.m rfl rfl ?_
  dsimp only [slices_pdqsortOrdered_int64_F, pcal_B, pcalp_B, pcala_B, pcond_B, pgk_B, JN_B, LP_B]
  (refine bni ?_; repeat (refine bnk ?_; (try simp (disch := first | omega | (simp only [LN]; omega)) only [↓EC, EW, seval, ↓reduceIte, ↓EBD, EBE])))
  refine LPx_of (σ := Unit) 100000 [(0, 2, 1)] (fun s => [.int .i64 a, .int .i64 b, .int .i64 k, .bool true, .bool true]) (fun s => [vi .i64 l]) (fun s => True) (fun s => 0) () (by simp [frameOk, names, lpz, sclp, scv, scvs, nrfs, nrf, FRB]) trivial ?_ ?_
  · (refine bni ?_; repeat (refine bnk ?_; simp (disch := first | omega | (simp only [LN]; omega)) only [↓EC, EW, seval, ↓reduceIte, ↓EBD, EBE, ColV_def]))
  · rintro _ _
    (refine bni ?_; repeat (refine bnk ?_; simp (disch := first | omega | (simp only [LN]; omega)) only [↓EC, EW, seval, ↓reduceIte, ↓EBD, EBE, ColV_def, lheap_def]))
    (refine Split.mkB (fun h => ?_) (fun h => ?_) <;> (try simp only [SD] at h))
    · (refine bni ?_; repeat (refine bnk ?_; (try simp (disch := first | omega | (simp only [LN]; omega)) only [↓EC, EW, seval, ↓reduceIte, ↓EBD, EBE])))
      refine pcm [0] rfl ?_; (refine bni ?_; repeat (refine bnk ?_; (try simp (disch := first | omega | (simp only [LN]; omega)) only [↓EC, EW, seval, ↓reduceIte, ↓EBD, EBE])))
      refine callM_d (c_insS (a := a) (b := b) hn h0 hb hl) ?_
      rintro _ _ ⟨rfl, m', rfl, hm'⟩
      (refine bni ?_; repeat (refine bnk ?_; (try simp (disch := first | omega | (simp only [LN]; omega)) only [↓EC, EW, seval, ↓reduceIte, ↓EBD, EBE])))
      exact ⟨m', rfl, hm'⟩
    · omega
theorem c_pdqS {l : List Int} {n : Nat} {k0 : Int} (hl : n ≤ 16) (hn : l.length = n) (hk : 0 ≤ k0 ∧ k0 ≤ 5 ∧ (n ≤ 12 ∨ (n : Int) - 12 < k0)) :
    PSpecM Try.prog 79 [.rf 0 0 n, .int .i64 0, .int .i64 n, .int .i64 k0] [(0, 2, 1)] [vi .i64 l] fun v c => v = .tup [] ∧ ∃ m, c = [vi .i64 m] ∧ Sw 0 n l m ∧ Srt 0 n m := by
  refine slices_pdqsortOrdered_int64_f.m rfl rfl ?_
  dsimp only [slices_pdqsortOrdered_int64_F, pcal_B, pcalp_B, pcala_B, pcond_B, pgk_B, JN_B, LP_B]
  (refine bni ?_; repeat (refine bnk ?_; (try simp (disch := first | omega | (simp only [LN]; omega)) only [↓EC, EW, seval, ↓reduceIte, ↓EBD, EBE])))
  refine LPx_of (σ := List Int × (Int × Int × Int) × Bool × Bool) 100000 [(0, 2, 1)] (fun s => [.int .i64 s.2.1.1, .int .i64 s.2.1.2.1, .int .i64 s.2.1.2.2, .bool s.2.2.1, .bool s.2.2.2]) (fun s => [vi .i64 s.1])
    (fun s => Pq l n s.1 s.2.1.1 s.2.1.2.1 ∧ 0 ≤ s.2.1.1 ∧ s.2.1.1 ≤ s.2.1.2.1 ∧ s.2.1.2.1 ≤ n ∧ 0 ≤ s.2.1.2.2 ∧ s.2.1.2.2 ≤ 5 ∧ (s.2.1.2.1 - s.2.1.1 ≤ 12 ∨ s.2.1.2.1 - s.2.1.1 - 12 < s.2.1.2.2)) (fun s => (s.2.1.2.1 - s.2.1.1).toNat) (l, (0, n, k0), true, true) (by simp [frameOk, names, lpz, sclp, scv, scvs, nrfs, nrf, FRB])
      ⟨⟨.refl _, fun i j h1 h2 h3 => by simp only at h3; omega, fun i j h1 h2 h3 => by simp only at h1; omega, fun s t h1 h2 h3 => by simp only at h1; omega, fun s t h1 h2 h3 => by simp only at h2; omega⟩, by simp only; omega⟩ ?_ ?_
  · (refine bni ?_; repeat (refine bnk ?_; simp (disch := first | omega | (simp only [LN]; omega)) only [↓EC, EW, seval, ↓reduceIte, ↓EBD, EBE, ColV_def]))
  · rintro ⟨m, ⟨a, b, k⟩, w, p⟩ ⟨hq, h2, h3, h4, h6, h7, h8⟩
    simp only at hq h2 h3 h4 h6 h7 h8
    have h1 := hq.len hn
    (refine bni ?_; repeat (refine bnk ?_; simp (disch := first | omega | (simp only [LN]; omega)) only [↓EC, EW, seval, ↓reduceIte, ↓EBD, EBE, ColV_def, lheap_def]))
    (refine Split.mkB (fun h => ?_) (fun h => ?_) <;> (try simp only [SD] at h))
    · (refine bni ?_; repeat (refine bnk ?_; (try simp (disch := first | omega | (simp only [LN]; omega)) only [↓EC, EW, seval, ↓reduceIte, ↓EBD, EBE])))
      refine pcm [0] rfl ?_; (refine bni ?_; repeat (refine bnk ?_; (try simp (disch := first | omega | (simp only [LN]; omega)) only [↓EC, EW, seval, ↓reduceIte, ↓EBD, EBE])))
      refine callM_d (c_insS (a := a) (b := b) h1 (by omega) (by omega) (by omega)) ?_
      rintro _ _ ⟨rfl, m', rfl, hs, hst⟩
      (refine bni ?_; repeat (refine bnk ?_; (try simp (disch := first | omega | (simp only [LN]; omega)) only [↓EC, EW, seval, ↓reduceIte, ↓EBD, EBE])))
      exact ⟨m', rfl, (hq.mid hs ⟨by omega, by omega⟩).sw, (hq.mid hs ⟨by omega, by omega⟩).fin hst⟩
    · (refine bni ?_; repeat (refine bnk ?_; (try simp (disch := first | omega | (simp only [LN]; omega)) only [↓EC, EW, seval, ↓reduceIte, ↓EBD, EBE])))
      (refine Split.mkB (fun h => ?_) (fun h => ?_) <;> (try simp only [SD] at h))
      · omega
      · (refine bni ?_; repeat (refine bnk ?_; (try simp (disch := first | omega | (simp only [LN]; omega)) only [↓EC, EW, seval, ↓reduceIte, ↓EBD, EBE])))
        refine JNx_of (fun o h => ∃ (m : List Int) (k' : Int) (h' : Hp), o = [.rf 0 0 n, .int .i64 a, .int .i64 b, .int .i64 k', .bool w, .bool p, .int .i64 (b - a)] ∧ h = hput h' 0 (.row 2 1 (vi .i64 m)) ∧ Pq l n m a b ∧ k - 1 ≤ k' ∧ k' ≤ k) ?_ ?_
        · intro K hK
          (refine bni ?_; repeat (refine bnk ?_; (try simp (disch := first | omega | (simp only [LN]; omega)) only [↓EC, EW, seval, ↓reduceIte, ↓EBD, EBE])))
          (refine Split.mkB (fun h => ?_) (fun h => ?_) <;> (try simp only [SD] at h))
          · (refine bni ?_; repeat (refine bnk ?_; (try simp (disch := first | omega | (simp only [LN]; omega)) only [↓EC, EW, seval, ↓reduceIte, ↓EBD, EBE])))
            refine pcm [0] rfl ?_; (refine bni ?_; repeat (refine bnk ?_; (try simp (disch := first | omega | (simp only [LN]; omega)) only [↓EC, EW, seval, ↓reduceIte, ↓EBD, EBE])))
            refine callM_d (c_brkS (a := a) (b := b) h1 (by omega) (by omega) (by omega) (by omega)) ?_
            rintro _ _ ⟨rfl, m', rfl, hm'⟩
            (refine bni ?_; repeat (refine bnk ?_; (try simp (disch := first | omega | (simp only [LN]; omega)) only [↓EC, EW, seval, ↓reduceIte, ↓EBD, EBE])))
            exact hK _ _ ⟨m', k - 1, _, rfl, rfl, hq.mid hm' ⟨by omega, by omega⟩, by omega, by omega⟩
          · (refine bni ?_; repeat (refine bnk ?_; (try simp (disch := first | omega | (simp only [LN]; omega)) only [↓EC, EW, seval, ↓reduceIte, ↓EBD, EBE])))
            exact hK _ _ ⟨m, k, _, rfl, rfl, hq, by omega, by omega⟩
        · rintro _ _ ⟨m, k', h', rfl, rfl, hq, h6', h7'⟩
          have h1 := hq.len hn
          have hlim : b - a - 12 < k := by omega
          have hk' : 0 ≤ k' ∧ k' ≤ 5 ∧ b - a - 1 - 12 < k' := by omega
          clear h6 h7 h8 h6' h7' hlim
          (refine bni ?_; repeat (refine bnk ?_; (try simp (disch := first | omega | (simp only [LN]; omega)) only [↓EC, EW, seval, ↓reduceIte, ↓EBD, EBE])))
          refine pcd_r (c_choosePivot (a := a) (b := b) h1 (by omega) (by omega) (by omega) (by omega)) ?_
          rintro _ ⟨x, y, rfl, hx, hx', hy, hy'⟩
          (refine bni ?_; repeat (refine bnk ?_; (try simp (disch := first | omega | (simp only [LN]; omega)) only [↓EC, EW, seval, ↓reduceIte, ↓EBD, EBE])))
          refine JNx_of (fun o h => ∃ (m : List Int) (w p : Bool) (x y : Int) (h' : Hp), o = [.rf 0 0 n, .int .i64 a, .int .i64 b, .int .i64 k', .bool w, .bool p, .int .i64 (b - a), .int .i64 x, .int .i64 y] ∧ h = hput h' 0 (.row 2 1 (vi .i64 m)) ∧ Pq l n m a b ∧ a ≤ x ∧ x < b) ?_ ?_
          · intro K hK
            (refine bni ?_; repeat (refine bnk ?_; (try simp (disch := first | omega | (simp only [LN]; omega)) only [↓EC, EW, seval, ↓reduceIte, ↓EBD, EBE])))
            (refine Split.mkB (fun h => ?_) (fun h => ?_) <;> (try simp only [SD] at h))
            · (refine bni ?_; repeat (refine bnk ?_; (try simp (disch := first | omega | (simp only [LN]; omega)) only [↓EC, EW, seval, ↓reduceIte, ↓EBD, EBE])))
              refine pcm [0] rfl ?_; (refine bni ?_; repeat (refine bnk ?_; (try simp (disch := first | omega | (simp only [LN]; omega)) only [↓EC, EW, seval, ↓reduceIte, ↓EBD, EBE])))
              refine callM_d (c_revS (a := a) (b := b) h1 (by omega) (by omega) (by omega)) ?_
              rintro _ _ ⟨rfl, m', rfl, hm'⟩
              (refine bni ?_; repeat (refine bnk ?_; (try simp (disch := first | omega | (simp only [LN]; omega)) only [↓EC, EW, seval, ↓reduceIte, ↓EBD, EBE])))
              exact hK _ _ ⟨m', w, p, _, _, _, rfl, rfl, hq.mid hm' ⟨by omega, by omega⟩, by omega, by omega⟩
            · (refine bni ?_; repeat (refine bnk ?_; (try simp (disch := first | omega | (simp only [LN]; omega)) only [↓EC, EW, seval, ↓reduceIte, ↓EBD, EBE])))
              exact hK _ _ ⟨m, w, p, _, _, _, rfl, rfl, hq, by omega, by omega⟩
          · rintro _ _ ⟨m, w, p, x, y, h', rfl, rfl, hq, hx, hx'⟩
            have h1 := hq.len hn
            (refine bni ?_; repeat (refine bnk ?_; (try simp (disch := first | omega | (simp only [LN]; omega)) only [↓EC, EW, seval, ↓reduceIte, ↓EBD, EBE])))
            refine JNx_of (fun o h => ∃ (m : List Int) (h' : Hp), o = [.rf 0 0 n, .int .i64 a, .int .i64 b, .int .i64 k', .bool w, .bool p, .int .i64 (b - a), .int .i64 x] ∧ h = hput h' 0 (.row 2 1 (vi .i64 m)) ∧ Pq l n m a b) ?_ ?_
            · intro K hK
              cases w
              · (refine bni ?_; repeat (refine bnk ?_; (try simp (disch := first | omega | (simp only [LN]; omega)) only [↓EC, EW, seval, ↓reduceIte, ↓EBD, EBE])))
                exact hK _ _ ⟨m, _, rfl, rfl, hq⟩
              · cases p
                · (refine bni ?_; repeat (refine bnk ?_; (try simp (disch := first | omega | (simp only [LN]; omega)) only [↓EC, EW, seval, ↓reduceIte, ↓EBD, EBE])))
                  exact hK _ _ ⟨m, _, rfl, rfl, hq⟩
                · (refine bni ?_; repeat (refine bnk ?_; (try simp (disch := first | omega | (simp only [LN]; omega)) only [↓EC, EW, seval, ↓reduceIte, ↓EBD, EBE])))
                  (refine Split.mkB (fun h => ?_) (fun h => ?_) <;> (try simp only [SD] at h))
                  · (refine bni ?_; repeat (refine bnk ?_; (try simp (disch := first | omega | (simp only [LN]; omega)) only [↓EC, EW, seval, ↓reduceIte, ↓EBD, EBE])))
                    refine pcd_r (c_parS (a := a) (b := b) h1 (by omega) (by omega) (by omega) (by omega)) ?_
                    rintro _ ⟨r, rfl, hr⟩
                    cases r
                    · (refine bni ?_; repeat (refine bnk ?_; (try simp (disch := first | omega | (simp only [LN]; omega)) only [↓EC, EW, seval, ↓reduceIte, ↓EBD, EBE])))
                      exact hK _ _ ⟨m, _, rfl, rfl, hq⟩
                    · (refine bni ?_; repeat (refine bnk ?_; (try simp (disch := first | omega | (simp only [LN]; omega)) only [↓EC, EW, seval, ↓reduceIte, ↓EBD, EBE])))
                      exact ⟨m, rfl, hq.sw, hq.fin (hr rfl)⟩
                  · (refine bni ?_; repeat (refine bnk ?_; (try simp (disch := first | omega | (simp only [LN]; omega)) only [↓EC, EW, seval, ↓reduceIte, ↓EBD, EBE])))
                    exact hK _ _ ⟨m, _, rfl, rfl, hq⟩
            · rintro _ _ ⟨m, h', rfl, rfl, hq⟩
              have h1 := hq.len hn
              (refine bni ?_; repeat (refine bnk ?_; (try simp (disch := first | omega | (simp only [LN]; omega)) only [↓EC, EW, seval, ↓reduceIte, ↓EBD, EBE])))
              (refine Split.mkB (fun h => ?_) (fun h => ?_) <;> (try simp only [SD] at h))
              · (refine bni ?_; repeat (refine bnk ?_; (try simp (disch := first | omega | (simp only [LN]; omega)) only [↓EC, EW, seval, ↓reduceIte, ↓EBD, EBE])))
                refine pcd_v c_less ?_
                (refine bni ?_; repeat (refine bnk ?_; (try simp (disch := first | omega | (simp only [LN]; omega)) only [↓EC, EW, seval, ↓reduceIte, ↓EBD, EBE])))
                (refine Split.mkB (fun h => ?_) (fun h => ?_) <;> (try simp only [SD] at h))
                · (refine bni ?_; repeat (refine bnk ?_; (try simp (disch := first | omega | (simp only [LN]; omega)) only [↓EC, EW, seval, ↓reduceIte, ↓EBD, EBE])))
                  refine pcm [0] rfl ?_; (refine bni ?_; repeat (refine bnk ?_; (try simp (disch := first | omega | (simp only [LN]; omega)) only [↓EC, EW, seval, ↓reduceIte, ↓EBD, EBE])))
                  refine callM_d (c_pteS (a := a) (b := b) (p := x) h1 (by omega) (by omega) (by omega) (by omega) (by omega)) ?_
                  rintro _ _ ⟨x', m', rfl, rfl, hs', hy1, hy2, hlo, hhi⟩
                  have hq' := hq.equal hs' (pv := gi m x.toNat) (by grind) hlo hhi (by omega)
                  (refine bni ?_; repeat (refine bnk ?_; (try simp (disch := first | omega | (simp only [LN]; omega)) only [↓EC, EW, seval, ↓reduceIte, ↓EBD, EBE])))
                  exact ⟨(m', (x', b, k'), w, p), rfl, rfl, ⟨hq', by simp only; omega⟩, by simp only; omega⟩
                · (refine bni ?_; repeat (refine bnk ?_; (try simp (disch := first | omega | (simp only [LN]; omega)) only [↓EC, EW, seval, ↓reduceIte, ↓EBD, EBE])))
                  refine pcm [0] rfl ?_; (refine bni ?_; repeat (refine bnk ?_; (try simp (disch := first | omega | (simp only [LN]; omega)) only [↓EC, EW, seval, ↓reduceIte, ↓EBD, EBE])))
                  refine callM_d (c_ptS (a := a) (b := b) (p := x) h1 (by omega) (by omega) (by omega) (by omega) (by omega)) ?_
                  rintro _ _ ⟨x', r, m', rfl, rfl, hs', hy1, hy2, hlo, hhi⟩
                  have hq' := hq.mid hs' ⟨by omega, by omega⟩
                  have h1' := hq'.len hn
                  (refine bni ?_; repeat (refine bnk ?_; (try simp (disch := first | omega | (simp only [LN]; omega)) only [↓EC, EW, seval, ↓reduceIte, ↓EBD, EBE])))
                  (refine Split.mkB (fun h => ?_) (fun h => ?_) <;> (try simp only [SD] at h))
                  · (refine bni ?_; repeat (refine bnk ?_; (try simp (disch := first | omega | (simp only [LN]; omega)) only [↓EC, EW, seval, ↓reduceIte, ↓EBD, EBE])))
                    refine pcm [0] rfl ?_; (refine bni ?_; repeat (refine bnk ?_; (try simp (disch := first | omega | (simp only [LN]; omega)) only [↓EC, EW, seval, ↓reduceIte, ↓EBD, EBE])))
                    refine callM_d (c_pdq12 (l := m') (a := a) (b := x') (k := k') h1' (by omega) (by omega) (by omega) (by omega)) ?_
                    rintro _ _ ⟨rfl, m'', rfl, hs'', hst⟩
                    (refine bni ?_; repeat (refine bnk ?_; (try simp (disch := first | omega | (simp only [LN]; omega)) only [↓EC, EW, seval, ↓reduceIte, ↓EBD, EBE])))
                    have hq'' := (hq'.mid (hs''.wide (Int.le_refl _) (by omega)) ⟨by omega, by omega⟩).left hst (fun t p1 p2 => by
                      rw [hs''.out (t := x'.toNat) (by omega)]
                      exact hs''.all (Q := fun y => y ≤ gi m' x'.toNat) hlo t p1 p2) (fun t p1 p2 => by
                      rw [hs''.out (t := x'.toNat) (by omega), hs''.out (t := t) (by omega)]; exact hhi t p1 p2) (by omega)
                    exact ⟨(m'', (x' + 1, b, k'), _, r), rfl, rfl, ⟨hq'', by simp only; omega⟩, by simp only; omega⟩
                  · (refine bni ?_; repeat (refine bnk ?_; (try simp (disch := first | omega | (simp only [LN]; omega)) only [↓EC, EW, seval, ↓reduceIte, ↓EBD, EBE])))
                    refine pcm [0] rfl ?_; (refine bni ?_; repeat (refine bnk ?_; (try simp (disch := first | omega | (simp only [LN]; omega)) only [↓EC, EW, seval, ↓reduceIte, ↓EBD, EBE])))
                    refine callM_d (c_pdq12 (l := m') (a := x' + 1) (b := b) (k := k') h1' (by omega) (by omega) (by omega) (by omega)) ?_
                    rintro _ _ ⟨rfl, m'', rfl, hs'', hst⟩
                    (refine bni ?_; repeat (refine bnk ?_; (try simp (disch := first | omega | (simp only [LN]; omega)) only [↓EC, EW, seval, ↓reduceIte, ↓EBD, EBE])))
                    have hq'' := (hq'.mid (hs''.wide (by omega) (Int.le_refl _)) ⟨by omega, by omega⟩).right hst (fun t p1 p2 => by
                      rw [hs''.out (t := x'.toNat) (by omega), hs''.out (t := t) (by omega)]; exact hlo t p1 p2) (fun t p1 p2 => by
                      rw [hs''.out (t := x'.toNat) (by omega)]
                      exact hs''.all (Q := fun y => gi m' x'.toNat ≤ y) (fun t p1 p2 => hhi t (by omega) p2) t (by omega) p2) (by omega)
                    exact ⟨(m'', (a, x', k'), _, r), rfl, rfl, ⟨hq'', by simp only; omega⟩, by simp only; omega⟩
              · (refine bni ?_; repeat (refine bnk ?_; (try simp (disch := first | omega | (simp only [LN]; omega)) only [↓EC, EW, seval, ↓reduceIte, ↓EBD, EBE])))
                refine pcm [0] rfl ?_; (refine bni ?_; repeat (refine bnk ?_; (try simp (disch := first | omega | (simp only [LN]; omega)) only [↓EC, EW, seval, ↓reduceIte, ↓EBD, EBE])))
                refine callM_d (c_ptS (a := a) (b := b) (p := x) h1 (by omega) (by omega) (by omega) (by omega) (by omega)) ?_
                rintro _ _ ⟨x', r, m', rfl, rfl, hs', hy1, hy2, hlo, hhi⟩
                have hq' := hq.mid hs' ⟨by omega, by omega⟩
                have h1' := hq'.len hn
                (refine bni ?_; repeat (refine bnk ?_; (try simp (disch := first | omega | (simp only [LN]; omega)) only [↓EC, EW, seval, ↓reduceIte, ↓EBD, EBE])))
                (refine Split.mkB (fun h => ?_) (fun h => ?_) <;> (try simp only [SD] at h))
                · (refine bni ?_; repeat (refine bnk ?_; (try simp (disch := first | omega | (simp only [LN]; omega)) only [↓EC, EW, seval, ↓reduceIte, ↓EBD, EBE])))
                  refine pcm [0] rfl ?_; (refine bni ?_; repeat (refine bnk ?_; (try simp (disch := first | omega | (simp only [LN]; omega)) only [↓EC, EW, seval, ↓reduceIte, ↓EBD, EBE])))
                  refine callM_d (c_pdq12 (l := m') (a := a) (b := x') (k := k') h1' (by omega) (by omega) (by omega) (by omega)) ?_
                  rintro _ _ ⟨rfl, m'', rfl, hs'', hst⟩
                  (refine bni ?_; repeat (refine bnk ?_; (try simp (disch := first | omega | (simp only [LN]; omega)) only [↓EC, EW, seval, ↓reduceIte, ↓EBD, EBE])))
                  have hq'' := (hq'.mid (hs''.wide (Int.le_refl _) (by omega)) ⟨by omega, by omega⟩).left hst (fun t p1 p2 => by
                    rw [hs''.out (t := x'.toNat) (by omega)]
                    exact hs''.all (Q := fun y => y ≤ gi m' x'.toNat) hlo t p1 p2) (fun t p1 p2 => by
                    rw [hs''.out (t := x'.toNat) (by omega), hs''.out (t := t) (by omega)]; exact hhi t p1 p2) (by omega)
                  exact ⟨(m'', (x' + 1, b, k'), _, r), rfl, rfl, ⟨hq'', by simp only; omega⟩, by simp only; omega⟩
                · (refine bni ?_; repeat (refine bnk ?_; (try simp (disch := first | omega | (simp only [LN]; omega)) only [↓EC, EW, seval, ↓reduceIte, ↓EBD, EBE])))
                  refine pcm [0] rfl ?_; (refine bni ?_; repeat (refine bnk ?_; (try simp (disch := first | omega | (simp only [LN]; omega)) only [↓EC, EW, seval, ↓reduceIte, ↓EBD, EBE])))
                  refine callM_d (c_pdq12 (l := m') (a := x' + 1) (b := b) (k := k') h1' (by omega) (by omega) (by omega) (by omega)) ?_
                  rintro _ _ ⟨rfl, m'', rfl, hs'', hst⟩
                  (refine bni ?_; repeat (refine bnk ?_; (try simp (disch := first | omega | (simp only [LN]; omega)) only [↓EC, EW, seval, ↓reduceIte, ↓EBD, EBE])))
                  have hq'' := (hq'.mid (hs''.wide (by omega) (Int.le_refl _)) ⟨by omega, by omega⟩).right hst (fun t p1 p2 => by
                    rw [hs''.out (t := x'.toNat) (by omega), hs''.out (t := t) (by omega)]; exact hlo t p1 p2) (fun t p1 p2 => by
                    rw [hs''.out (t := x'.toNat) (by omega)]
                    exact hs''.all (Q := fun y => gi m' x'.toNat ≤ y) (fun t p1 p2 => hhi t (by omega) p2) t (by omega) p2) (by omega)
                  exact ⟨(m'', (a, x', k'), _, r), rfl, rfl, ⟨hq'', by simp only; omega⟩, by simp only; omega⟩
theorem c_SortS {l : List Int} {n : Nat} (hn : l.length = n) (hl : n ≤ 16) : PSpecM Try.prog 76 [.rf 0 0 n] [(0, 2, 1)] [vi .i64 l] fun v c => v = .tup [] ∧ ∃ m, c = [vi .i64 m] ∧ Sw 0 n l m ∧ Srt 0 n m := by
  refine slices_Sort_int64_int64_i_f.m rfl rfl ?_
  dsimp only [slices_Sort_int64_int64_i_F, pcal_B, pcalp_B, pcala_B, pcond_B, pgk_B, JN_B, LP_B]
  (refine bni ?_; repeat (refine bnk ?_; (try simp (disch := first | omega | (simp only [LN]; omega)) only [↓EC, EW, seval, ↓reduceIte, ↓EBD, EBE])))
  refine pcd_r (c_LenN (k := n) (by omega)) ?_
  rintro _ ⟨r, rfl, h1, h2, h3⟩
  (refine bni ?_; repeat (refine bnk ?_; (try simp (disch := first | omega | (simp only [LN]; omega)) only [↓EC, EW, seval, ↓reduceIte, ↓EBD, EBE])))
  refine pcm [0] rfl ?_; (refine bni ?_; repeat (refine bnk ?_; (try simp (disch := first | omega | (simp only [LN]; omega)) only [↓EC, EW, seval, ↓reduceIte, ↓EBD, EBE])))
  refine callM_d (c_pdqS hl hn (k0 := r) ⟨h1, h2, by
    by_cases h8 : 8 ≤ n
    · have := h3 h8; omega
    · omega⟩) ?_
  rintro _ _ ⟨rfl, m, rfl, hm⟩
  (refine bni ?_; repeat (refine bnk ?_; (try simp (disch := first | omega | (simp only [LN]; omega)) only [↓EC, EW, seval, ↓reduceIte, ↓EBD, EBE])))
  exact ⟨m, rfl, hm⟩
end
section
set_option maxHeartbeats 1000000
def dsc (l : List Int) : List Int := l.mergeSort fun a b => decide (b ≤ a)
theorem dsc_perm (l : List Int) : (dsc l).Perm l := List.mergeSort_perm l _
theorem dsc_pw (l : List Int) : (dsc l).Pairwise fun a b => b ≤ a := by
  have := List.pairwise_mergeSort (le := fun a b : Int => decide (b ≤ a)) (fun a b c h h' => by simp only [decide_eq_true_eq] at *; omega) (fun a b => by simp only [Bool.or_eq_true, decide_eq_true_eq]; omega) l
  exact this.imp fun h => by simpa using h
theorem dsc_eq {l m : List Int} (h : m.Perm l) (hm : m.Pairwise fun a b => b ≤ a) : m = dsc l :=
  List.Perm.eq_of_pairwise (le := fun a b => b ≤ a) (fun a b _ _ h h' => Int.le_antisymm h' h) hm (dsc_pw l) (h.trans (dsc_perm l).symm)
theorem dsc_congr {l m : List Int} (h : l.Perm m) : dsc l = dsc m := dsc_eq ((dsc_perm l).trans h) (dsc_pw l)
theorem dsc_len {l : List Int} : (dsc l).length = l.length := (dsc_perm l).length_eq
theorem dsc_mem {l : List Int} {a : Int} : a ∈ dsc l ↔ a ∈ l := (dsc_perm l).mem_iff
theorem dsc_of {l m : List Int} {n : Nat} (hn : l.length = n) (h : Sw 0 n l m) (hs : Srt 0 n m) : m.reverse = dsc l := by
  have hm : m.length = n := by rw [h.len, hn]
  refine dsc_eq ((List.reverse_perm m).trans (List.perm_iff_count.2 fun c => h.cnt c)) ?_
  rw [List.pairwise_reverse, List.pairwise_iff_getElem]
  intro i j hi hj hij
  have := hs i j (by omega) (by omega) (by omega)
  rw [gi_of hi, gi_of hj] at this
  exact this
section
variable {p q σ : List Int} {n : Int} {N : Nat}
theorem Per.shift (hp : Pf p N) {r L : Nat} (hr : r < N) (h : Per p r L) (j : Nat) : Per p (it p j r) L := by
  refine ⟨h.pos, ?_, fun i h0 hi e => ?_⟩
  · rw [← it_add, Nat.add_comm, it_add, h.ret]
  · rw [← it_add, Nat.add_comm, it_add] at e
    exact h.min i h0 hi (it_inj hp (it_lt hp hr i) hr j e)
def lenW (p : List Int) (n : Int) (x : Nat) : Nat := (gl (cyc p n) (wh p n x)).length
theorem Pd.per (h : Pd p n) {x : Nat} (hx : x < n.toNat) : Per p x (lenW p n x) := by
  obtain ⟨r, L, hr, _, hL, e⟩ := cyc_orb h.pf h.nn (h.wh_lt (x := x))
  have hm := (h.wh_iff hx h.wh_lt).2 rfl
  rw [e] at hm
  obtain ⟨j, hj, ej⟩ := orb_mem.1 hm
  have hs := Per.shift h.pf hr hL j
  have : lenW p n x = L := by unfold lenW; rw [e, orb_len]
  rw [this, ← ej]; exact hs
def lens (p : List Int) (n : Int) : List Int := (cyc p n).map fun l => (l.length : Int)
theorem lens_len : (lens p n).length = (cyc p n).length := by simp [lens]
theorem smE_len {A : List (List Int)} {c : Nat} : ∀ s, s ≤ A.length → smE s (fun v => if (gl A v).length = c then (c : Int) else 0) = c * (((A.take s).map fun l => (l.length : Int)).count (c : Int) : Int)
  | 0, _ => by simp [smE]
  | s + 1, hs => by
    have ih := smE_len (A := A) (c := c) s (by omega)
    have h1 : s < A.length := by omega
    simp only [smE]
    rw [ih, List.take_succ_eq_append_getElem h1, List.map_append, List.count_append, gl_of h1]
    simp only [List.map_cons, List.map_nil, List.count_cons, List.count_nil, Nat.zero_add]
    by_cases q : A[s].length = c
    · rw [if_pos q, if_pos (by simp only [beq_iff_eq]; omega)]; simp; grind
    · rw [if_neg q, if_neg (by simp only [beq_iff_eq]; omega)]; simp
theorem sumT_ones {l : List Int} (h : ∀ y ∈ l, 0 ≤ y ∧ y < n) : ∀ s, s ≤ l.length → sumT (tab n fun _ => 1) l s = s
  | 0, _ => rfl
  | s + 1, hs => by
    have := h (gi l s) (by rw [gi_of (show s < l.length by omega)]; exact List.getElem_mem _)
    simp only [sumT]
    rw [sumT_ones h s (by omega), tab_at (by omega)]; simp
theorem Pd.lens_cnt (h : Pd p n) (c : Nat) : (c : Int) * (((lens p n).count (c : Int) : Nat) : Int) = smE n.toNat fun x => if lenW p n x = c then 1 else 0 := by
  rw [← h.all]
  have := smE_len (A := cyc p n) (c := c) _ (Nat.le_refl _)
  rw [List.take_length] at this
  unfold lens
  rw [← this]
  refine smE_congr _ fun v hv => ?_
  have e1 : (smE n.toNat fun e => if (e : Int) ∈ gl (cyc p n) v then (if lenW p n e = c then 1 else 0) else 0) = if (gl (cyc p n) v).length = c then smE n.toNat (fun e => if (e : Int) ∈ gl (cyc p n) v then gi (tab n fun _ => 1) e else 0) else 0 := by
    by_cases q : (gl (cyc p n) v).length = c
    · rw [if_pos q]
      refine smE_congr _ fun e he => ?_
      by_cases r : (e : Int) ∈ gl (cyc p n) v
      · rw [if_pos r, if_pos r, tab_at he, if_pos]
        unfold lenW; rw [← (h.wh_iff he hv).1 r]; exact q
      · rw [if_neg r, if_neg r]
    · rw [if_neg q]
      refine (smE_congr (g := fun _ => 0) _ fun e he => ?_).trans (smE_zero _)
      show (if (e : Int) ∈ gl (cyc p n) v then (if lenW p n e = c then (1 : Int) else 0) else 0) = 0
      by_cases r : (e : Int) ∈ gl (cyc p n) v
      · rw [if_pos r, if_neg]
        unfold lenW; rw [← (h.wh_iff he hv).1 r]; exact q
      · rw [if_neg r]
  rw [e1]
  by_cases q : (gl (cyc p n) v).length = c
  · rw [if_pos q, if_pos q, ← h.sumT hv, sumT_ones (fun y hy => (cyc_at h.lt h.hn _ (gl_mem hv)).1 y hy) _ (Nat.le_refl _), q]
  · rw [if_neg q, if_neg q]
theorem Pd.len_pos (h : Pd p n) {a : Int} (ha : a ∈ lens p n) : 1 ≤ a := by
  simp only [lens, List.mem_map] at ha
  obtain ⟨l, hl, rfl⟩ := ha
  obtain ⟨v, hv, rfl⟩ := List.getElem_of_mem hl
  obtain ⟨r, L, hr, _, hL, e⟩ := cyc_orb h.pf h.nn hv
  rw [gl_of hv] at e
  rw [e, orb_len]
  have := hL.pos; omega
theorem lens_perm (hp : Pd p n) (hq : Pd q n) (s : Nat → Nat) (hs : ∀ g : Nat → Int, smE n.toNat (fun x => g (s x)) = smE n.toNat g) (h : ∀ x, x < n.toNat → lenW q n (s x) = lenW p n x) : (lens p n).Perm (lens q n) := by
  refine List.perm_iff_count.2 fun c => ?_
  by_cases hc : 1 ≤ c
  · obtain ⟨k, rfl⟩ : ∃ k : Nat, c = k := ⟨c.toNat, by omega⟩
    have e1 := hp.lens_cnt k
    have e2 := hq.lens_cnt k
    rw [← hs] at e2
    have e3 : smE n.toNat (fun x => if lenW q n (s x) = k then (1 : Int) else 0) = smE n.toNat fun x => if lenW p n x = k then 1 else 0 := smE_congr _ fun x hx => by rw [h x hx]
    rw [e3, ← e1] at e2
    have := Int.eq_of_mul_eq_mul_left (by omega) e2
    omega
  · rw [List.count_eq_zero_of_not_mem fun h => hc (hp.len_pos h), List.count_eq_zero_of_not_mem fun h => hc (hq.len_pos h)]
theorem it_conj (hp : Pf p N) (h : ∀ x, x < N → fp q (fp σ x) = fp σ (fp p x)) {x : Nat} (hx : x < N) : ∀ k, it q k (fp σ x) = fp σ (it p k x)
  | 0 => rfl
  | k + 1 => by simp only [it]; rw [it_conj hp h hx k, h _ (it_lt hp hx k)]
theorem lens_conj (hp : Pd p n) (hq : Pd q n) (hσ : Pf σ n.toNat) (h : ∀ x, x < n.toNat → fp q (fp σ x) = fp σ (fp p x)) : (lens p n).Perm (lens q n) := by
  refine lens_perm hp hq (fp σ) (fun g => smE_perm hσ) fun x hx => ?_
  have h1 := hp.per hx
  refine (hq.per (hσ.lt x hx)).same ⟨h1.pos, ?_, fun j h0 hj e => ?_⟩
  · rw [it_conj hp.pf h hx, h1.ret]
  · rw [it_conj hp.pf h hx] at e
    exact h1.min j h0 hj (hσ.inj _ _ (it_lt hp.pf hx j) hx e)
theorem it_back (hp : Pf p N) (h : ∀ x, x < N → fp q (fp p x) = x) {x : Nat} (hx : x < N) : ∀ k, it q k (it p k x) = x
  | 0 => rfl
  | k + 1 => by
    rw [it_succ]
    simp only [it]
    rw [h _ (it_lt hp hx k)]
    exact it_back hp h hx k
theorem lens_back (hp : Pd p n) (hq : Pd q n) (h : ∀ x, x < n.toNat → fp q (fp p x) = x) (h' : ∀ x, x < n.toNat → fp p (fp q x) = x) : (lens p n).Perm (lens q n) := by
  refine lens_perm hp hq (fun x => x) (fun g => rfl) fun x hx => ?_
  have h1 := hp.per hx
  refine (hq.per hx).same ⟨h1.pos, ?_, fun j h0 hj e => ?_⟩
  · have := it_back hp.pf h hx (lenW p n x)
    rw [h1.ret] at this; exact this
  · have := it_back hq.pf h' hx j
    rw [e] at this
    exact h1.min j h0 hj this
def typ (p : List Int) (n : Int) : List Int := dsc (lens p n)
theorem typ_len : (typ p n).length = (cyc p n).length := by unfold typ; rw [dsc_len, lens_len]
theorem Pd.pairs (h : Pd p n) : (∀ a ∈ typ p n, a = 2) ↔ ∀ x, x < n.toNat → fp p x ≠ x ∧ fp p (fp p x) = x := by
  constructor
  · intro ha x hx
    have h1 := h.per hx
    have h2 : lenW p n x = 2 := by
      have := ha (lenW p n x) (by
        unfold typ; rw [dsc_mem]
        unfold lens lenW
        exact List.mem_map.2 ⟨_, gl_mem h.wh_lt, rfl⟩)
      omega
    rw [h2] at h1
    exact ⟨h1.min 1 (by omega) (by omega), h1.ret⟩
  · intro hx a ha
    unfold typ at ha; rw [dsc_mem] at ha
    simp only [lens, List.mem_map] at ha
    obtain ⟨l, hl, rfl⟩ := ha
    obtain ⟨v, hv, rfl⟩ := List.getElem_of_mem hl
    obtain ⟨r, L, hr, _, hL, e⟩ := cyc_orb h.pf h.nn hv
    rw [gl_of hv] at e
    rw [e, orb_len]
    have := (⟨by omega, (hx r hr).2, fun j h0 hj e => by
      have : j = 1 := by omega
      subst this; exact (hx r hr).1 e⟩ : Per p r 2).same hL
    omega
end
end
section
set_option maxHeartbeats 1000000
def srX (x : Int) : Sr := ([x], (List.replicate 16 false).set x.toNat true)
theorem srX_ok {x : Int} (hx : 0 ≤ x ∧ x < 16) : SrOk (srX x) := by
  refine ⟨by simp [srX], ?_, fun j hj => ?_⟩
  · have hl : x.toNat < (List.replicate 16 false).length := by simp; omega
    simp only [srX]
    rw [List.count_set hl]
    simp
  · have : j = 0 := by simp [srX] at hj; exact hj
    subst this; exact hx
theorem srRun_ok {p q : List Int} (hp : lo16 p) (hq : lo16 q) : ∀ (k i : Nat) {s : Sr}, SrOk s → SrOk (srRun p q k i s)
  | 0, i, s, h => h
  | k + 1, i, s, h => by
    simp only [srRun]
    split
    · exact srRun_ok hp hq k (i + 1) (srStep_ok hp hq h (by assumption))
    · exact h
def nmdL (p q : List Int) (x : Int) : List Int := (srRun p q 17 0 (srX x)).1
theorem nmdL_ok {p q : List Int} (hp : lo16 p) (hq : lo16 q) {x : Int} (hx : 0 ≤ x ∧ x < 16) : (nmdL p q x).length ≤ 16 ∧ ∀ j, j < (nmdL p q x).length → 0 ≤ gi (nmdL p q x) j ∧ gi (nmdL p q x) j < 16 :=
  ⟨(srRun_ok hp hq 17 0 (srX_ok hx)).le, (srRun_ok hp hq 17 0 (srX_ok hx)).lo⟩
def nameT (l : List Int) : Nat → List Int
  | 0 => List.replicate 16 0
  | s + 1 => (nameT l s).set (gi l s).toNat s
theorem nameT_len {l : List Int} : ∀ s, (nameT l s).length = 16
  | 0 => by simp [nameT]
  | s + 1 => by simp [nameT, nameT_len s]
theorem nameT_congr {l m : List Int} : ∀ s, (∀ j, j < s → gi l j = gi m j) → nameT l s = nameT m s
  | 0, _ => rfl
  | s + 1, h => by simp only [nameT]; rw [nameT_congr s fun j hj => h j (by omega), h s (by omega)]
theorem nameT_lo {l : List Int} : ∀ s, s ≤ 16 → lo16 (nameT l s)
  | 0, _ => ⟨by simp [nameT], fun i hi => by simp only [nameT]; rw [gi_rep]; split <;> omega⟩
  | s + 1, h => ⟨by simp [nameT, nameT_len], fun i hi => by
    simp only [nameT]
    rw [gi_set]
    split
    · omega
    · exact (nameT_lo s (by omega)).2 i hi⟩
def nmgP (p q : List Int) (x : Int) : List Int := nameT (nmdL p q x) (nmdL p q x).length
theorem nmgP_lo {p q : List Int} (hp : lo16 p) (hq : lo16 q) {x : Int} (hx : 0 ≤ x ∧ x < 16) : lo16 (nmgP p q x) := nameT_lo _ (nmdL_ok hp hq hx).1
theorem visit_pre {y : Int} {s : Sr} {j : Nat} (hj : j < s.1.length) : gi (visit y s).1 j = gi s.1 j := by
  unfold visit; split
  · rfl
  · simp only [gi_app]; rw [if_pos hj]
theorem srStep_pre {p q : List Int} {i : Nat} {s : Sr} {j : Nat} (hj : j < s.1.length) : gi (srStep p q i s).1 j = gi s.1 j := by
  unfold srStep
  rw [visit_pre (Nat.lt_of_lt_of_le hj visit_len), visit_pre hj]
theorem sr_mid {p q : List Int} {i j : Nat} {s0 s : Sr} (hp : lo16 p) (hq : lo16 q) (h1 : SrOk s0) (hi : i < s0.1.length) (h : s = if j = 0 then s0 else if j = 1 then visit (gi p (gi s0.1 i).toNat) s0 else srStep p q i s0) :
    SrOk s ∧ (∀ k, k < s0.1.length → gi s.1 k = gi s0.1 k) ∧ s0.1.length ≤ s.1.length := by
  have h0 := h1.lo i hi
  rw [h]
  split
  · exact ⟨h1, fun _ _ => rfl, Nat.le_refl _⟩
  · split
    · exact ⟨visit_ok h1 (hp.2 _ (by omega)), fun k hk => visit_pre hk, visit_len⟩
    · exact ⟨srStep_ok hp hq h1 hi, fun k hk => srStep_pre hk, srStep_len⟩
theorem c_impl_named {n : Int} {p q : List Int} {x : Int} (hp : lo16 p) (hq : lo16 q) (hx : 0 ≤ x ∧ x < 16) : PSpec Try.prog 68 [vD n p q, .int .i64 x] fun v => v = .own 5 1 (nmdL p q x).length (vi .u8 (nmdL p q x)) := by
  have hl := hp.1
  have hk := hq.1
  refine impl_named_f.f ?_
  unfold vD
  simp (disch := first | omega | (simp only [LN]; omega)) only [↓EC, EW, seval, ↓reduceIte, impl_named_F, hl, hk]
  refine LP_of (σ := Sr × Nat) 100000 [(66, 27, 1), (69, 83, 1)] (fun s => [.own 5 1 s.1.1.length (vi .u8 s.1.1), .int .i64 s.2]) (fun s => [.int .i64 n :: vi .u8 (p ++ q), vb s.1.2])
    (fun s => SrOk s.1 ∧ s.2 ≤ s.1.1.length ∧ srRun p q (17 - s.2) s.2 s.1 = srRun p q 17 0 (srX x)) (fun s => 17 - s.2) (srX x, 0) (by simp [frameOk, names, lpz, sclp, scv, scvs, nrfs, nrf, FRB]) ⟨srX_ok hx, Nat.zero_le _, rfl⟩ ?_ ?_
  · simp (disch := first | omega | (simp only [LN]; omega)) only [↓EC, EW, seval, ↓reduceIte, ColV_def]
    exact ⟨rfl, rfl⟩
  · rintro ⟨⟨l, m⟩, i⟩ ⟨h1, h2, h3⟩
    simp only at h1 h2 h3
    have hm := h1.len
    have hle := h1.le
    simp only at hm hle
    simp (disch := first | omega | (simp only [LN]; omega)) only [↓EC, EW, seval, ↓reduceIte, ColV_def, lheap_def]
    (refine Split.mk (fun h => ?_) (fun h => ?_) <;> (try simp only [SD] at h))
    · have hi : i < l.length := by omega
      have hlo := h1.lo i hi
      simp only at hlo
      have hy1 := hp.2 (gi l i).toNat (by omega)
      have hy2 := hq.2 (gi l i).toNat (by omega)
      (try simp (disch := first | omega | (simp only [LN]; omega)) only [↓EC, EW, seval, ↓reduceIte, hl, hk])
      refine LP_of (σ := Sr × Nat) 200000 [(66, 27, 1), (69, 83, 1), (100, 5, 1)] (fun s => [.own 5 1 s.1.1.length (vi .u8 s.1.1), .int .i64 s.2])
        (fun s => [.int .i64 n :: vi .u8 (p ++ q), vb s.1.2, vi .u8 [gi p (gi l i).toNat, gi q (gi l i).toNat]])
        (fun s => s.2 ≤ 2 ∧ s.1 = if s.2 = 0 then (l, m) else if s.2 = 1 then visit (gi p (gi l i).toNat) (l, m) else srStep p q i (l, m)) (fun s => 2 - s.2) ((l, m), 0) (by simp [frameOk, names, lpz, sclp, scv, scvs, nrfs, nrf, FRB]) ⟨Nat.zero_le 2, rfl⟩ ?_ ?_
      · simp (disch := first | omega | (simp only [LN]; omega)) only [↓EC, EW, seval, ↓reduceIte, ColV_def]
        rfl
      · rintro ⟨s, j⟩ ⟨g1, g2⟩
        simp only at g1 g2
        obtain ⟨hs, hpre, hil⟩ := sr_mid (s0 := (l, m)) hp hq h1 hi g2
        simp only at hil
        have hsm := hs.len
        have hsl := hs.le
        simp (disch := first | omega | (simp only [LN]; omega)) only [↓EC, EW, seval, ↓reduceIte, ColV_def, lheap_def]
        (refine Split.mk (fun h => ?_) (fun h => ?_) <;> (try simp only [SD] at h))
        · have hj : j = 0 ∨ j = 1 := by omega
          rcases hj with rfl | rfl
          · (try simp (disch := first | omega | (simp only [LN]; omega)) only [↓EC, EW, seval, ↓reduceIte, hl, hk])
            rw [if_pos rfl] at g2
            (refine Split.mk (fun h => ?_) (fun h => ?_) <;> (try simp only [SD] at h))
            · exact ⟨(visit (gi p (gi l i).toNat) s, 1), by rw [visit_no h]; simp, by rw [visit_no h], ⟨by simp, by rw [g2]; rfl⟩, by simp⟩
            · exact ⟨(visit (gi p (gi l i).toNat) s, 1), by rw [visit_yes h]; simp, by rw [visit_yes h], ⟨by simp, by rw [g2]; rfl⟩, by simp⟩
          · (try simp (disch := first | omega | (simp only [LN]; omega)) only [↓EC, EW, seval, ↓reduceIte, hl, hk])
            rw [if_neg (by decide), if_pos rfl] at g2
            (refine Split.mk (fun h => ?_) (fun h => ?_) <;> (try simp only [SD] at h))
            · exact ⟨(visit (gi q (gi l i).toNat) s, 2), by rw [visit_no h]; simp, by rw [visit_no h], ⟨by simp, by rw [g2]; rfl⟩, by simp⟩
            · exact ⟨(visit (gi q (gi l i).toNat) s, 2), by rw [visit_yes h]; simp, by rw [visit_yes h], ⟨by simp, by rw [g2]; rfl⟩, by simp⟩
        · (try simp (disch := first | omega | (simp only [LN]; omega)) only [↓EC, EW, seval, ↓reduceIte])
          rw [if_neg (by omega), if_neg (by omega)] at g2
          refine ⟨(s, i + 1), rfl, rfl, ⟨hs, by simp only; omega, ?_⟩, by simp only; omega⟩
          rw [show 17 - i = 16 - i + 1 from by omega] at h3
          simp only [srRun, if_pos hi] at h3
          try simp only
          rw [g2, show 17 - (i + 1) = 16 - i from by omega]
          exact h3
    · (try simp (disch := first | omega | (simp only [LN]; omega)) only [↓EC, EW, seval, ↓reduceIte])
      unfold nmdL
      rw [← h3, show 17 - i = 16 - i + 1 from by omega]
      simp only [srRun]
      rw [if_neg (by omega)]
theorem c_impl_naming {n : Int} {p q : List Int} {x : Int} (hp : lo16 p) (hq : lo16 q) (hx : 0 ≤ x ∧ x < 16) : PSpec Try.prog 59 [vD n p q, .int .i64 x] fun v => v = .agg (vi .u8 (nmgP p q x)) := by
  have hl := hp.1
  have hk := hq.1
  obtain ⟨n1, n2⟩ := nmdL_ok hp hq hx
  refine impl_naming_f.f ?_
  have h1 := c_impl_named (n := n) hp hq hx
  unfold vD at h1 ⊢
  simp (disch := first | omega | (simp only [LN]; omega)) only [↓EC, EW, seval, ↓reduceIte, impl_naming_F, hl, hk]
  refine pcd_v h1 ?_
  unfold nmgP
  generalize nmdL p q x = L at *
  (try simp (disch := first | omega | (simp only [LN]; omega)) only [↓EC, EW, seval, ↓reduceIte, hl, hk])
  refine LP_of (σ := Nat) 100000 [(66, 27, 1), (68, 25, 1), (69, 25, 1)] (fun s => [.int .i64 s]) (fun s => [.int .i64 n :: vi .u8 (p ++ q), vi .u8 (List.replicate 16 0), vi .u8 (nameT L s)])
    (fun s => s ≤ L.length) (fun s => L.length - s) 0 (by simp [frameOk, names, lpz, sclp, scv, scvs, nrfs, nrf, FRB]) (Nat.zero_le _) ?_ ?_
  · simp (disch := first | omega | (simp only [LN]; omega)) only [↓EC, EW, seval, ↓reduceIte, ColV_def]
    rfl
  · rintro s h1
    have hnl := nameT_len (l := L) s
    simp (disch := first | omega | (simp only [LN]; omega)) only [↓EC, EW, seval, ↓reduceIte, ColV_def, lheap_def]
    (refine Split.mk (fun h => ?_) (fun h => ?_) <;> (try simp only [SD] at h))
    · have hb := n2 s (by omega)
      (try simp (disch := first | omega | (simp only [LN]; omega)) only [↓EC, EW, seval, ↓reduceIte])
      (refine ⟨s + 1, ?_⟩; repeat' (first | (refine And.intro ?_ ?_) | rfl | omega | trivial))
    · have : s = L.length := by omega
      subst this
      (try simp (disch := first | omega | (simp only [LN]; omega)) only [↓EC, EW, seval, ↓reduceIte, hnl])
def rnT (p b : List Int) : Nat → List Int
  | 0 => List.replicate 16 0
  | s + 1 => (rnT p b s).set (gi p s).toNat (gi p (gi b s).toNat)
theorem rnT_len {p b : List Int} : ∀ s, (rnT p b s).length = 16
  | 0 => by simp [rnT]
  | s + 1 => by simp [rnT, rnT_len s]
theorem rnT_lo {p b : List Int} (hp : lo16 p) (hb : lo16 b) : ∀ s, s ≤ 16 → lo16 (rnT p b s)
  | 0, _ => ⟨by simp [rnT], fun i hi => by simp only [rnT]; rw [gi_rep]; split <;> omega⟩
  | s + 1, h => ⟨by simp [rnT, rnT_len], fun i hi => by
    have h1 := hb.2 s (by omega)
    simp only [rnT]
    rw [gi_set]
    split
    · exact hp.2 _ (by omega)
    · exact (rnT_lo hp hb s (by omega)).2 i hi⟩
theorem c_impl_rename {n : Int} {b w p : List Int} (hb : lo16 b) (hw : lo16 w) (hp : lo16 p) (hn : 1 ≤ n ∧ n ≤ 16) : PSpec Try.prog 58 [vD n b w, .agg (vi .u8 p)] fun v => v = vD n (rnT p b n.toNat) (rnT p w n.toNat) := by
  have hl := hb.1
  have hk := hw.1
  have hpl := hp.1
  refine impl_rename_f.f ?_
  unfold vD
  simp (disch := first | omega | (simp only [LN]; omega)) only [↓EC, EW, seval, ↓reduceIte, impl_rename_F, hl, hk, hpl]
  refine LP_of (σ := Nat) 100000 [(66, 27, 1), (67, 25, 1), (68, 27, 1), (69, 27, 1)] (fun s => [.int .i64 s])
    (fun s => [.int .i64 n :: vi .u8 (b ++ w), vi .u8 p, .int .i64 0 :: vi .u8 (List.replicate 32 0), .int .i64 n :: vi .u8 (rnT p b s ++ rnT p w s)])
    (fun s => (s : Int) ≤ n) (fun s => (n - s).toNat) 0 (by simp [frameOk, names, lpz, sclp, scv, scvs, nrfs, nrf, FRB]) (by simp only [Int.natCast_zero]; omega) ?_ ?_
  · simp (disch := first | omega | (simp only [LN]; omega)) only [↓EC, EW, seval, ↓reduceIte, ColV_def]
    rfl
  · rintro s h1
    have q1 := rnT_len (p := p) (b := b) s
    have q2 := rnT_len (p := p) (b := w) s
    simp (disch := first | omega | (simp only [LN]; omega)) only [↓EC, EW, seval, ↓reduceIte, ColV_def, lheap_def]
    (refine Split.mk (fun h => ?_) (fun h => ?_) <;> (try simp only [SD] at h))
    · have a1 := hp.2 s (by omega)
      have a2 := hb.2 s (by omega)
      have a3 := hw.2 s (by omega)
      have a4 := hp.2 (gi b s).toNat (by omega)
      have a5 := hp.2 (gi w s).toNat (by omega)
      (try simp (disch := first | omega | (simp only [LN]; omega)) only [↓EC, EW, seval, ↓reduceIte, hl, hk, hpl, q1, q2])
      exact ⟨s + 1, rfl, rfl, by omega, by omega⟩
    · have : s = n.toNat := by omega
      subst this
      (try simp (disch := first | omega | (simp only [LN]; omega)) only [↓EC, EW, seval, ↓reduceIte, hl, hk, q1, q2])
end
section
set_option maxHeartbeats 1000000
theorem fp_nn {p : List Int} (hp : lo16 p) (x : Nat) : gi p x = (fp p x : Int) := by have := lo16_nn hp x; unfold fp; omega
theorem gi_ext16 {l m : List Int} (hl : l.length = 16) (hm : m.length = 16) (h : ∀ i, i < 16 → gi l i = gi m i) : l = m := gi_ext (by omega) fun i hi => h i (by omega)
section
variable {b w : List Int} {n : Int}
theorem visit_sub {y : Int} {s : Sr} {z : Int} (h : z ∈ s.1) : z ∈ (visit y s).1 := by
  unfold visit; split
  · exact h
  · exact List.mem_append_left _ h
theorem visit_has {y : Int} {s : Sr} (h : Q.Sx n s) (hn : n ≤ 16) (hy : 0 ≤ y ∧ y < n) : y ∈ (visit y s).1 := by
  unfold visit; split
  · rename_i hv
    have := (h.has y.toNat (by omega)).1 hv
    rw [show ((y.toNat : Nat) : Int) = y by omega] at this; exact this
  · exact List.mem_append_right _ (List.mem_singleton.2 rfl)
theorem Sx_len {s : Sr} (h : Q.Sx n s) : s.1.length ≤ n.toNat := by
  have := nodup_len n.toNat (s.1.map Int.toNat) (List.pairwise_map.2 (List.Pairwise.imp_of_mem (fun {a c} ha hc hne ee => by
    have := h.lt a ha
    have := h.lt c hc
    omega) h.nd)) fun z hz => by
    obtain ⟨u, hu, rfl⟩ := List.mem_map.1 hz
    have := h.lt u hu
    omega
  simpa using this
theorem Sx_step (hn : 1 ≤ n ∧ n ≤ 16) (hb : ltP b n) (hw : ltP w n) {s : Sr} (h : Q.Sx n s) {k : Nat} (hk : k < s.1.length) : Q.Sx n (srStep b w k s) := by
  have hm : gi s.1 k ∈ s.1 := by rw [gi_of hk]; exact List.getElem_mem hk
  have hz := h.lt _ hm
  exact Q.Sx.visit hn (Q.Sx.visit hn h (hb (gi s.1 k).toNat (by omega))) (hw (gi s.1 k).toNat (by omega))
theorem srRun_cl (hn : 1 ≤ n ∧ n ≤ 16) (hb : ltP b n) (hw : ltP w n) : ∀ (m i : Nat) {s : Sr}, i + m = 17 → Q.Sx n s → i ≤ s.1.length → (∀ j, j < i → gi b (gi s.1 j).toNat ∈ s.1 ∧ gi w (gi s.1 j).toNat ∈ s.1) →
    Q.Sx n (srRun b w m i s) ∧ (∀ z ∈ s.1, z ∈ (srRun b w m i s).1) ∧ ∀ z ∈ (srRun b w m i s).1, gi b z.toNat ∈ (srRun b w m i s).1 ∧ gi w z.toNat ∈ (srRun b w m i s).1
  | 0, i, s, e, h, hi, hc => by
    have := Sx_len h
    omega
  | m + 1, i, s, e, h, hi, hc => by
    simp only [srRun]
    split
    · rename_i hlt
      have h' := Sx_step hn hb hw h hlt
      have hm : gi s.1 i ∈ s.1 := by rw [gi_of hlt]; exact List.getElem_mem hlt
      have hz := h.lt _ hm
      have by_ := hb (gi s.1 i).toNat (by omega)
      have wy_ := hw (gi s.1 i).toNat (by omega)
      have sub : ∀ z ∈ s.1, z ∈ (srStep b w i s).1 := fun z hz => visit_sub (visit_sub hz)
      obtain ⟨c1, c2, c3⟩ := srRun_cl hn hb hw m (i + 1) (s := srStep b w i s) (by omega) h' (Nat.le_trans hlt srStep_len) fun j hj => by
        rw [srStep_pre (show j < s.1.length by omega)]
        by_cases q : j = i
        · subst q
          exact ⟨visit_sub (visit_has h hn.2 by_), visit_has (Q.Sx.visit hn h by_) hn.2 wy_⟩
        · exact ⟨sub _ (hc j (by omega)).1, sub _ (hc j (by omega)).2⟩
      exact ⟨c1, fun z hz => c2 z (sub z hz), c3⟩
    · refine ⟨h, fun z hz => hz, fun z hz => ?_⟩
      obtain ⟨j, hj, rfl⟩ := List.getElem_of_mem hz
      have := hc j (by omega)
      rw [gi_of hj] at this; exact this
theorem srRun_ind (hb : ltP b n) (hw : ltP w n) {S : Nat → Prop} (hB : ∀ x, x < n.toNat → S x → S (fp b x)) (hW : ∀ x, x < n.toNat → S x → S (fp w x)) : ∀ (m i : Nat) {s : Sr}, (∀ z ∈ s.1, (0 ≤ z ∧ z < n) ∧ S z.toNat) → ∀ z ∈ (srRun b w m i s).1, S z.toNat
  | 0, i, s, h => fun z hz => (h z hz).2
  | m + 1, i, s, h => by
    simp only [srRun]
    split
    · rename_i hlt
      have hm : gi s.1 i ∈ s.1 := by rw [gi_of hlt]; exact List.getElem_mem hlt
      obtain ⟨hz, hS⟩ := h _ hm
      have by_ := hb (gi s.1 i).toNat (by omega)
      have wy_ := hw (gi s.1 i).toNat (by omega)
      have hv : ∀ (y : Int) (s : Sr), (∀ z ∈ s.1, (0 ≤ z ∧ z < n) ∧ S z.toNat) → ((0 ≤ y ∧ y < n) ∧ S y.toNat) → ∀ z ∈ (visit y s).1, (0 ≤ z ∧ z < n) ∧ S z.toNat := fun y s hs hy z hz => by
        unfold visit at hz
        split at hz
        · exact hs z hz
        · rcases List.mem_append.1 hz with hz | hz
          · exact hs z hz
          · rw [List.mem_singleton.1 hz]; exact hy
      exact srRun_ind hb hw hB hW m (i + 1) (hv _ _ (hv _ _ h ⟨by_, hB _ (by omega) hS⟩) ⟨wy_, hW _ (by omega) hS⟩)
    · exact fun z hz => (h z hz).2
theorem full_len {L : List Int} (hn : 0 ≤ n) (h : ∀ x : Nat, x < n.toNat → (x : Int) ∈ L) : n.toNat ≤ L.length := by
  have := List.Nodup.length_le_of_subset (l₁ := (List.range n.toNat).map fun x : Nat => (x : Int)) (l₂ := L) (List.pairwise_map.2 (List.Pairwise.imp (fun {a c} h e => h (by omega)) List.nodup_range)) fun z hz => by
    obtain ⟨x, hx, rfl⟩ := List.mem_map.1 hz
    exact h x (List.mem_range.1 hx)
  simpa using this
theorem full_mem {L : List Int} (nd : L.Nodup) (lt : ∀ y ∈ L, 0 ≤ y ∧ y < n) (hl : n.toNat ≤ L.length) {x : Nat} (hx : x < n.toNat) : (x : Int) ∈ L := by
  refine Classical.byContradiction fun hno => ?_
  have hnd : (x :: L.map Int.toNat).Nodup := by
    refine List.nodup_cons.2 ⟨fun hm => ?_, List.pairwise_map.2 (List.Pairwise.imp_of_mem ?_ nd)⟩
    · obtain ⟨z, hz, ez⟩ := List.mem_map.1 hm
      have := lt z hz
      rw [show z = (x : Int) from by omega] at hz
      exact hno hz
    · intro a c ha hc hne ee
      have := lt a ha
      have := lt c hc
      omega
  have := nodup_len n.toNat _ hnd fun z hz => by
    rcases List.mem_cons.1 hz with rfl | hz
    · omega
    · obtain ⟨u, hu, rfl⟩ := List.mem_map.1 hz
      have := lt u hu
      omega
  simp at this
  omega
theorem cnt_of (hn : 1 ≤ n ∧ n ≤ 16) (hb : ltP b n) (hw : ltP w n) (hall : ∀ S : Nat → Prop, S 0 → (∀ x, x < n.toNat → S x → S (fp b x)) → (∀ x, x < n.toNat → S x → S (fp w x)) → ∀ x, x < n.toNat → S x) : (cntR b w : Int) = n := by
  obtain ⟨c1, c2, c3⟩ := srRun_cl hn hb hw 17 0 rfl (Q.Sx.zero hn) (Nat.zero_le _) fun j hj => absurd hj (Nat.not_lt_zero j)
  have fin := hall (fun x => (x : Int) ∈ (srRun b w 17 0 sr0).1) (c2 0 (by simp [sr0])) (fun x hx h => by
    have := (c3 _ h).1
    have bx := hb x (by omega)
    rw [Int.toNat_natCast] at this
    unfold fp; rw [show (((gi b x).toNat : Nat) : Int) = gi b x by omega]; exact this) (fun x hx h => by
    have := (c3 _ h).2
    have wx := hw x (by omega)
    rw [Int.toNat_natCast] at this
    unfold fp; rw [show (((gi w x).toNat : Nat) : Int) = gi w x by omega]; exact this)
  have h1 := full_len (by omega) fin
  have h2 := Sx_len c1
  unfold cntR
  omega
theorem Dz.alls (h : Dz n b w) {S : Nat → Prop} (h0 : S 0) (hB : ∀ x, x < n.toNat → S x → S (fp b x)) (hW : ∀ x, x < n.toNat → S x → S (fp w x)) : ∀ x, x < n.toNat → S x := fun x hx => by
  have hn := h.B.hn
  obtain ⟨c1, c2, c3⟩ := srRun_cl hn h.B.lt h.W.lt 17 0 rfl (Q.Sx.zero hn) (Nat.zero_le _) fun j hj => absurd hj (Nat.not_lt_zero j)
  have hc := h.D.cn
  unfold cntR at hc
  have hm := full_mem c1.nd c1.lt (by omega) hx
  have := srRun_ind h.B.lt h.W.lt hB hW 17 0 (s := sr0) (fun z hz => by
    have : z = 0 := by simpa [sr0] using hz
    subst this; exact ⟨by omega, h0⟩) _ hm
  simpa using this
theorem cl_back {p : List Int} {N : Nat} (hp : Pf p N) {S : Nat → Prop} (hS : ∀ x, x < N → S x → S (fp p x)) {x : Nat} (hx : x < N) (h : S (fp p x)) : S x := by
  obtain ⟨K, h1, h2⟩ := it_ret hp hx
  obtain ⟨k, rfl⟩ : ∃ k, K = k + 1 := ⟨K - 1, by omega⟩
  rw [it_succ] at h2
  rw [← h2]
  have : ∀ k, S (it p k (fp p x)) := fun k => by
    induction k with
    | zero => exact h
    | succ k ih => exact hS _ (it_lt hp (hp.lt x hx) k) ih
  exact this k
theorem Dz.alls_from (h : Dz n b w) {S : Nat → Prop} {x0 : Nat} (hx0 : x0 < n.toNat) (h0 : S x0) (hB : ∀ x, x < n.toNat → S x → S (fp b x)) (hW : ∀ x, x < n.toNat → S x → S (fp w x)) : ∀ x, x < n.toNat → S x := by
  refine h.alls (Classical.byContradiction fun hno => ?_) hB hW
  exact h.alls (S := fun y => ¬ S y) hno (fun x hx hs q => hs (cl_back h.B.pf hB hx q)) (fun x hx hs q => hs (cl_back h.W.pf hW hx q)) x0 hx0 h0
theorem srX_Sx (hn : 1 ≤ n ∧ n ≤ 16) {x : Nat} (hx : x < n.toNat) : Q.Sx n (srX x) := by
  refine ⟨by simp [srX], by simp [srX], fun y hy => ?_, fun y hy => ?_⟩
  · simp only [srX, List.mem_singleton]
    rw [gb_set, gb_rep]
    simp
    omega
  · simp only [srX, List.mem_singleton] at hy; omega
structure Nm (n : Int) (L : List Int) : Prop where
  nd : L.Nodup
  lt : ∀ y ∈ L, 0 ≤ y ∧ y < n
  len : L.length = n.toNat
  all : ∀ x : Nat, x < n.toNat → (x : Int) ∈ L
theorem Dz.nm (h : Dz n b w) {x : Nat} (hx : x < n.toNat) : Nm n (nmdL b w x) := by
  have hn := h.B.hn
  obtain ⟨c1, c2, c3⟩ := srRun_cl hn h.B.lt h.W.lt 17 0 rfl (srX_Sx hn hx) (Nat.zero_le _) fun j hj => absurd hj (Nat.not_lt_zero j)
  have fin := h.alls_from (S := fun y => (y : Int) ∈ nmdL b w x) hx (c2 x (by simp [srX])) (fun y hy hm => by
    have := (c3 _ hm).1
    have bx := h.B.lt y (by omega)
    rw [Int.toNat_natCast] at this
    unfold fp; rw [show (((gi b y).toNat : Nat) : Int) = gi b y by omega]; exact this) (fun y hy hm => by
    have := (c3 _ hm).2
    have wx := h.W.lt y (by omega)
    rw [Int.toNat_natCast] at this
    unfold fp; rw [show (((gi w y).toNat : Nat) : Int) = gi w y by omega]; exact this)
  refine ⟨c1.nd, c1.lt, ?_, fin⟩
  have h1 := full_len (by omega) fin
  have h2 := Sx_len c1
  unfold nmdL at *
  omega
theorem nameT_at {L : List Int} (nd : L.Nodup) (lt : ∀ y ∈ L, 0 ≤ y ∧ y < 16) : ∀ s, s ≤ L.length → ∀ j, j < s → gi (nameT L s) (gi L j).toNat = j
  | 0, _, j, hj => absurd hj (Nat.not_lt_zero j)
  | s + 1, hs, j, hj => by
    simp only [nameT]
    have m1 : gi L j ∈ L := by rw [gi_of (show j < L.length by omega)]; exact List.getElem_mem _
    have m2 : gi L s ∈ L := by rw [gi_of (show s < L.length by omega)]; exact List.getElem_mem _
    have l1 := lt _ m1
    have l2 := lt _ m2
    rw [gi_set, nameT_len]
    by_cases e : j = s
    · subst e; rw [if_pos ⟨rfl, by omega⟩]
    · rw [if_neg, nameT_at nd lt s (by omega) j (by omega)]
      rintro ⟨q, _⟩
      have q : gi L s = gi L j := by omega
      rw [gi_of (show s < L.length by omega), gi_of (show j < L.length by omega)] at q
      exact e ((List.getElem_inj nd).1 q).symm
theorem nmx_at (hn : n ≤ 16) {L : List Int} (h : Nm n L) {j : Nat} (hj : j < n.toNat) : fp (nameT L L.length) (gi L j).toNat = j := by
  unfold fp
  rw [nameT_at h.nd (fun y hy => by have := h.lt y hy; omega) _ (Nat.le_refl _) j (by rw [h.len]; exact hj)]; simp
theorem nm_ex {L : List Int} (h : Nm n L) {y : Nat} (hy : y < n.toNat) : ∃ j, j < n.toNat ∧ (gi L j).toNat = y := by
  obtain ⟨j, hj, e⟩ := List.getElem_of_mem (h.all y hy)
  exact ⟨j, by rw [← h.len]; exact hj, by rw [gi_of hj, e]; simp⟩
theorem nm_pf (hn : 1 ≤ n ∧ n ≤ 16) {L : List Int} (h : Nm n L) : Pf (nameT L L.length) n.toNat := by
  refine ⟨fun y hy => ?_, fun y z hy hz e => ?_, by omega⟩
  · obtain ⟨j, hj, rfl⟩ := nm_ex h hy
    rw [nmx_at hn.2 h hj]; exact hj
  · obtain ⟨j, hj, rfl⟩ := nm_ex h hy
    obtain ⟨k, hk, rfl⟩ := nm_ex h hz
    rw [nmx_at hn.2 h hj, nmx_at hn.2 h hk] at e
    rw [e]
theorem rnT_at {p c : List Int} {N : Nat} (hp : Pf p N) : ∀ s, s ≤ N → ∀ i, i < s → gi (rnT p c s) (fp p i) = gi p (gi c i).toNat
  | 0, _, i, hi => absurd hi (Nat.not_lt_zero i)
  | s + 1, hs, i, hi => by
    have hN := hp.le
    have l1 := hp.lt s (by omega)
    simp only [rnT]
    rw [gi_set, rnT_len]
    by_cases e : i = s
    · subst e; rw [if_pos ⟨rfl, by unfold fp at *; omega⟩]
    · rw [if_neg, rnT_at hp s (by omega) i (by omega)]
      rintro ⟨q, _⟩
      exact e (hp.inj _ _ (by omega) (by omega) q.symm)
theorem rnT_out {p c : List Int} {y : Nat} : ∀ s, (∀ i, i < s → fp p i ≠ y) → gi (rnT p c s) y = 0
  | 0, _ => by simp only [rnT]; rw [gi_rep]; split <;> rfl
  | s + 1, h => by
    simp only [rnT]
    rw [gi_set, if_neg fun q => h s (by omega) q.1, rnT_out s fun i hi => h i (by omega)]
theorem rnT_fp {p c : List Int} (hp : Pf p n.toNat) {i : Nat} (hi : i < n.toNat) : fp (rnT p c n.toNat) (fp p i) = fp p (fp c i) := by
  conv => lhs; unfold fp
  have := rnT_at (c := c) hp _ (Nat.le_refl _) i hi
  unfold fp at this ⊢
  rw [this]
structure Iso (n : Int) (b w b' w' σ : List Int) : Prop where
  pf : Pf σ n.toNat
  eb : ∀ x, x < n.toNat → fp b' (fp σ x) = fp σ (fp b x)
  ew : ∀ x, x < n.toNat → fp w' (fp σ x) = fp σ (fp w x)
variable {b' w' σ : List Int}
theorem Iso.symm (hn : 1 ≤ n ∧ n ≤ 16) (i : Iso n b w b' w' σ) (hb : Pf b n.toNat) (hw : Pf w n.toNat) : Iso n b' w' b w (backP σ n) := by
  refine ⟨back_pf hn i.pf, fun x hx => ?_, fun x hx => ?_⟩
  · obtain ⟨y, hy, rfl⟩ := i.pf.onto hx
    rw [back_fp i.pf hy, i.eb y hy, back_fp i.pf (hb.lt y hy)]
  · obtain ⟨y, hy, rfl⟩ := i.pf.onto hx
    rw [back_fp i.pf hy, i.ew y hy, back_fp i.pf (hw.lt y hy)]
theorem Iso.trans (hn : 1 ≤ n ∧ n ≤ 16) {b'' w'' τ : List Int} (i : Iso n b w b' w' σ) (j : Iso n b' w' b'' w'' τ) (hb : Pf b n.toNat) (hw : Pf w n.toNat) : Iso n b w b'' w'' (thenP σ τ n) := by
  refine ⟨then_pf hn i.pf j.pf, fun x hx => ?_, fun x hx => ?_⟩
  · rw [then_fp hn hx, j.eb _ (i.pf.lt x hx), i.eb x hx, then_fp hn (hb.lt x hx)]
  · rw [then_fp hn hx, j.ew _ (i.pf.lt x hx), i.ew x hx, then_fp hn (hw.lt x hx)]
theorem Iso.face (h : Dz n b w) (h' : Dz n b' w') (i : Iso n b w b' w' σ) {x : Nat} (hx : x < n.toNat) : fp (faceP b' w' n) (fp σ x) = fp σ (fp (faceP b w n) x) := by
  have hf := h.F.pf.lt x hx
  have h1 := h'.face (i.pf.lt _ hf)
  rw [i.eb _ hf, i.ew _ (h.B.pf.lt _ hf), h.face' hx] at h1
  exact h1
theorem Iso.dz (h : Dz n b w) (i : Iso n b w b' w' σ) (hb : Pd b' n) (hw : Pd w' n) (pb : isPm b' n) (pw : isPm w' n) : isD n b' w' := by
  refine ⟨pb, pw, cnt_of hb.hn hb.lt hw.lt fun S h0 hB hW x hx => ?_⟩
  obtain ⟨y, hy, rfl⟩ := i.pf.onto hx
  obtain ⟨z, hz, ez⟩ := i.pf.onto (show 0 < n.toNat by have := hb.hn; omega)
  exact h.alls_from (S := fun y => S (fp σ y)) hz (by rw [ez]; exact h0) (fun y hy hs => by rw [← i.eb y hy]; exact hB _ (i.pf.lt y hy) hs) (fun y hy hs => by rw [← i.ew y hy]; exact hW _ (i.pf.lt y hy) hs) y hy
structure SrSim (n : Int) (σ : List Int) (s s' : Sr) : Prop where
  sa : Q.Sx n s
  sb : Q.Sx n s'
  e : s'.1 = s.1.map fun y => (fp σ y.toNat : Int)
theorem SrSim.gb {s s' : Sr} (h : SrSim n σ s s') (hn : n ≤ 16) (hσ : Pf σ n.toNat) {y : Nat} (hy : y < n.toNat) : gb s'.2 (fp σ y) = gb s.2 y := by
  have h1 := h.sa.has y (by omega)
  have h2 := h.sb.has (fp σ y) (by have := hσ.lt y hy; omega)
  rw [h.e] at h2
  have h3 : ((fp σ y : Nat) : Int) ∈ s.1.map (fun y => (fp σ y.toNat : Int)) ↔ (y : Int) ∈ s.1 := by
    constructor
    · intro hm
      obtain ⟨z, hz, e⟩ := List.mem_map.1 hm
      have := h.sa.lt z hz
      have := hσ.inj z.toNat y (by omega) hy (by omega)
      rw [show (y : Int) = z by omega]; exact hz
    · intro hm
      exact List.mem_map.2 ⟨_, hm, by simp⟩
  rw [h3] at h2
  cases h4 : Sep.gb s.2 y <;> cases h5 : Sep.gb s'.2 (fp σ y) <;> simp_all
theorem SrSim.visit {s s' : Sr} (h : SrSim n σ s s') (hn : 1 ≤ n ∧ n ≤ 16) (hσ : Pf σ n.toNat) {y : Nat} (hy : y < n.toNat) : SrSim n σ (visit y s) (visit (fp σ y : Nat) s') := by
  have hl := hσ.lt y hy
  refine ⟨Q.Sx.visit hn h.sa (by omega), Q.Sx.visit hn h.sb (by omega), ?_⟩
  have := h.gb hn.2 hσ hy
  unfold Sep.visit
  simp only [Int.toNat_natCast]
  rw [this]
  split
  · exact h.e
  · simp only [List.map_append, List.map_cons, List.map_nil, Int.toNat_natCast]; rw [h.e]
theorem SrSim.run (hn : 1 ≤ n ∧ n ≤ 16) (hb : Pd b n) (hw : Pd w n) (lb : lo16 b') (lw : lo16 w') (i : Iso n b w b' w' σ) : ∀ (m k : Nat) {s s' : Sr}, SrSim n σ s s' → SrSim n σ (srRun b w m k s) (srRun b' w' m k s')
  | 0, k, s, s', h => h
  | m + 1, k, s, s', h => by
    have hl : s'.1.length = s.1.length := by rw [h.e]; simp
    simp only [srRun, hl]
    split
    · rename_i hlt
      refine SrSim.run hn hb hw lb lw i m (k + 1) ?_
      have hm : gi s.1 k ∈ s.1 := by rw [gi_of hlt]; exact List.getElem_mem hlt
      have hz := h.sa.lt _ hm
      obtain ⟨z, hz1, ez⟩ : ∃ z : Nat, z < n.toNat ∧ gi s.1 k = z := ⟨(gi s.1 k).toNat, by omega, by omega⟩
      have e1 : gi s'.1 k = (fp σ z : Nat) := by
        rw [h.e, gi_of (by simpa using hlt), List.getElem_map, ← gi_of hlt, ez, Int.toNat_natCast]
      unfold srStep
      rw [e1, ez]
      simp only [Int.toNat_natCast]
      have q1 : gi b z = (fp b z : Nat) := fp_nn hb.lo z
      have q2 : gi w z = (fp w z : Nat) := fp_nn hw.lo z
      have q3 : gi b' (fp σ z) = (fp σ (fp b z) : Nat) := by rw [← i.eb z hz1]; exact fp_nn lb _
      have q4 : gi w' (fp σ z) = (fp σ (fp w z) : Nat) := by rw [← i.ew z hz1]; exact fp_nn lw _
      rw [q1, q2, q3, q4]
      exact (h.visit hn i.pf (hb.pf.lt z hz1)).visit hn i.pf (hw.pf.lt z hz1)
    · exact h
def frB (b w : List Int) (n : Int) (x : Int) : List Int := rnT (nmgP b w x) b n.toNat
def frW (b w : List Int) (n : Int) (x : Int) : List Int := rnT (nmgP b w x) w n.toNat
theorem nmg_pf (h : Dz n b w) {x : Nat} (hx : x < n.toNat) : Pf (nmgP b w x) n.toNat := nm_pf h.B.hn (h.nm hx)
theorem frm_iso (h : Dz n b w) {x : Nat} (hx : x < n.toNat) : Iso n b w (frB b w n x) (frW b w n x) (nmgP b w x) :=
  ⟨nmg_pf h hx, fun y hy => rnT_fp (nmg_pf h hx) hy, fun y hy => rnT_fp (nmg_pf h hx) hy⟩
theorem rn_lt {p c : List Int} (hn : 1 ≤ n ∧ n ≤ 16) (hp : Pf p n.toNat) (hc : Pf c n.toNat) (lp : lo16 p) (lc : lo16 c) : lo16 (rnT p c n.toNat) ∧ ltP (rnT p c n.toNat) n ∧ Pf (rnT p c n.toNat) n.toNat ∧ isPm (rnT p c n.toNat) n := by
  have l := rnT_lo lp lc n.toNat (by omega)
  have hlt : ∀ y, y < n.toNat → fp (rnT p c n.toNat) y < n.toNat := fun y hy => by
    obtain ⟨i, hi, rfl⟩ := hp.onto hy
    rw [rnT_fp hp hi]; exact hp.lt _ (hc.lt i hi)
  have pf : Pf (rnT p c n.toNat) n.toNat := by
    refine ⟨hlt, fun y z hy hz e => ?_, by omega⟩
    obtain ⟨i, hi, rfl⟩ := hp.onto hy
    obtain ⟨j, hj, rfl⟩ := hp.onto hz
    rw [rnT_fp hp hi, rnT_fp hp hj] at e
    rw [hc.inj i j hi hj (hp.inj _ _ (hc.lt i hi) (hc.lt j hj) e)]
  refine ⟨l, fun y hy => ?_, pf, hn, fun j hj => ⟨fun hjn => ⟨?_, fun k hk e => ?_⟩, fun hjn => ?_⟩⟩
  · have := hlt y (by omega)
    rw [fp_nn l y]; omega
  · have := hlt j (by omega)
    rw [fp_nn l j]; omega
  · rw [fp_nn l k, fp_nn l j] at e
    have := pf.inj k j (by omega) (by omega) (by omega)
    omega
  · exact rnT_out _ fun i hi e => by have := hp.lt i hi; omega
theorem nmg_lo (h : Dz n b w) {x : Nat} (hx : x < n.toNat) : lo16 (nmgP b w x) := nmgP_lo h.B.lo h.W.lo (by have := h.B.hn; omega)
theorem lo16.ok {p : List Int} (h : lo16 p) : okP p := ⟨h.1, fun i hi => by have := h.2 i hi; omega⟩
theorem frm_dz (h : Dz n b w) {x : Nat} (hx : x < n.toNat) : Dz n (frB b w n x) (frW b w n x) := by
  obtain ⟨a1, a2, a3, a4⟩ := rn_lt h.B.hn (nmg_pf h hx) h.B.pf (nmg_lo h hx) h.B.lo
  obtain ⟨c1, c2, c3, c4⟩ := rn_lt h.B.hn (nmg_pf h hx) h.W.pf (nmg_lo h hx) h.W.lo
  exact ((frm_iso h hx).dz h ⟨a1, a2, h.B.hn, a3⟩ ⟨c1, c2, h.B.hn, c3⟩ a4 c4).dz a1.ok c1.ok
theorem nm_sim (h : Dz n b w) (h' : Dz n b' w') (i : Iso n b w b' w' σ) {x : Nat} (hx : x < n.toNat) : nmdL b' w' (fp σ x : Nat) = (nmdL b w x).map fun y => (fp σ y.toNat : Int) := by
  have hl := i.pf.lt x hx
  exact (SrSim.run h.B.hn h.B h.W h'.B.lo h'.W.lo i 17 0 (s := srX x) (s' := srX (fp σ x : Nat)) ⟨srX_Sx h.B.hn hx, srX_Sx h.B.hn hl, by simp [srX]⟩).e
theorem nmg_sim (h : Dz n b w) (h' : Dz n b' w') (i : Iso n b w b' w' σ) {x y : Nat} (hx : x < n.toNat) (hy : y < n.toNat) : fp (nmgP b' w' (fp σ x : Nat)) (fp σ y) = fp (nmgP b w x) y := by
  have hn := h.B.hn
  have m := h.nm hx
  have m' := h'.nm (i.pf.lt x hx)
  obtain ⟨j, hj, rfl⟩ := nm_ex m hy
  have e1 := nmx_at hn.2 m hj
  have e2 := nmx_at hn.2 m' hj
  have e3 : (gi (nmdL b' w' (fp σ x : Nat)) j).toNat = fp σ (gi (nmdL b w x) j).toNat := by
    rw [nm_sim h h' i hx, gi_of (by rw [List.length_map, m.len]; exact hj), List.getElem_map, ← gi_of (by rw [m.len]; exact hj), Int.toNat_natCast]
  rw [e3] at e2
  unfold nmgP
  rw [e1, e2]
theorem rn_eq {p c p' c' : List Int} (hn : 1 ≤ n ∧ n ≤ 16) (hp : Pf p n.toNat) (hp' : Pf p' n.toNat) (hσ : Pf σ n.toNat) (lp : lo16 p) (lc : lo16 c) (lp' : lo16 p') (lc' : lo16 c')
    (h : ∀ y, y < n.toNat → fp p' (fp σ y) = fp p y) (hc : ∀ y, y < n.toNat → fp c y < n.toNat ∧ fp c' (fp σ y) = fp σ (fp c y)) : rnT p' c' n.toNat = rnT p c n.toNat := by
  refine gi_ext16 (rnT_len _) (rnT_len _) fun z hz => ?_
  by_cases hzn : z < n.toNat
  · obtain ⟨y, hy, rfl⟩ := hp.onto hzn
    have e1 := rnT_fp (c := c) hp hy
    have e2 := rnT_fp (c := c') hp' (hσ.lt y hy)
    rw [h y hy, (hc y hy).2, h _ (hc y hy).1] at e2
    rw [fp_nn (rnT_lo lp' lc' n.toNat (by omega)), fp_nn (rnT_lo lp lc n.toNat (by omega)), e1, e2]
  · rw [rnT_out (p := p') _ fun i hi e => by have := hp'.lt i hi; omega, rnT_out (p := p) _ fun i hi e => by have := hp.lt i hi; omega]
theorem frm_sim (h : Dz n b w) (h' : Dz n b' w') (i : Iso n b w b' w' σ) {x : Nat} (hx : x < n.toNat) : frB b' w' n (fp σ x : Nat) = frB b w n x ∧ frW b' w' n (fp σ x : Nat) = frW b w n x := by
  have hn := h.B.hn
  have hl := i.pf.lt x hx
  exact ⟨rn_eq hn (nmg_pf h hx) (nmg_pf h' hl) i.pf (nmg_lo h hx) h.B.lo (nmg_lo h' hl) h'.B.lo (fun y hy => nmg_sim h h' i hx hy) fun y hy => ⟨h.B.pf.lt y hy, i.eb y hy⟩,
    rn_eq hn (nmg_pf h hx) (nmg_pf h' hl) i.pf (nmg_lo h hx) h.W.lo (nmg_lo h' hl) h'.W.lo (fun y hy => nmg_sim h h' i hx hy) fun y hy => ⟨h.W.pf.lt y hy, i.ew y hy⟩⟩
def Alk (n : Int) (b w b' w' : List Int) : Prop := ∃ σ, Iso n b w b' w' σ
theorem Alk.symm (h : Dz n b w) : Alk n b w b' w' → Alk n b' w' b w := fun ⟨σ, i⟩ => ⟨_, i.symm h.B.hn h.B.pf h.W.pf⟩
theorem Alk.trans {b'' w'' : List Int} (h : Dz n b w) : Alk n b w b' w' → Alk n b' w' b'' w'' → Alk n b w b'' w'' := fun ⟨σ, i⟩ ⟨τ, j⟩ => ⟨_, i.trans h.B.hn j h.B.pf h.W.pf⟩
theorem alk_of (h : Dz n b w) (h' : Dz n b' w') {x y : Nat} (hx : x < n.toNat) (hy : y < n.toNat) (e1 : frB b' w' n y = frB b w n x) (e2 : frW b' w' n y = frW b w n x) : Alk n b w b' w' := by
  have i := frm_iso h hx
  have j := frm_iso h' hy
  rw [e1, e2] at j
  exact Alk.trans h ⟨_, i⟩ (Alk.symm h' ⟨_, j⟩)
theorem alk_frm (h : Dz n b w) (h' : Dz n b' w') (i : Alk n b w b' w') {x : Nat} (hx : x < n.toNat) : ∃ y, y < n.toNat ∧ frB b' w' n y = frB b w n x ∧ frW b' w' n y = frW b w n x := by
  obtain ⟨σ, i⟩ := i
  have := frm_sim h h' i hx
  exact ⟨_, i.pf.lt x hx, this.1, this.2⟩
theorem alk_typ (h : Dz n b w) (h' : Dz n b' w') (i : Alk n b w b' w') : typ b' n = typ b n ∧ typ w' n = typ w n ∧ typ (faceP b' w' n) n = typ (faceP b w n) n := by
  obtain ⟨σ, i⟩ := i
  exact ⟨(dsc_congr (lens_conj h.B h'.B i.pf i.eb)).symm, (dsc_congr (lens_conj h.W h'.W i.pf i.ew)).symm, (dsc_congr (lens_conj h.F h'.F i.pf fun x hx => i.face h h' hx)).symm⟩
def ltL : List Int → List Int → Bool
  | a :: l, c :: m => decide (a < c) || (decide (a = c) && ltL l m)
  | _, _ => false
theorem ltL_tri : ∀ {l m : List Int}, l.length = m.length → ltL l m = false → ltL m l = false → l = m
  | [], [], _, _, _ => rfl
  | a :: l, c :: m, hl, h1, h2 => by
    simp only [ltL, Bool.or_eq_false_iff, decide_eq_false_iff_not, Bool.and_eq_false_iff] at h1 h2
    have e : a = c := by omega
    subst e
    have := ltL_tri (l := l) (m := m) (by simpa using hl) (by rcases h1.2 with q | q; exact absurd rfl q; exact q) (by rcases h2.2 with q | q; exact absurd rfl q; exact q)
    rw [this]
  | [], _ :: _, hl, _, _ => by simp at hl
  | _ :: _, [], hl, _, _ => by simp at hl
theorem ltL_irr : ∀ {l : List Int}, ltL l l = false
  | [] => rfl
  | a :: l => by simp [ltL, ltL_irr (l := l)]
theorem ltL_trans : ∀ {l m k : List Int}, ltL l m = true → ltL m k = true → ltL l k = true
  | [], _, _, h, _ => by simp [ltL] at h
  | _ :: _, [], _, h, _ => by simp [ltL] at h
  | _ :: _, _ :: _, [], _, h => by simp [ltL] at h
  | a :: l, c :: m, d :: k, h1, h2 => by
    simp only [ltL, Bool.or_eq_true, decide_eq_true_eq, Bool.and_eq_true] at h1 h2 ⊢
    rcases h1 with h1 | ⟨h1, h1'⟩ <;> rcases h2 with h2 | ⟨h2, h2'⟩
    · exact .inl (by omega)
    · exact .inl (by omega)
    · exact .inl (by omega)
    · exact .inr ⟨by omega, ltL_trans h1' h2'⟩
abbrev Fm := List Int × List Int
def ltD (f g : Fm) : Bool := ltL f.1 g.1 || (decide (f.1 = g.1) && ltL f.2 g.2)
theorem ltD_tri {f g : Fm} (h1 : f.1.length = g.1.length) (h2 : f.2.length = g.2.length) (a : ltD f g = false) (c : ltD g f = false) : f = g := by
  simp only [ltD, Bool.or_eq_false_iff, Bool.and_eq_false_iff, decide_eq_false_iff_not] at a c
  have e := ltL_tri h1 a.1 c.1
  have e2 := ltL_tri h2 (by rcases a.2 with q | q; exact absurd e q; exact q) (by rcases c.2 with q | q; exact absurd e.symm q; exact q)
  exact Prod.ext e e2
theorem ltD_irr {f : Fm} : ltD f f = false := by simp [ltD, ltL_irr]
theorem ltD_trans {f g k : Fm} (a : ltD f g = true) (c : ltD g k = true) : ltD f k = true := by
  simp only [ltD, Bool.or_eq_true, Bool.and_eq_true, decide_eq_true_eq] at a c ⊢
  rcases a with a | ⟨a, a'⟩ <;> rcases c with c | ⟨c, c'⟩
  · exact .inl (ltL_trans a c)
  · rw [← c]; exact .inl a
  · rw [a]; exact .inl c
  · exact .inr ⟨a.trans c, ltL_trans a' c'⟩
def frm (b w : List Int) (n : Int) (x : Int) : Fm := (frB b w n x, frW b w n x)
def cnF (b w : List Int) (n : Int) : Nat → Fm
  | 0 => frm b w n 0
  | s + 1 => if ltD (frm b w n ((s + 1 : Nat) : Int)) (cnF b w n s) = true then frm b w n ((s + 1 : Nat) : Int) else cnF b w n s
theorem frm_len {x : Int} : (frm b w n x).1.length = 16 ∧ (frm b w n x).2.length = 16 := ⟨rnT_len _, rnT_len _⟩
theorem cnF_ex : ∀ s, ∃ x : Nat, x ≤ s ∧ cnF b w n s = frm b w n x
  | 0 => ⟨0, Nat.le_refl _, rfl⟩
  | s + 1 => by
    simp only [cnF]
    split
    · exact ⟨s + 1, Nat.le_refl _, rfl⟩
    · obtain ⟨x, hx, e⟩ := cnF_ex s
      exact ⟨x, by omega, e⟩
theorem cnF_min : ∀ s, ∀ x : Nat, x ≤ s → ltD (frm b w n x) (cnF b w n s) = false
  | 0, x, hx => by
    obtain rfl : x = 0 := by omega
    exact ltD_irr
  | s + 1, x, hx => by
    simp only [cnF]
    split
    · rename_i hlt
      by_cases e : x = s + 1
      · subst e; exact ltD_irr
      · cases hc : ltD (frm b w n x) (frm b w n ((s + 1 : Nat) : Int)) with
        | false => rfl
        | true => exact absurd (ltD_trans hc hlt) (by rw [cnF_min s x (by omega)]; simp)
    · rename_i hlt
      by_cases e : x = s + 1
      · subst e; simpa using hlt
      · exact cnF_min s x (by omega)
def canD (b w : List Int) (n : Int) : Fm := cnF b w n (n.toNat - 1)
theorem canD_ex (h : Dz n b w) : ∃ x : Nat, x < n.toNat ∧ canD b w n = frm b w n x := by
  obtain ⟨x, hx, e⟩ := cnF_ex (b := b) (w := w) (n := n) (n.toNat - 1)
  have := h.B.hn
  exact ⟨x, by omega, e⟩
theorem can_alk (h : Dz n b w) (h' : Dz n b' w') : canD b w n = canD b' w' n ↔ Alk n b w b' w' := by
  obtain ⟨x, hx, e⟩ := canD_ex h
  obtain ⟨y, hy, e'⟩ := canD_ex h'
  constructor
  · intro q
    rw [e, e'] at q
    simp only [frm, Prod.mk.injEq] at q
    exact alk_of h h' hx hy q.1.symm q.2.symm
  · intro i
    obtain ⟨x', hx', f1, f2⟩ := alk_frm h h' i hx
    obtain ⟨y', hy', g1, g2⟩ := alk_frm h' h (i.symm h) hy
    refine ltD_tri ?_ ?_ ?_ ?_
    · rw [e, e', frm_len.1, frm_len.1]
    · rw [e, e', frm_len.2, frm_len.2]
    · rw [e, show frm b w n x = frm b' w' n x' from Prod.ext f1.symm f2.symm]
      exact cnF_min _ x' (by omega)
    · rw [e', show frm b' w' n y = frm b w n y' from Prod.ext g1.symm g2.symm]
      exact cnF_min _ y' (by omega)
theorem frm0_alk (h : Dz n b w) (h' : Dz n b' w') : (∃ x : Nat, x < n.toNat ∧ frm b' w' n x = frm b w n 0) ↔ Alk n b w b' w' := by
  have h0 : 0 < n.toNat := by have := h.B.hn; omega
  constructor
  · rintro ⟨x, hx, e⟩
    simp only [frm, Prod.mk.injEq] at e
    exact alk_of h h' h0 hx e.1 e.2
  · intro i
    obtain ⟨x, hx, e1, e2⟩ := alk_frm h h' i h0
    exact ⟨x, hx, Prod.ext e1 e2⟩
end
end
section
set_option maxHeartbeats 4000000
theorem c_spec_l07From {n : Int} {p q : List Int} {x : Int} (hp : lo16 p) (hq : lo16 q) (hn : 1 ≤ n ∧ n ≤ 16) (hx : 0 ≤ x ∧ x < 16) : PSpec Try.prog 62 [vD n p q, .int .i64 x] fun v => v = vD n (frB p q n x) (frW p q n x) := by
  have hl := hp.1
  have hk := hq.1
  refine spec_l07From_f.f ?_
  unfold vD
  dsimp only [spec_l07From_F, pcal_B, pcalp_B, pcala_B, pcond_B, pgk_B, JN_B, LP_B]
  (refine bni ?_; repeat (refine bnk ?_; (try simp (disch := first | omega | (simp only [LN]; omega)) only [↓EC, EW, seval, ↓reduceIte, ↓EBD, EBE, hl, hk])))
  refine LPx_of (σ := Sr × Nat) 100000 [(66, 27, 1), (68, 27, 1), (69, 25, 1), (70, 83, 1)] (fun s => [.own 2 1 s.1.1.length (vi .i64 s.1.1), .int .i64 s.2])
    (fun s => [.int .i64 n :: vi .u8 (p ++ q), .int .i64 0 :: vi .u8 (List.replicate 32 0), vi .u8 (nameT s.1.1 s.2), vb s.1.2])
    (fun s => SrOk s.1 ∧ s.2 ≤ s.1.1.length ∧ srRun p q (17 - s.2) s.2 s.1 = srRun p q 17 0 (srX x)) (fun s => 17 - s.2) (srX x, 0) (by simp [frameOk, names, lpz, sclp, scv, scvs, nrfs, nrf, FRB]) ⟨srX_ok hx, Nat.zero_le _, rfl⟩ ?_ ?_
  · (refine bni ?_; repeat (refine bnk ?_; simp (disch := first | omega | (simp only [LN]; omega)) only [↓EC, EW, seval, ↓reduceIte, ↓EBD, EBE, ColV_def]))
    exact ⟨rfl, rfl⟩
  · rintro ⟨⟨l, m⟩, i⟩ ⟨h1, h2, h3⟩
    simp only at h1 h2 h3
    have hm := h1.len
    have hle := h1.le
    simp only at hm hle
    have hnl := nameT_len (l := l) i
    (refine bni ?_; repeat (refine bnk ?_; simp (disch := first | omega | (simp only [LN]; omega)) only [↓EC, EW, seval, ↓reduceIte, ↓EBD, EBE, ColV_def, lheap_def]))
    (refine Split.mkB (fun h => ?_) (fun h => ?_) <;> (try simp only [SD] at h))
    · have hi : i < l.length := by omega
      have hlo := h1.lo i hi
      simp only at hlo
      have hy1 := hp.2 (gi l i).toNat (by omega)
      have hy2 := hq.2 (gi l i).toNat (by omega)
      (refine bni ?_; repeat (refine bnk ?_; (try simp (disch := first | omega | (simp only [LN]; omega)) only [↓EC, EW, seval, ↓reduceIte, ↓EBD, EBE, hl, hk])))
      refine LPx_of (σ := Sr × Nat) 200000 [(66, 27, 1), (68, 27, 1), (69, 25, 1), (70, 83, 1), (112, 2, 1)] (fun s => [.own 2 1 s.1.1.length (vi .i64 s.1.1), .int .i64 s.2])
        (fun s => [.int .i64 n :: vi .u8 (p ++ q), .int .i64 0 :: vi .u8 (List.replicate 32 0), vi .u8 (nameT l (i + 1)), vb s.1.2, vi .i64 [gi p (gi l i).toNat, gi q (gi l i).toNat]])
        (fun s => s.2 ≤ 2 ∧ s.1 = if s.2 = 0 then (l, m) else if s.2 = 1 then visit (gi p (gi l i).toNat) (l, m) else srStep p q i (l, m)) (fun s => 2 - s.2) ((l, m), 0) (by simp [frameOk, names, lpz, sclp, scv, scvs, nrfs, nrf, FRB]) ⟨Nat.zero_le 2, rfl⟩ ?_ ?_
      · (refine bni ?_; repeat (refine bnk ?_; simp (disch := first | omega | (simp only [LN]; omega)) only [↓EC, EW, seval, ↓reduceIte, ↓EBD, EBE, ColV_def]))
        rfl
      · rintro ⟨s, j⟩ ⟨g1, g2⟩
        simp only at g1 g2
        obtain ⟨hs, hpre, hil⟩ := sr_mid (s0 := (l, m)) hp hq h1 hi g2
        simp only at hil
        have hsm := hs.len
        have hsl := hs.le
        have hnl2 := nameT_len (l := l) (i + 1)
        (refine bni ?_; repeat (refine bnk ?_; simp (disch := first | omega | (simp only [LN]; omega)) only [↓EC, EW, seval, ↓reduceIte, ↓EBD, EBE, ColV_def, lheap_def]))
        (refine Split.mkB (fun h => ?_) (fun h => ?_) <;> (try simp only [SD] at h))
        · have hj : j = 0 ∨ j = 1 := by omega
          rcases hj with rfl | rfl
          · (refine bni ?_; repeat (refine bnk ?_; (try simp (disch := first | omega | (simp only [LN]; omega)) only [↓EC, EW, seval, ↓reduceIte, ↓EBD, EBE, hl, hk])))
            rw [if_pos rfl] at g2
            refine JNx_un ?_
            (refine bni ?_; repeat (refine bnk ?_; (try simp (disch := first | omega | (simp only [LN]; omega)) only [↓EC, EW, seval, ↓reduceIte, ↓EBD, EBE, hl, hk])))
            (refine Split.mkB (fun h => ?_) (fun h => ?_) <;> (try simp only [SD] at h))
            · (refine bni ?_; repeat (refine bnk ?_; (try simp (disch := first | omega | (simp only [LN]; omega)) only [↓EC, EW, seval, ↓reduceIte, ↓EBD, EBE, hl, hk])))
              exact ⟨(visit (gi p (gi l i).toNat) s, 1), by rw [visit_no h]; simp, by rw [visit_no h], ⟨by simp, by rw [g2]; rfl⟩, by simp⟩
            · (refine bni ?_; repeat (refine bnk ?_; (try simp (disch := first | omega | (simp only [LN]; omega)) only [↓EC, EW, seval, ↓reduceIte, ↓EBD, EBE, hl, hk])))
              exact ⟨(visit (gi p (gi l i).toNat) s, 1), by rw [visit_yes h]; simp, by rw [visit_yes h], ⟨by simp, by rw [g2]; rfl⟩, by simp⟩
          · (refine bni ?_; repeat (refine bnk ?_; (try simp (disch := first | omega | (simp only [LN]; omega)) only [↓EC, EW, seval, ↓reduceIte, ↓EBD, EBE, hl, hk])))
            rw [if_neg (by decide), if_pos rfl] at g2
            refine JNx_un ?_
            (refine bni ?_; repeat (refine bnk ?_; (try simp (disch := first | omega | (simp only [LN]; omega)) only [↓EC, EW, seval, ↓reduceIte, ↓EBD, EBE, hl, hk])))
            (refine Split.mkB (fun h => ?_) (fun h => ?_) <;> (try simp only [SD] at h))
            · (refine bni ?_; repeat (refine bnk ?_; (try simp (disch := first | omega | (simp only [LN]; omega)) only [↓EC, EW, seval, ↓reduceIte, ↓EBD, EBE, hl, hk])))
              exact ⟨(visit (gi q (gi l i).toNat) s, 2), by rw [visit_no h]; simp, by rw [visit_no h], ⟨by simp, by rw [g2]; rfl⟩, by simp⟩
            · (refine bni ?_; repeat (refine bnk ?_; (try simp (disch := first | omega | (simp only [LN]; omega)) only [↓EC, EW, seval, ↓reduceIte, ↓EBD, EBE, hl, hk])))
              exact ⟨(visit (gi q (gi l i).toNat) s, 2), by rw [visit_yes h]; simp, by rw [visit_yes h], ⟨by simp, by rw [g2]; rfl⟩, by simp⟩
        · (refine bni ?_; repeat (refine bnk ?_; (try simp (disch := first | omega | (simp only [LN]; omega)) only [↓EC, EW, seval, ↓reduceIte, ↓EBD, EBE])))
          rw [if_neg (by omega), if_neg (by omega)] at g2
          have hnc := nameT_congr (l := s.1) (m := l) (i + 1) fun k hk => hpre k (by simp only; omega)
          refine ⟨(s, i + 1), rfl, by simp only [hnc], ⟨hs, by simp only; omega, ?_⟩, by simp only; omega⟩
          rw [show 17 - i = 16 - i + 1 from by omega] at h3
          simp only [srRun, if_pos hi] at h3
          try simp only
          rw [g2, show 17 - (i + 1) = 16 - i from by omega]
          exact h3
    · have hL : nmdL p q x = l := by
        unfold nmdL
        rw [← h3, show 17 - i = 16 - i + 1 from by omega]
        simp only [srRun]
        rw [if_neg (by omega)]
      have hil : i = l.length := by omega
      subst hil
      have hν : nmgP p q x = nameT l l.length := by unfold nmgP; rw [hL]
      have lν := nmgP_lo hp hq hx
      unfold frB frW
      rw [hν] at lν ⊢
      generalize nameT l l.length = ν at *
      have hνl := lν.1
      (refine bni ?_; repeat (refine bnk ?_; (try simp (disch := first | omega | (simp only [LN]; omega)) only [↓EC, EW, seval, ↓reduceIte, ↓EBD, EBE, hl, hk])))
      refine LPx_of (σ := Nat) 200000 [(66, 27, 1), (68, 27, 1), (69, 25, 1), (75, 27, 1)] (fun s => [.int .i64 s])
        (fun s => [.int .i64 n :: vi .u8 (p ++ q), .int .i64 0 :: vi .u8 (List.replicate 32 0), vi .u8 ν, .int .i64 n :: vi .u8 (rnT ν p s ++ rnT ν q s)])
        (fun s => (s : Int) ≤ n) (fun s => (n - s).toNat) 0 (by simp [frameOk, names, lpz, sclp, scv, scvs, nrfs, nrf, FRB]) (by simp only [Int.natCast_zero]; omega) ?_ ?_
      · (refine bni ?_; repeat (refine bnk ?_; simp (disch := first | omega | (simp only [LN]; omega)) only [↓EC, EW, seval, ↓reduceIte, ↓EBD, EBE, ColV_def]))
        rfl
      · rintro s h5
        have q1 := rnT_len (p := ν) (b := p) s
        have q2 := rnT_len (p := ν) (b := q) s
        (refine bni ?_; repeat (refine bnk ?_; simp (disch := first | omega | (simp only [LN]; omega)) only [↓EC, EW, seval, ↓reduceIte, ↓EBD, EBE, ColV_def, lheap_def]))
        (refine Split.mkB (fun h => ?_) (fun h => ?_) <;> (try simp only [SD] at h))
        · have a1 := lν.2 s (by omega)
          have a2 := hp.2 s (by omega)
          have a3 := hq.2 s (by omega)
          have a4 := lν.2 (gi p s).toNat (by omega)
          have a5 := lν.2 (gi q s).toNat (by omega)
          (refine bni ?_; repeat (refine bnk ?_; (try simp (disch := first | omega | (simp only [LN]; omega)) only [↓EC, EW, seval, ↓reduceIte, ↓EBD, EBE, hl, hk, q1, q2])))
          exact ⟨s + 1, rfl, rfl, by omega, by omega⟩
        · have : s = n.toNat := by omega
          subst this
          (refine bni ?_; repeat (refine bnk ?_; (try simp (disch := first | omega | (simp only [LN]; omega)) only [↓EC, EW, seval, ↓reduceIte, ↓EBD, EBE, hl, hk, q1, q2])))
end
section
set_option maxHeartbeats 1000000
section
variable {b w p q : List Int} {n : Int} {N : Nat}
theorem putL_no {f : Nat → Nat × Int} {y : Nat} : ∀ k : Nat, (∀ i, i < k → (f i).1 ≠ y) → gi (putL f k) y = 0
  | 0, _ => by simp only [putL]; rw [gi_rep]; split <;> rfl
  | k + 1, h => by simp only [putL]; rw [gi_set, if_neg fun q => h k (by omega) q.1, putL_no k fun i hi => h i (by omega)]
theorem isPm_of (hn : 1 ≤ n ∧ n ≤ 16) (lo : lo16 p) (pf : Pf p n.toNat) (out : ∀ j : Nat, n ≤ j → gi p j = 0) : isPm p n := by
  refine ⟨hn, fun j hj => ⟨fun hjn => ⟨?_, fun k hk e => ?_⟩, fun hjn => out j hjn⟩⟩
  · have := pf.lt j (by omega)
    rw [fp_nn lo j]; omega
  · rw [fp_nn lo k, fp_nn lo j] at e
    have := pf.inj k j (by omega) (by omega) (by omega)
    omega
theorem pd_of (hn : 1 ≤ n ∧ n ≤ 16) (lo : lo16 p) (pf : Pf p n.toNat) : Pd p n := ⟨lo, fun x hx => by
  have := pf.lt x (by omega)
  rw [fp_nn lo x]; omega, hn, pf⟩
theorem back_out (h : Pf p n.toNat) {j : Nat} (hj : n ≤ j) : gi (backP p n) j = 0 := putL_no _ fun i hi => by
  have := h.lt i hi
  simp only [backF]; unfold fp at this; omega
theorem back_pm (hn : 1 ≤ n ∧ n ≤ 16) (h : Pf p n.toNat) : isPm (backP p n) n := isPm_of hn (backP_lo hn) (back_pf hn h) fun j hj => back_out h hj
theorem back_pd (hn : 1 ≤ n ∧ n ≤ 16) (h : Pf p n.toNat) : Pd (backP p n) n := pd_of hn (backP_lo hn) (back_pf hn h)
theorem pm_out (h : isPm p n) (hl : p.length = 16) {j : Nat} (hj : n ≤ j) : gi p j = 0 := by
  by_cases hj16 : j < 16
  · exact (h.2 j hj16).2 hj
  · exact gi_over (by omega)
theorem pm_ext (lp : lo16 p) (lq : lo16 q) (op : ∀ j : Nat, n ≤ j → gi p j = 0) (oq : ∀ j : Nat, n ≤ j → gi q j = 0) (h : ∀ x, x < n.toNat → fp p x = fp q x) : p = q := gi_ext16 lp.1 lq.1 fun i hi => by
  by_cases hin : i < n.toNat
  · rw [fp_nn lp, fp_nn lq, h i hin]
  · rw [op i (by omega), oq i (by omega)]
theorem lens_nC (h : (lens p n).Perm (lens q n)) : (cyc p n).length = (cyc q n).length := by
  have := h.length_eq
  rwa [lens_len, lens_len] at this
theorem it_eqf (hp : Pf p N) (e : ∀ x, x < N → fp p x = fp q x) {x : Nat} (hx : x < N) : ∀ k, it p k x = it q k x
  | 0 => rfl
  | k + 1 => by simp only [it]; rw [← it_eqf hp e hx k, e _ (it_lt hp hx k)]
theorem lens_same (hp : Pd p n) (hq : Pd q n) (e : ∀ x, x < n.toNat → fp p x = fp q x) : (lens p n).Perm (lens q n) := by
  refine lens_perm hp hq (fun x => x) (fun g => rfl) fun x hx => ?_
  have h1 := hp.per hx
  refine (hq.per hx).same ⟨h1.pos, ?_, fun j h0 hj q => ?_⟩
  · rw [← it_eqf hp.pf e hx]; exact h1.ret
  · rw [← it_eqf hp.pf e hx] at q; exact h1.min j h0 hj q
theorem dz_of (hp : Pd p n) (hq : Pd q n) (pp : isPm p n) (pq : isPm q n) (hall : ∀ S : Nat → Prop, S 0 → (∀ x, x < n.toNat → S x → S (fp p x)) → (∀ x, x < n.toNat → S x → S (fp q x)) → ∀ x, x < n.toNat → S x) : Dz n p q :=
  isD.dz ⟨pp, pq, cnt_of hp.hn hp.lt hq.lt hall⟩ hp.lo.ok hq.lo.ok
theorem Dz.fpm (h : Dz n b w) : isPm (faceP b w n) n := back_pm h.B.hn (then_pf h.B.hn h.B.pf h.W.pf)
theorem Dz.swap (h : Dz n b w) : Dz n w b := dz_of h.W h.B h.D.pw h.D.pb fun S h0 hW hB => h.alls h0 hB hW
theorem Dz.wf (h : Dz n b w) : Dz n w (faceP b w n) := dz_of h.W h.F h.D.pw h.fpm fun S h0 hW hF => h.alls h0 (fun x hx hs => by
  have hbx := h.B.pf.lt x hx
  refine cl_back (then_pf h.B.hn h.W.pf h.F.pf) (fun y hy s => ?_) hbx ?_
  · rw [then_fp h.B.hn hy]; exact hF _ (h.W.pf.lt y hy) (hW y hy s)
  · rw [then_fp h.B.hn hbx, h.face hx]; exact hs) hW
theorem Dz.bfw (h : Dz n b w) {x : Nat} (hx : x < n.toNat) : fp b (fp (faceP b w n) (fp w x)) = x := by
  obtain ⟨y, hy, rfl⟩ := h.B.pf.onto hx
  rw [h.face hy]
theorem Dz.fb (h : Dz n b w) : Dz n (faceP b w n) b := dz_of h.F h.B h.fpm h.D.pb fun S h0 hF hB => h.alls h0 hB (fun x hx hs => by
  have hwx := h.W.pf.lt x hx
  refine cl_back (then_pf h.B.hn h.F.pf h.B.pf) (fun y hy s => ?_) hwx ?_
  · rw [then_fp h.B.hn hy]; exact hB _ (h.F.pf.lt y hy) (hF y hy s)
  · rw [then_fp h.B.hn hwx, h.bfw hx]; exact hs)
theorem Dz.lf_swap (h : Dz n b w) : (lens (faceP b w n) n).Perm (lens (faceP w b n) n) := lens_conj h.F h.swap.F h.B.pf fun x hx => by
  have hf := h.F.pf.lt x hx
  have := h.swap.face (h.B.pf.lt _ hf)
  rw [h.face' hx] at this
  exact this
theorem Dz.lf_wf (h : Dz n b w) : (lens (faceP w (faceP b w n) n) n).Perm (lens b n) := lens_same h.wf.F h.B fun x hx => by
  have := h.wf.face (h.B.pf.lt x hx)
  rw [h.face hx] at this
  exact this
theorem Dz.lf_fb (h : Dz n b w) : (lens (faceP (faceP b w n) b n) n).Perm (lens w n) := lens_same h.fb.F h.W fun x hx => by
  have := h.fb.face (h.W.pf.lt x hx)
  rw [h.bfw hx] at this
  exact this
def ex1 (b w : List Int) (n k : Int) : List Int := if k = 0 then b else if k = 1 then w else if k = 2 then w else if k = 3 then faceP b w n else if k = 4 then b else faceP b w n
def ex2 (b w : List Int) (n k : Int) : List Int := if k = 0 then w else if k = 1 then b else if k = 2 then faceP b w n else if k = 3 then b else if k = 4 then faceP b w n else w
theorem Dz.ex (h : Dz n b w) {k : Int} (hk : 0 ≤ k ∧ k ≤ 5) : Dz n (ex1 b w n k) (ex2 b w n k) ∧ eulN n (ex1 b w n k) (ex2 b w n k) = eulN n b w := by
  have h1 := lens_nC h.lf_swap
  have h2 := lens_nC h.lf_wf
  have h3 := lens_nC h.lf_fb
  have h4 := lens_nC h.fb.lf_swap
  have h5 := lens_nC h.wf.lf_swap
  have : k = 0 ∨ k = 1 ∨ k = 2 ∨ k = 3 ∨ k = 4 ∨ k = 5 := by omega
  unfold eulN
  rcases this with rfl | rfl | rfl | rfl | rfl | rfl
  · exact ⟨h, rfl⟩
  · exact ⟨h.swap, by simp only [ex1, ex2]; simp; omega⟩
  · exact ⟨h.wf, by simp only [ex1, ex2]; simp; omega⟩
  · exact ⟨h.fb, by simp only [ex1, ex2]; simp; omega⟩
  · exact ⟨h.fb.swap, by simp only [ex1, ex2]; simp; omega⟩
  · exact ⟨h.wf.swap, by simp only [ex1, ex2]; simp; omega⟩
theorem Dz.mir (h : Dz n b w) : Dz n (backP b n) (backP w n) := dz_of (back_pd h.B.hn h.B.pf) (back_pd h.B.hn h.W.pf) (back_pm h.B.hn h.B.pf) (back_pm h.B.hn h.W.pf) fun S h0 hB hW =>
  h.alls h0 (fun x hx hs => cl_back (back_pf h.B.hn h.B.pf) hB (h.B.pf.lt x hx) (by rw [back_fp h.B.pf hx]; exact hs)) (fun x hx hs => cl_back (back_pf h.B.hn h.W.pf) hW (h.W.pf.lt x hx) (by rw [back_fp h.W.pf hx]; exact hs))
theorem back_lens (h : Pd p n) : (lens (backP p n) n).Perm (lens p n) := lens_back (back_pd h.hn h.pf) h (fun x hx => back_fp' h.pf hx) fun x hx => back_fp h.pf hx
theorem Dz.mir_eul (h : Dz n b w) : eulN n (backP b n) (backP w n) = eulN n b w := by
  have h1 := lens_nC (back_lens h.B)
  have h2 := lens_nC (back_lens h.W)
  have hn := h.B.hn
  have q : Pd (thenP w b n) n := pd_of hn (thenP_lo h.W.lo h.B.lo hn) (then_pf hn h.W.pf h.B.pf)
  have h3 : (lens (faceP (backP b n) (backP w n) n) n).Perm (lens (thenP w b n) n) := lens_same h.mir.F q fun x hx => by
    have := h.mir.face (x := fp (thenP w b n) x) (q.pf.lt x hx)
    rw [then_fp hn hx, back_fp h.B.pf (h.W.pf.lt x hx), back_fp h.W.pf hx] at this
    rw [then_fp hn hx]; exact this
  have h4 : (lens (faceP w b n) n).Perm (lens (thenP w b n) n) := back_lens q
  have h5 := lens_nC h3
  have h6 := lens_nC h4
  have h7 := lens_nC h.lf_swap
  unfold eulN
  omega
theorem back_back (hn : 1 ≤ n ∧ n ≤ 16) (h : isPm p n) (o : okP p) : backP (backP p n) n = p := by
  have pf := Pf.off o h
  exact pm_ext (n := n) (backP_lo hn) (h.lo o) (fun j hj => back_out (back_pf hn pf) hj) (fun j hj => pm_out h o.1 hj) fun x hx => by
    have := back_fp (back_pf hn pf) (pf.lt x hx)
    rw [back_fp pf hx] at this
    exact this
def sbB (b w : List Int) (N : Nat) : Nat → List Int
  | 0 => List.replicate 16 0
  | s + 1 => ((sbB b w N s).set s (gi b s)).set (N + s) (N + gi w s)
def sbW (N : Nat) : Nat → List Int
  | 0 => List.replicate 16 0
  | s + 1 => ((sbW N s).set s (N + s)).set (N + s) s
theorem sbB_len : ∀ s, (sbB b w N s).length = 16
  | 0 => by simp [sbB]
  | s + 1 => by simp [sbB, sbB_len s]
theorem sbW_len : ∀ s, (sbW N s).length = 16
  | 0 => by simp [sbW]
  | s + 1 => by simp [sbW, sbW_len s]
theorem sbB_at (hN : N ≤ 8) {y : Nat} : ∀ s, s ≤ N → gi (sbB b w N s) y = if y < s then gi b y else if N ≤ y ∧ y < N + s then N + gi w (y - N) else 0
  | 0, _ => by
    simp only [sbB]
    have e : gi (List.replicate 16 (0 : Int)) y = 0 := by rw [gi_rep]; split <;> rfl
    rw [e, if_neg (Nat.not_lt_zero y), if_neg (by omega)]
  | s + 1, hs => by
    simp only [sbB]
    rw [gi_set, gi_set, List.length_set, sbB_len, sbB_at hN s (by omega)]
    by_cases e : N + s = y
    · subst e
      rw [if_pos ⟨rfl, by omega⟩, if_neg (by omega), if_pos (by omega)]; simp
    · rw [if_neg fun q => e q.1]
      by_cases e2 : s = y
      · subst e2; rw [if_pos ⟨rfl, by omega⟩, if_pos (by omega)]
      · rw [if_neg fun q => e2 q.1]
        by_cases e3 : y < s
        · rw [if_pos e3, if_pos (by omega)]
        · rw [if_neg e3, if_neg (show ¬ y < s + 1 by omega)]
          by_cases e4 : N ≤ y ∧ y < N + s
          · rw [if_pos e4, if_pos (by omega)]
          · rw [if_neg e4, if_neg (by omega)]
theorem sbW_at (hN : N ≤ 8) {y : Nat} : ∀ s, s ≤ N → gi (sbW N s) y = if y < s then ((N + y : Nat) : Int) else if N ≤ y ∧ y < N + s then ((y - N : Nat) : Int) else 0
  | 0, _ => by
    simp only [sbW]
    have e : gi (List.replicate 16 (0 : Int)) y = 0 := by rw [gi_rep]; split <;> rfl
    rw [e, if_neg (Nat.not_lt_zero y), if_neg (by omega)]
  | s + 1, hs => by
    simp only [sbW]
    rw [gi_set, gi_set, List.length_set, sbW_len, sbW_at hN s (by omega)]
    by_cases e : N + s = y
    · subst e
      rw [if_pos ⟨rfl, by omega⟩, if_neg (by omega), if_pos (by omega)]; simp
    · rw [if_neg fun q => e q.1]
      by_cases e2 : s = y
      · subst e2; rw [if_pos ⟨rfl, by omega⟩, if_pos (by omega)]; simp
      · rw [if_neg fun q => e2 q.1]
        by_cases e3 : y < s
        · rw [if_pos e3, if_pos (by omega)]
        · rw [if_neg e3, if_neg (show ¬ y < s + 1 by omega)]
          by_cases e4 : N ≤ y ∧ y < N + s
          · rw [if_pos e4, if_pos (by omega)]
          · rw [if_neg e4, if_neg (by omega)]
def suB (b w : List Int) (n : Int) : List Int := sbB b w n.toNat n.toNat
def suW (n : Int) : List Int := sbW n.toNat n.toNat
structure Su (n : Int) (b w : List Int) : Prop where
  h : Dz n b w
  n8 : n ≤ 8
theorem Su.b0 (S : Su n b w) {x : Nat} (hx : x < n.toNat) : fp (suB b w n) x = fp b x := by
  unfold fp suB
  rw [sbB_at (by have := S.n8; omega) _ (Nat.le_refl _), if_pos hx]
theorem Su.b1 (S : Su n b w) {x : Nat} (hx : x < n.toNat) : fp (suB b w n) (n.toNat + x) = n.toNat + fp w x := by
  have := S.h.W.nn x
  unfold fp suB
  rw [sbB_at (by have := S.n8; omega) _ (Nat.le_refl _), if_neg (by omega), if_pos (by omega), Nat.add_sub_cancel_left]
  omega
theorem Su.w0 (S : Su n b w) {x : Nat} (hx : x < n.toNat) : fp (suW n) x = n.toNat + x := by
  unfold fp suW
  rw [sbW_at (by have := S.n8; omega) _ (Nat.le_refl _), if_pos hx]; omega
theorem Su.w1 (S : Su n b w) {x : Nat} (hx : x < n.toNat) : fp (suW n) (n.toNat + x) = x := by
  unfold fp suW
  rw [sbW_at (by have := S.n8; omega) _ (Nat.le_refl _), if_neg (by omega), if_pos (by omega), Nat.add_sub_cancel_left]; simp
theorem Su.nn (S : Su n b w) : (2 * n).toNat = n.toNat + n.toNat ∧ n.toNat ≤ 8 ∧ 1 ≤ n.toNat := by have := S.h.B.hn; have := S.n8; omega
theorem Su.cases (S : Su n b w) {x : Nat} (hx : x < (2 * n).toNat) : x < n.toNat ∨ ∃ y, y < n.toNat ∧ x = n.toNat + y := by
  have := S.nn
  by_cases q : x < n.toNat
  · exact .inl q
  · exact .inr ⟨x - n.toNat, by omega, by omega⟩
theorem Su.B (S : Su n b w) : Pd (suB b w n) (2 * n) ∧ isPm (suB b w n) (2 * n) := by
  obtain ⟨e, h8, h1⟩ := S.nn
  have hn := S.h.B.hn
  have n8 := S.n8
  have lo : lo16 (suB b w n) := ⟨sbB_len _, fun i hi => by
    unfold suB
    rw [sbB_at h8 _ (Nat.le_refl _)]
    split
    · exact S.h.B.lo.2 i hi
    · split
      · have := S.h.W.lt (i - n.toNat) (by omega); omega
      · omega⟩
  have pf : Pf (suB b w n) (2 * n).toNat := by
    refine ⟨fun x hx => ?_, fun x y hx hy q => ?_, by omega⟩
    · rcases S.cases hx with q | ⟨y, hy, rfl⟩
      · rw [S.b0 q]; have := S.h.B.pf.lt x q; omega
      · rw [S.b1 hy]; have := S.h.W.pf.lt y hy; omega
    · rcases S.cases hx with hx | ⟨x', hx', rfl⟩ <;> rcases S.cases hy with hy | ⟨y', hy', rfl⟩
      · rw [S.b0 hx, S.b0 hy] at q; exact S.h.B.pf.inj x y hx hy q
      · rw [S.b0 hx, S.b1 hy'] at q; have := S.h.B.pf.lt x hx; omega
      · rw [S.b1 hx', S.b0 hy] at q; have := S.h.B.pf.lt y hy; omega
      · rw [S.b1 hx', S.b1 hy'] at q; rw [S.h.W.pf.inj x' y' hx' hy' (by omega)]
  refine ⟨pd_of (by omega) lo pf, isPm_of (by omega) lo pf fun j hj => ?_⟩
  unfold suB
  rw [sbB_at h8 _ (Nat.le_refl _), if_neg (by omega), if_neg (by omega)]
theorem Su.W (S : Su n b w) : Pd (suW n) (2 * n) ∧ isPm (suW n) (2 * n) := by
  obtain ⟨e, h8, h1⟩ := S.nn
  have hn := S.h.B.hn
  have n8 := S.n8
  have lo : lo16 (suW n) := ⟨sbW_len _, fun i hi => by
    unfold suW
    rw [sbW_at h8 _ (Nat.le_refl _)]
    split
    · omega
    · split <;> omega⟩
  have pf : Pf (suW n) (2 * n).toNat := by
    refine ⟨fun x hx => ?_, fun x y hx hy q => ?_, by omega⟩
    · rcases S.cases hx with q | ⟨y, hy, rfl⟩
      · rw [S.w0 q]; omega
      · rw [S.w1 hy]; omega
    · rcases S.cases hx with hx | ⟨x', hx', rfl⟩ <;> rcases S.cases hy with hy | ⟨y', hy', rfl⟩
      · rw [S.w0 hx, S.w0 hy] at q; omega
      · rw [S.w0 hx, S.w1 hy'] at q; omega
      · rw [S.w1 hx', S.w0 hy] at q; omega
      · rw [S.w1 hx', S.w1 hy'] at q; omega
  refine ⟨pd_of (by omega) lo pf, isPm_of (by omega) lo pf fun j hj => ?_⟩
  unfold suW
  rw [sbW_at h8 _ (Nat.le_refl _), if_neg (by omega), if_neg (by omega)]
theorem Su.dz (S : Su n b w) : Dz (2 * n) (suB b w n) (suW n) := dz_of S.B.1 S.W.1 S.B.2 S.W.2 fun Q h0 hB hW => by
  obtain ⟨e, h8, h1⟩ := S.nn
  have key := S.h.alls (S := fun y => Q y ∧ Q (n.toNat + y)) ⟨h0, by have := hW 0 (by omega) h0; rw [S.w0 (by omega)] at this; exact this⟩ (fun x hx hs => by
    have h2 := hB x (by omega) hs.1
    rw [S.b0 hx] at h2
    have hl := S.h.B.pf.lt x hx
    have h3 := hW _ (by omega) h2
    rw [S.w0 hl] at h3
    exact ⟨h2, h3⟩) (fun x hx hs => by
    have h2 := hB _ (by omega) hs.2
    rw [S.b1 hx] at h2
    have hl := S.h.W.pf.lt x hx
    have h3 := hW _ (by omega) h2
    rw [S.w1 hl] at h3
    exact ⟨h3, h2⟩)
  intro x hx
  rcases S.cases hx with q | ⟨y, hy, rfl⟩
  · exact (key x q).1
  · exact (key y hy).2
theorem smE_app {f : Nat → Int} {a : Nat} : ∀ k, smE (a + k) f = smE a f + smE k fun x => f (a + x)
  | 0 => by simp [smE]
  | k + 1 => by rw [← Nat.add_assoc]; simp only [smE]; rw [smE_app k]; omega
theorem smE_const {c : Int} : ∀ k, smE k (fun _ => c) = k * c
  | 0 => by simp [smE]
  | k + 1 => by simp only [smE]; rw [smE_const k]; grind
theorem lens_of (hp : Pd p n) {M : List Int} (hM : ∀ a ∈ M, 1 ≤ a) (h : ∀ c : Nat, 1 ≤ c → (c : Int) * ((M.count (c : Int) : Nat) : Int) = smE n.toNat fun x => if lenW p n x = c then 1 else 0) : (lens p n).Perm M := by
  refine List.perm_iff_count.2 fun c => ?_
  by_cases hc : 1 ≤ c
  · obtain ⟨k, rfl⟩ : ∃ k : Nat, c = k := ⟨c.toNat, by omega⟩
    have e1 := hp.lens_cnt k
    rw [← h k (by omega)] at e1
    have := Int.eq_of_mul_eq_mul_left (by omega) e1
    omega
  · rw [List.count_eq_zero_of_not_mem fun h => hc (hp.len_pos h), List.count_eq_zero_of_not_mem fun h => hc (hM _ h)]
theorem Su.lenB (S : Su n b w) : (cyc (suB b w n) (2 * n)).length = (cyc b n).length + (cyc w n).length := by
  obtain ⟨e, h8, h1⟩ := S.nn
  have hB := S.B.1
  have i0 : ∀ x, x < n.toNat → ∀ k, it (suB b w n) k x = it b k x := fun x hx k => by
    induction k with
    | zero => rfl
    | succ k ih => simp only [it]; rw [ih, S.b0 (it_lt S.h.B.pf hx k)]
  have i1 : ∀ x, x < n.toNat → ∀ k, it (suB b w n) k (n.toNat + x) = n.toNat + it w k x := fun x hx k => by
    induction k with
    | zero => rfl
    | succ k ih => simp only [it]; rw [ih, S.b1 (it_lt S.h.W.pf hx k)]
  have l0 : ∀ x, x < n.toNat → lenW (suB b w n) (2 * n) x = lenW b n x := fun x hx => by
    have h2 := S.h.B.per hx
    exact (hB.per (x := x) (by omega)).same ⟨h2.pos, by rw [i0 x hx]; exact h2.ret, fun j a c q => h2.min j a c (by rw [i0 x hx] at q; exact q)⟩
  have l1 : ∀ x, x < n.toNat → lenW (suB b w n) (2 * n) (n.toNat + x) = lenW w n x := fun x hx => by
    have h2 := S.h.W.per hx
    exact (hB.per (x := n.toNat + x) (by omega)).same ⟨h2.pos, by rw [i1 x hx, h2.ret], fun j a c q => h2.min j a c (by rw [i1 x hx] at q; omega)⟩
  have := (lens_of hB (M := lens b n ++ lens w n) (fun a ha => by
    rcases List.mem_append.1 ha with ha | ha
    · exact S.h.B.len_pos ha
    · exact S.h.W.len_pos ha) fun c hc => by
    rw [e, smE_app, List.count_append, Int.natCast_add, Int.mul_add, S.h.B.lens_cnt, S.h.W.lens_cnt]
    congr 1
    · exact smE_congr _ fun x hx => by rw [l0 x hx]
    · exact smE_congr _ fun x hx => by rw [l1 x hx]).length_eq
  rw [List.length_append, lens_len, lens_len, lens_len] at this
  exact this
theorem Su.pairs (S : Su n b w) : ∀ x, x < (2 * n).toNat → fp (suW n) x ≠ x ∧ fp (suW n) (fp (suW n) x) = x := fun x hx => by
  obtain ⟨e, h8, h1⟩ := S.nn
  rcases S.cases hx with q | ⟨y, hy, rfl⟩
  · rw [S.w0 q, S.w1 q]; omega
  · rw [S.w1 hy, S.w0 hy]; omega
theorem Su.lenW (S : Su n b w) : (cyc (suW n) (2 * n)).length = n.toNat := by
  obtain ⟨e, h8, h1⟩ := S.nn
  have hW := S.W.1
  have l0 : ∀ x, x < (2 * n).toNat → Sep.lenW (suW n) (2 * n) x = 2 := fun x hx => by
    have h2 := S.pairs x hx
    exact (hW.per hx).same ⟨by omega, h2.2, fun j a c q => h2.1 (by rw [show j = 1 by omega] at q; exact q)⟩
  have := (lens_of hW (M := List.replicate n.toNat 2) (fun a ha => by rw [List.eq_of_mem_replicate ha]; omega) fun c hc => by
    rw [smE_congr (g := fun _ => if 2 = c then (1 : Int) else 0) _ fun x hx => by rw [l0 x hx], smE_const, List.count_replicate, e]
    by_cases q : c = 2
    · subst q; simp; omega
    · rw [if_neg (by simp; omega), if_neg (by omega)]; simp).length_eq
  rw [lens_len, List.length_replicate] at this
  exact this
theorem Su.lenF (S : Su n b w) : (cyc (faceP (suB b w n) (suW n) (2 * n)) (2 * n)).length = (cyc (faceP b w n) n).length := by
  obtain ⟨e, h8, h1⟩ := S.nn
  have D := S.dz
  have hF := D.F
  -- one step from the face permutation
  have s0 : ∀ y, y < n.toNat → fp (faceP (suB b w n) (suW n) (2 * n)) (fp w y) = n.toNat + y := fun y hy => by
    have := D.face (x := n.toNat + y) (by omega)
    rw [S.b1 hy, S.w1 (S.h.W.pf.lt y hy)] at this; exact this
  have s1 : ∀ y, y < n.toNat → fp (faceP (suB b w n) (suW n) (2 * n)) (n.toNat + fp b y) = y := fun y hy => by
    have := D.face (x := y) (by omega)
    rw [S.b0 hy, S.w0 (S.h.B.pf.lt y hy)] at this; exact this
  have t0 : ∀ x, x < n.toNat → fp (faceP (suB b w n) (suW n) (2 * n)) x ≥ n.toNat ∧ fp (faceP (suB b w n) (suW n) (2 * n)) (fp (faceP (suB b w n) (suW n) (2 * n)) x) = fp (faceP b w n) x := fun x hx => by
    have hf := S.h.F.pf.lt x hx
    have h2 := s0 (fp b (fp (faceP b w n) x)) (S.h.B.pf.lt _ hf)
    rw [S.h.face' hx] at h2
    rw [h2]
    exact ⟨by omega, s1 _ hf⟩
  have t1 : ∀ x, x < n.toNat → fp (faceP (suB b w n) (suW n) (2 * n)) (n.toNat + x) < n.toNat ∧ fp (faceP (suB b w n) (suW n) (2 * n)) (fp (faceP (suB b w n) (suW n) (2 * n)) (n.toNat + x)) = n.toNat + fp (faceP w b n) x := fun x hx => by
    have hf := S.h.swap.F.pf.lt x hx
    have h2 := s1 (fp w (fp (faceP w b n) x)) (S.h.W.pf.lt _ hf)
    rw [S.h.swap.face' hx] at h2
    rw [h2]
    exact ⟨S.h.W.pf.lt _ hf, s0 _ hf⟩
  generalize faceP (suB b w n) (suW n) (2 * n) = F at *
  have i0 : ∀ x, x < n.toNat → ∀ k, it F (2 * k) x = it (faceP b w n) k x := fun x hx k => by
    induction k with
    | zero => rfl
    | succ k ih =>
      rw [show 2 * (k + 1) = 2 * k + 1 + 1 by omega]
      simp only [it]
      rw [ih]; exact (t0 _ (it_lt S.h.F.pf hx k)).2
  have i1 : ∀ x, x < n.toNat → ∀ k, it F (2 * k) (n.toNat + x) = n.toNat + it (faceP w b n) k x := fun x hx k => by
    induction k with
    | zero => rfl
    | succ k ih =>
      rw [show 2 * (k + 1) = 2 * k + 1 + 1 by omega]
      simp only [it]
      rw [ih]; exact (t1 _ (it_lt S.h.swap.F.pf hx k)).2
  have l0 : ∀ x, x < n.toNat → Sep.lenW F (2 * n) x = 2 * Sep.lenW (faceP b w n) n x := fun x hx => by
    have h2 := S.h.F.per hx
    have hp := h2.pos
    refine (hF.per (x := x) (by omega)).same ⟨by omega, by rw [i0 x hx]; exact h2.ret, fun j a c q => ?_⟩
    obtain ⟨i, rfl | rfl⟩ : ∃ i, j = 2 * i ∨ j = 2 * i + 1 := ⟨j / 2, by omega⟩
    · rw [i0 x hx] at q
      exact h2.min i (by omega) (by omega) q
    · simp only [it] at q
      rw [i0 x hx] at q
      have := (t0 _ (it_lt S.h.F.pf hx i)).1
      omega
  have l1 : ∀ x, x < n.toNat → Sep.lenW F (2 * n) (n.toNat + x) = 2 * Sep.lenW (faceP w b n) n x := fun x hx => by
    have h2 := S.h.swap.F.per hx
    have hp := h2.pos
    refine (hF.per (x := n.toNat + x) (by omega)).same ⟨by omega, by rw [i1 x hx, h2.ret], fun j a c q => ?_⟩
    obtain ⟨i, rfl | rfl⟩ : ∃ i, j = 2 * i ∨ j = 2 * i + 1 := ⟨j / 2, by omega⟩
    · rw [i1 x hx] at q
      exact h2.min i (by omega) (by omega) (by omega)
    · simp only [it] at q
      rw [i1 x hx] at q
      have := (t1 _ (it_lt S.h.swap.F.pf hx i)).1
      omega
  have := (lens_of hF (M := (lens (faceP b w n) n).map fun a => 2 * a) (fun a ha => by
    obtain ⟨c, hc, rfl⟩ := List.mem_map.1 ha
    have := S.h.F.len_pos hc; omega) fun c hc => by
    rw [e, smE_app, smE_congr (g := fun x => if 2 * Sep.lenW (faceP b w n) n x = c then (1 : Int) else 0) _ fun x hx => by rw [l0 x hx],
      smE_congr (f := fun x => if Sep.lenW F (2 * n) (n.toNat + x) = c then (1 : Int) else 0) (g := fun x => if 2 * Sep.lenW (faceP w b n) n x = c then (1 : Int) else 0) _ fun x hx => by rw [l1 x hx]]
    obtain ⟨i, rfl | rfl⟩ : ∃ i, c = 2 * i ∨ c = 2 * i + 1 := ⟨c / 2, by omega⟩
    · have c1 := S.h.F.lens_cnt i
      have c2 := S.h.swap.F.lens_cnt i
      have c3 := (List.perm_iff_count.1 S.h.lf_swap) (i : Int)
      have e1 : ((lens (faceP b w n) n).map fun a => 2 * a).count ((2 * i : Nat) : Int) = (lens (faceP b w n) n).count (i : Int) := by
        rw [show ((2 * i : Nat) : Int) = 2 * (i : Int) by omega]
        induction lens (faceP b w n) n with
        | nil => rfl
        | cons a l ih =>
          rw [List.map_cons, List.count_cons, List.count_cons, ih]
          congr 1
          by_cases q : a = i
          · subst q; simp
          · rw [if_neg (by simp only [beq_iff_eq]; omega), if_neg (by simp only [beq_iff_eq]; omega)]
      rw [e1]
      have c4 : (smE n.toNat fun x => if 2 * Sep.lenW (faceP b w n) n x = 2 * i then (1 : Int) else 0) = smE n.toNat fun x => if Sep.lenW (faceP b w n) n x = i then 1 else 0 := smE_congr _ fun x hx => by
        by_cases q : Sep.lenW (faceP b w n) n x = i
        · rw [if_pos q, if_pos (by omega)]
        · rw [if_neg q, if_neg (by omega)]
      have c5 : (smE n.toNat fun x => if 2 * Sep.lenW (faceP w b n) n x = 2 * i then (1 : Int) else 0) = smE n.toNat fun x => if Sep.lenW (faceP w b n) n x = i then 1 else 0 := smE_congr _ fun x hx => by
        by_cases q : Sep.lenW (faceP w b n) n x = i
        · rw [if_pos q, if_pos (by omega)]
        · rw [if_neg q, if_neg (by omega)]
      rw [c4, c5, ← c1, ← c2, ← c3]
      rw [show ((2 * i : Nat) : Int) = 2 * (i : Int) by omega]; grind
    · rw [List.count_eq_zero_of_not_mem fun h => by
        obtain ⟨a, _, ha⟩ := List.mem_map.1 h
        omega]
      rw [smE_congr (g := fun _ => 0) _ fun x hx => if_neg (by omega), smE_zero, smE_congr (g := fun _ => 0) _ fun x hx => if_neg (by omega), smE_zero]; simp).length_eq
  rw [List.length_map, lens_len, lens_len] at this
  exact this
theorem Su.eul (S : Su n b w) : eulN (2 * n) (suB b w n) (suW n) = eulN n b w := by
  obtain ⟨e, h8, h1⟩ := S.nn
  have a := S.lenB
  have c := S.lenW
  have d := S.lenF
  unfold eulN
  omega
end
end
section
set_option maxRecDepth 1000000
set_option maxHeartbeats 4000000
theorem run_compareSl {P : Program} {b off n cap b' off' n' cap' : Nat} {w : World} (l m : List Int) (hl : l.length = n) (hm : m.length = n')
    (h1 : ∀ j x, l[j]? = some x → w.cell? ⟨b, off + j, none⟩ = some (.int .u8 x)) (h2 : ∀ j x, m[j]? = some x → w.cell? ⟨b', off' + j, none⟩ = some (.int .u8 x)) :
    (Extern.BytealgCompare.compare #[.slice (some ⟨b, off, none⟩) n cap, .slice (some ⟨b', off', none⟩) n' cap']).run P w = .ok (.int .i64 (Lib.compareBytes (Lib.bytesOf l) (Lib.bytesOf m))) w := by
  subst hl hm
  have e1 := Lib.run_loadBytesX (P := P) (w := w) l ⟨b, off, none⟩ .empty (fun j x hj => by rw [Addr.add_lit]; exact h1 j x hj)
  have e2 := Lib.run_loadBytesX (P := P) (w := w) m ⟨b', off', none⟩ .empty (fun j x hj => by rw [Addr.add_lit]; exact h2 j x hj)
  change Sem.run P (do pure (goInt (Extern.BytealgCompare.cmp (← Extern.Bytes.bytesOf (.slice (some ⟨b, off, none⟩) l.length cap)) (← Extern.Bytes.bytesOf (.slice (some ⟨b', off', none⟩) m.length cap'))))) w = _
  simp only [Extern.Bytes.bytesOf, Sem.run_bind, e1, e2, Sem.run_pure, Result.andThen]
  rw [Lib.cmp_eq]
  simp [goInt]
theorem bcmp_walk (b off n cap b' off' n' cap' : Nat) (w : World) (l m : List Int) (hl : l.length = n) (hm : m.length = n')
    (h1 : ∀ j x, l[j]? = some x → w.cell? ⟨b, off + j, none⟩ = some (.int .u8 x)) (h2 : ∀ j x, m[j]? = some x → w.cell? ⟨b', off' + j, none⟩ = some (.int .u8 x)) :
    Calls Try.prog 75 #[.slice (some ⟨b, off, none⟩) n cap, .slice (some ⟨b', off', none⟩) n' cap'] w fun e w' => e = .returned (.int .i64 (Lib.compareBytes (Lib.bytesOf l) (Lib.bytesOf m))) ∧ w' = w := by
  go_enter Try.func75, Try.ntmps75
  go_wp2
  rw [run_callFunc_extern Try.func78 (by kernel_rfl) (by kernel_rfl) (by kernel_rfl) (e := Extern.BytealgCompare.compare) (by kernel_rfl), run_compareSl l m hl hm h1 h2]
  simp only [Result.andThen]
  rw [Oper.upon_value]
  go_wp2
  go_ret
  exact ⟨rfl, rfl⟩
theorem newc_q {p q : List Int} {w : World} {e : TypeId} {j : Nat} {x : Int} (hj : q[j]? = some x) : ((w.alloc (Obj.cells (p.map (Value.int .u8)).toArray e)).alloc (Obj.cells (q.map (Value.int .u8)).toArray e)).drew.cell? ⟨w.heap.size + 1, 0 + j, none⟩ = some (.int .u8 x) := by
  rw [World.cell?_drew, Nat.zero_add, World.cell?_alloc2_new, List.getElem?_toArray, List.getElem?_map, hj]; rfl
theorem newc_p {p q : List Int} {w : World} {e : TypeId} {j : Nat} {x : Int} (hj : p[j]? = some x) : ((w.alloc (Obj.cells (p.map (Value.int .u8)).toArray e)).alloc (Obj.cells (q.map (Value.int .u8)).toArray e)).drew.cell? ⟨w.heap.size, 0 + j, none⟩ = some (.int .u8 x) := by
  rw [World.cell?_drew, Nat.zero_add, World.cell?_alloc2_first, List.getElem?_toArray, List.getElem?_map, hj]; rfl
theorem newk {p : List Int} (e : TypeId) : (Blk.row true e (p.map (Value.int .u8)) 0).ok (Obj.cells (p.map (Value.int .u8)).toArray e) :=
  ⟨_, _, rfl, by simp, by rw [List.toList_toArray, List.take_length], fun _ => rfl, fun _ v hv => by obtain ⟨x, _, rfl⟩ := List.mem_map.1 hv; rfl⟩
theorem le_new {B : Bd} {w0 w : World} {h : H} {k : Blk} (hs : Sat B w0 w h) : Le h (upd h w.heap.size k) := fun b k' hb => by
  have : b ≠ w.heap.size := by have := hs.lt (b := b) (by rw [hb]; rfl); omega
  simp only [upd, if_neg this]; exact hb
theorem Le.trans' {h h' h'' : H} (a : Le h h') (c : Le h' h'') : Le h h'' := fun b k hb => c b k (a b k hb)
theorem pcmp_walk (p q : List Int) (w : World) (hp : p.length = 16) (hq : q.length = 16) :
    Calls Try.prog 69 #[.agg (p.map (Value.int .u8)).toArray, .agg (q.map (Value.int .u8)).toArray] w fun e w' => e = .returned (.int .i64 (Lib.compareBytes (Lib.bytesOf p) (Lib.bytesOf q))) ∧ ∀ B w0 h, Sat B w0 w h → Sat B w0 w' h := by
  go_enter Try.func69, Try.ntmps69
  go_wp2_with fail
  go_region_with (go_at_call 75; refine (bcmp_walk _ _ _ _ _ _ _ _ _ p q hp hq (by intro j x hj; exact newc_p hj) (by intro j x hj; exact newc_q hj)).mono ?_; rintro e w' ⟨rfl, rfl⟩)
  go_wp2
  go_ret
  refine ⟨rfl, fun B w0 h hs => ?_⟩
  refine Sat.drew ?_
  exact Sat.mono ((hs.alloc (newk _)).alloc (newk _)) (Le.trans' (le_new hs) (le_new (hs.alloc (newk _))))
theorem u8_lt {a c : Int} (ha : 0 ≤ a ∧ a ≤ 255) (hc : 0 ≤ c ∧ c ≤ 255) : a.toNat.toUInt8 < c.toNat.toUInt8 ↔ a < c := by
  rw [UInt8.lt_iff_toNat_lt, Nat.toUInt8_eq, Nat.toUInt8_eq, UInt8.toNat_ofNat_of_lt' (show a.toNat < 256 by omega), UInt8.toNat_ofNat_of_lt' (show c.toNat < 256 by omega)]
  omega
theorem cmp_ltL : ∀ {p q : List Int}, p.length = q.length → (∀ a ∈ p, 0 ≤ a ∧ a ≤ 255) → (∀ a ∈ q, 0 ≤ a ∧ a ≤ 255) →
    (-1 ≤ Lib.compareBytes (Lib.bytesOf p) (Lib.bytesOf q) ∧ Lib.compareBytes (Lib.bytesOf p) (Lib.bytesOf q) ≤ 1) ∧ (Lib.compareBytes (Lib.bytesOf p) (Lib.bytesOf q) < 0 ↔ ltL p q = true) ∧ (Lib.compareBytes (Lib.bytesOf p) (Lib.bytesOf q) = 0 ↔ p = q)
  | [], [], _, _, _ => by simp [Lib.bytesOf, Lib.compareBytes, ltL]
  | [], _ :: _, h, _, _ => by simp at h
  | _ :: _, [], h, _, _ => by simp at h
  | a :: p, c :: q, h, ha, hc => by
    have ih := cmp_ltL (p := p) (q := q) (by simpa using h) (fun x hx => ha x (by simp [hx])) (fun x hx => hc x (by simp [hx]))
    have ha0 := ha a (by simp)
    have hc0 := hc c (by simp)
    have l1 := u8_lt ha0 hc0
    have l2 := u8_lt hc0 ha0
    have e1 : Lib.bytesOf (a :: p) = a.toNat.toUInt8 :: Lib.bytesOf p := rfl
    have e2 : Lib.bytesOf (c :: q) = c.toNat.toUInt8 :: Lib.bytesOf q := rfl
    rw [e1, e2]
    simp only [Lib.compareBytes, ltL]
    by_cases h1 : a < c
    · rw [if_pos (l1.2 h1)]
      refine ⟨by omega, by simp [h1], ?_⟩
      simp; omega
    · rw [if_neg fun q => h1 (l1.1 q)]
      by_cases h2 : c < a
      · rw [if_pos (l2.2 h2)]
        refine ⟨by omega, ?_, ?_⟩
        · simp [h1]; omega
        · simp; omega
      · rw [if_neg fun q => h2 (l2.1 q)]
        have e : a = c := by omega
        subst e
        refine ⟨ih.1, ?_, ?_⟩
        · rw [ih.2.1]; simp
        · rw [ih.2.2]; simp
theorem c_impl_comparePlaces {p q : List Int} (hp : okP p) (hq : okP q) : PSpec Try.prog 69 [.agg (vi .u8 p), .agg (vi .u8 q)] fun v => ∃ r : Int, v = .int .i64 r ∧ (-1 ≤ r ∧ r ≤ 1) ∧ (r < 0 ↔ ltL p q = true) ∧ (r = 0 ↔ p = q) := by
  intro F rs hR hr hle B w0 w hs
  simp only [RL, R] at hR
  obtain ⟨v0, r0, rfl, ⟨cs, rfl, h1⟩, v1, r1, rfl, ⟨cs', rfl, h2⟩, rfl⟩ := hR
  obtain rfl := RL_bytes_eq h1
  obtain rfl := RL_bytes_eq h2
  refine (pcmp_walk p q w hp.1 hq.1).mono ?_
  rintro e w' ⟨rfl, hw⟩
  have hok : ∀ {p : List Int}, okP p → ∀ a ∈ p, 0 ≤ a ∧ a ≤ 255 := fun {p} hp a ha => by
    obtain ⟨i, hi, rfl⟩ := List.getElem_of_mem ha
    have := hp.2 i (by rw [← hp.1]; exact hi)
    rw [gi_of hi] at this; exact this
  obtain ⟨c1, c2, c3⟩ := cmp_ltL (by rw [hp.1, hq.1]) (hok hp) (hok hq)
  refine ⟨_, emp, rfl, ⟨.int .i64 (Lib.compareBytes (Lib.bytesOf p) (Lib.bytesOf q)), ⟨_, rfl, c1, c2, c3⟩, rfl, rfl⟩, fun b hb => by simp [emp] at hb, ?_⟩
  have : join hr emp = hr := by funext b; simp [join, emp]
  rw [this]
  exact hw B w0 hr hs
theorem c_impl_compareDessins {n m : Int} {b w c x : List Int} (hb : okP b) (hw : okP w) (hc : okP c) (hx : okP x) : PSpec Try.prog 60 [vD n b w, vD m c x] fun v => ∃ r : Int, v = .int .i64 r ∧ (-1 ≤ r ∧ r ≤ 1) ∧ (r < 0 ↔ ltD (b, w) (c, x) = true) := by
  have h1 := hb.1
  have h2 := hw.1
  have h3 := hc.1
  have h4 := hx.1
  refine impl_compareDessins_f.f ?_
  unfold vD
  dsimp only [impl_compareDessins_F, pcal_B, pcalp_B, pcala_B, pcond_B, pgk_B, JN_B, LP_B]
  (refine bni ?_; repeat (refine bnk ?_; (try simp (disch := first | omega | (simp only [LN]; omega)) only [↓EC, EW, seval, ↓reduceIte, ↓EBD, EBE])))
  refine pcd_r (c_impl_comparePlaces hb hc) ?_
  rintro _ ⟨r, rfl, l1, l2, l3⟩
  (refine bni ?_; repeat (refine bnk ?_; (try simp (disch := first | omega | (simp only [LN]; omega)) only [↓EC, EW, seval, ↓reduceIte, ↓EBD, EBE])))
  (refine Split.mkB (fun h => ?_) (fun h => ?_) <;> (try simp only [SD] at h))
  · (refine bni ?_; repeat (refine bnk ?_; (try simp (disch := first | omega | (simp only [LN]; omega)) only [↓EC, EW, seval, ↓reduceIte, ↓EBD, EBE])))
    refine ⟨r, rfl, l1, ?_⟩
    have : b ≠ c := fun e => h (l3.2 e)
    rw [l2]; simp [ltD, this]
  · (refine bni ?_; repeat (refine bnk ?_; (try simp (disch := first | omega | (simp only [LN]; omega)) only [↓EC, EW, seval, ↓reduceIte, ↓EBD, EBE])))
    refine pcd_r (c_impl_comparePlaces hw hx) ?_
    rintro _ ⟨r', rfl, l1', l2', l3'⟩
    (refine bni ?_; repeat (refine bnk ?_; (try simp (disch := first | omega | (simp only [LN]; omega)) only [↓EC, EW, seval, ↓reduceIte, ↓EBD, EBE])))
    refine ⟨r', rfl, l1', ?_⟩
    obtain rfl := l3.1 h
    rw [l2']; simp [ltD, ltL_irr]
end
section
set_option maxHeartbeats 4000000
theorem vleqT {k : IntKind} : ∀ {l m : List Int}, l.length = m.length → vleq (List.replicate l.length (.i k)) (vi k l) (vi k m) = some (decide (l = m))
  | [], [], _ => rfl
  | [], _ :: _, h => by simp at h
  | _ :: _, [], h => by simp at h
  | a :: l, c :: m, h => by
    have ih := vleqT (k := k) (l := l) (m := m) (by simpa using h)
    simp only [List.length_cons, List.replicate_succ, vi, List.map_cons, vleq_cons, vveq_i, Option.bind_some] at ih ⊢
    rw [ih]
    simp only [Option.bind_some, Option.some.injEq]
    by_cases e : a = c
    · subst e; simp
    · simp [e]
theorem vleq32 {l m : List Int} (hl : l.length = 32) (hm : m.length = 32) : vleq [.i .u8, .i .u8, .i .u8, .i .u8, .i .u8, .i .u8, .i .u8, .i .u8, .i .u8, .i .u8, .i .u8, .i .u8, .i .u8, .i .u8, .i .u8, .i .u8, .i .u8, .i .u8, .i .u8, .i .u8, .i .u8, .i .u8, .i .u8, .i .u8, .i .u8, .i .u8, .i .u8, .i .u8, .i .u8, .i .u8, .i .u8, .i .u8] (vi .u8 l) (vi .u8 m) = some (decide (l = m)) := by
  have := vleqT (k := .u8) (l := l) (m := m) (by omega)
  rw [hl] at this
  exact this
theorem app_inj16 {a c x y : List Int} (h1 : a.length = 16) (h2 : c.length = 16) : a ++ x = c ++ y ↔ a = c ∧ x = y := by
  constructor
  · intro e; exact List.append_inj e (by omega)
  · rintro ⟨rfl, rfl⟩; rfl
section
variable {n : Int} {b w : List Int}
theorem cnF_lo (h : Dz n b w) (s : Nat) (hs : s < n.toNat) : lo16 (cnF b w n s).1 ∧ lo16 (cnF b w n s).2 := by
  obtain ⟨x, hx, e⟩ := cnF_ex (b := b) (w := w) (n := n) s
  rw [e]
  have := frm_dz h (x := x) (by omega)
  exact ⟨this.B.lo, this.W.lo⟩
end
theorem c_impl_canonical {n : Int} {b w : List Int} (hz : Dz n b w) : PSpec Try.prog 34 [vD n b w] fun v => v = vD n (canD b w n).1 (canD b w n).2 := by
  have hb := hz.B.lo
  have hw := hz.W.lo
  have hl := hb.1
  have hk := hw.1
  have hn := hz.B.hn
  have c1 : ∀ x : Int, 0 ≤ x ∧ x < n → PSpec Try.prog 59 [.agg (.int .i64 n :: vi .u8 (b ++ w)), .int .i64 x] fun v => v = .agg (vi .u8 (nmgP b w x)) := fun x hx => c_impl_naming (n := n) (x := x) hb hw (by omega)
  have c2 : ∀ x : Int, 0 ≤ x ∧ x < n → PSpec Try.prog 58 [.agg (.int .i64 n :: vi .u8 (b ++ w)), .agg (vi .u8 (nmgP b w x))] fun v => v = .agg (.int .i64 n :: vi .u8 (frB b w n x ++ frW b w n x)) := fun x hx => c_impl_rename (n := n) hb hw (nmgP_lo hb hw (x := x) (by omega)) hn
  have q1 : ∀ x : Int, (frB b w n x).length = 16 := fun x => rnT_len _
  have q2 : ∀ x : Int, (frW b w n x).length = 16 := fun x => rnT_len _
  have q3 : ∀ s, (cnF b w n s).1.length = 16 := fun s => by obtain ⟨x, _, e⟩ := cnF_ex (b := b) (w := w) (n := n) s; rw [e]; exact q1 _
  have q4 : ∀ s, (cnF b w n s).2.length = 16 := fun s => by obtain ⟨x, _, e⟩ := cnF_ex (b := b) (w := w) (n := n) s; rw [e]; exact q2 _
  have q10 := q1 0
  have q20 := q2 0
  refine impl_canonical_f.f ?_
  unfold vD
  dsimp only [impl_canonical_F, pcal_B, pcalp_B, pcala_B, pcond_B, pgk_B, JN_B, LP_B]
  (refine bni ?_; repeat (refine bnk ?_; (try simp (disch := first | omega | (simp only [LN]; omega)) only [↓EC, EW, seval, ↓reduceIte, ↓EBD, EBE])))
  refine pcd_v (c1 0 (by omega)) ?_
  (refine bni ?_; repeat (refine bnk ?_; (try simp (disch := first | omega | (simp only [LN]; omega)) only [↓EC, EW, seval, ↓reduceIte, ↓EBD, EBE])))
  refine pcd_v (c2 0 (by omega)) ?_
  (refine bni ?_; repeat (refine bnk ?_; (try simp (disch := first | omega | (simp only [LN]; omega)) only [↓EC, EW, seval, ↓reduceIte, ↓EBD, EBE])))
  refine LPx_of (σ := Nat) 100000 [(65, 27, 1), (66, 27, 1), (67, 27, 1)] (fun s => [.int .i64 (s + 1 : Nat)]) (fun s => [.int .i64 n :: vi .u8 (b ++ w), .int .i64 0 :: vi .u8 (List.replicate 32 0), .int .i64 n :: vi .u8 ((cnF b w n s).1 ++ (cnF b w n s).2)])
    (fun s => s < n.toNat) (fun s => n.toNat - s) 0 (by simp [frameOk, names, lpz, sclp, scv, scvs, nrfs, nrf, FRB]) (by show 0 < n.toNat; omega) ?_ ?_
  · (refine bni ?_; repeat (refine bnk ?_; simp (disch := first | omega | (simp only [LN]; omega)) only [↓EC, EW, seval, ↓reduceIte, ↓EBD, EBE, ColV_def]))
    rfl
  · intro s hs
    have q3s := q3 s
    have q4s := q4 s
    (refine bni ?_; repeat (refine bnk ?_; simp (disch := first | omega | (simp only [LN]; omega)) only [↓EC, EW, seval, ↓reduceIte, ↓EBD, EBE, ColV_def, lheap_def]))
    (refine Split.mkB (fun h => ?_) (fun h => ?_) <;> (try simp only [SD] at h))
    · refine JNx_un ?_
      (refine bni ?_; repeat (refine bnk ?_; (try simp (disch := first | omega | (simp only [LN]; omega)) only [↓EC, EW, seval, ↓reduceIte, ↓EBD, EBE])))
      refine pcd_v (c1 ((s + 1 : Nat) : Int) (by omega)) ?_
      (refine bni ?_; repeat (refine bnk ?_; (try simp (disch := first | omega | (simp only [LN]; omega)) only [↓EC, EW, seval, ↓reduceIte, ↓EBD, EBE])))
      refine pcd_v (c2 ((s + 1 : Nat) : Int) (by omega)) ?_
      have q5 := q1 ((s + 1 : Nat) : Int)
      have q6 := q2 ((s + 1 : Nat) : Int)
      have f1 := frm_dz hz (x := s + 1) (by omega)
      have l1 := f1.B.lo.ok
      have l2 := f1.W.lo.ok
      have l3 := (cnF_lo hz s hs).1.ok
      have l4 := (cnF_lo hz s hs).2.ok
      (refine bni ?_; repeat (refine bnk ?_; (try simp (disch := first | omega | (simp only [LN]; omega)) only [↓EC, EW, seval, ↓reduceIte, ↓EBD, EBE])))
      refine pcd_r (c_impl_compareDessins (n := n) (m := n) l1 l2 l3 l4) ?_
      rintro _ ⟨r, rfl, r1, r2⟩
      have e1 : cnF b w n (s + 1) = if ltD (frB b w n ((s + 1 : Nat) : Int), frW b w n ((s + 1 : Nat) : Int)) (cnF b w n s) = true then (frB b w n ((s + 1 : Nat) : Int), frW b w n ((s + 1 : Nat) : Int)) else cnF b w n s := rfl
      (refine bni ?_; repeat (refine bnk ?_; (try simp (disch := first | omega | (simp only [LN]; omega)) only [↓EC, EW, seval, ↓reduceIte, ↓EBD, EBE])))
      (refine Split.mkB (fun h => ?_) (fun h => ?_) <;> (try simp only [SD] at h))
      · (refine bni ?_; repeat (refine bnk ?_; (try simp (disch := first | omega | (simp only [LN]; omega)) only [↓EC, EW, seval, ↓reduceIte, ↓EBD, EBE])))
        have hlt : ltD (frB b w n ((s + 1 : Nat) : Int), frW b w n ((s + 1 : Nat) : Int)) (cnF b w n s) = true := r2.1 h
        rw [if_pos hlt] at e1
        exact ⟨s + 1, by simp, by rw [e1], by omega, by omega⟩
      · (refine bni ?_; repeat (refine bnk ?_; (try simp (disch := first | omega | (simp only [LN]; omega)) only [↓EC, EW, seval, ↓reduceIte, ↓EBD, EBE])))
        have hlt : ¬ ltD (frB b w n ((s + 1 : Nat) : Int), frW b w n ((s + 1 : Nat) : Int)) (cnF b w n s) = true := fun q => by have := r2.2 q; omega
        rw [if_neg hlt] at e1
        exact ⟨s + 1, by simp, by rw [e1], by omega, by omega⟩
    · obtain rfl : s = n.toNat - 1 := by omega
      (refine bni ?_; repeat (refine bnk ?_; (try simp (disch := first | omega | (simp only [LN]; omega)) only [↓EC, EW, seval, ↓reduceIte, ↓EBD, EBE])))
      rfl
theorem canD_len {n : Int} {b w : List Int} : (canD b w n).1.length = 16 ∧ (canD b w n).2.length = 16 := by
  obtain ⟨x, _, e⟩ := cnF_ex (b := b) (w := w) (n := n) (n.toNat - 1)
  unfold canD; rw [e]; exact frm_len
theorem can_dec {n : Int} {b w c x : List Int} (h : Dz n b w) (h' : Dz n c x) : ((canD b w n).1 ++ (canD b w n).2 = (canD c x n).1 ++ (canD c x n).2) ↔ Alk n b w c x := by
  rw [app_inj16 canD_len.1 canD_len.1, ← can_alk h h', Prod.ext_iff]
noncomputable def akB (n m : Int) (b w c x : List Int) : Bool := by classical exact decide (n = m ∧ Alk n b w c x)
noncomputable def akR (n m : Int) (b w c x : List Int) : Bool × Int := if isDB n b w = true ∧ isDB m c x = true then (akB n m b w c x, 0) else (false, 1)
theorem akB_dec {n : Int} {b w c x : List Int} (h : Dz n b w) (h' : Dz n c x) : decide ((canD b w n).1 ++ (canD b w n).2 = (canD c x n).1 ++ (canD c x n).2) = akB n n b w c x := by
  have h0 := can_dec h h'
  by_cases q : Alk n b w c x
  · have := h0.2 q; simp [akB, q, this]
  · have : ¬ _ := fun r => q (h0.1 r)
    simp only [akB, q, this, and_false, decide_false]
theorem akB_ne {n m : Int} {b w c x : List Int} (e : ¬ n = m) : akB n m b w c x = false := by
  unfold akB; rw [decide_eq_false_iff_not]; exact fun q => e q.1
theorem c_impl_AreAlike {n m : Int} {b w c x : List Int} (hb : okP b) (hw : okP w) (hc : okP c) (hx : okP x) : PSpec Try.prog 11 [vD n b w, vD m c x] fun v => v = .tup [.bool (akR n m b w c x).1, .int .i64 (akR n m b w c x).2] := by
  have h1 := hb.1
  have h2 := hw.1
  have h3 := hc.1
  have h4 := hx.1
  refine impl_AreAlike_f.f ?_
  unfold vD
  dsimp only [impl_AreAlike_F, pcal_B, pcalp_B, pcala_B, pcond_B, pgk_B, JN_B, LP_B]
  (refine bni ?_; repeat (refine bnk ?_; (try simp (disch := first | omega | (simp only [LN]; omega)) only [↓EC, EW, seval, ↓reduceIte, ↓EBD, EBE])))
  refine pcd_v (c_impl_IsDessin (n := n) hb hw) ?_
  cases hd : isDB n b w with
  | false => (refine bni ?_; repeat (refine bnk ?_; (try simp (disch := first | omega | (simp only [LN]; omega)) only [↓EC, EW, seval, ↓reduceIte, ↓EBD, EBE, akR, hd])))
  | true =>
    (refine bni ?_; repeat (refine bnk ?_; (try simp (disch := first | omega | (simp only [LN]; omega)) only [↓EC, EW, seval, ↓reduceIte, ↓EBD, EBE])))
    refine pcd_v (c_impl_IsDessin (n := m) hc hx) ?_
    cases he : isDB m c x with
    | false => (refine bni ?_; repeat (refine bnk ?_; (try simp (disch := first | omega | (simp only [LN]; omega)) only [↓EC, EW, seval, ↓reduceIte, ↓EBD, EBE, akR, hd, he])))
    | true =>
      (refine bni ?_; repeat (refine bnk ?_; (try simp (disch := first | omega | (simp only [LN]; omega)) only [↓EC, EW, seval, ↓reduceIte, ↓EBD, EBE])))
      have D := (isDB_iff.1 hd).dz hb hw
      have E := (isDB_iff.1 he).dz hc hx
      have k1 := c_impl_canonical D
      have k2 := c_impl_canonical E
      unfold vD at k1 k2
      by_cases e : n = m
      · subst e
        (refine bni ?_; repeat (refine bnk ?_; (try simp (disch := first | omega | (simp only [LN]; omega)) only [↓EC, EW, seval, ↓reduceIte, ↓EBD, EBE])))
        refine pcd_v k1 ?_
        (refine bni ?_; repeat (refine bnk ?_; (try simp (disch := first | omega | (simp only [LN]; omega)) only [↓EC, EW, seval, ↓reduceIte, ↓EBD, EBE])))
        refine pcd_v k2 ?_
        have l1 := canD_len (n := n) (b := b) (w := w)
        have l2 := canD_len (n := n) (b := c) (w := x)
        (refine bni ?_; repeat (refine bnk ?_; (try simp (disch := first | omega | (simp only [LN]; omega)) only [↓EC, EW, seval, ↓reduceIte, ↓EBD, EBE, akR, hd, he, vleq32 (l := (canD b w n).1 ++ (canD b w n).2) (m := (canD c x n).1 ++ (canD c x n).2) (by simp; omega) (by simp; omega), akB_dec D E])))
      · have e1 : (n == m) = false := by simpa using e
        (refine bni ?_; repeat (refine bnk ?_; (try simp (disch := first | omega | (simp only [LN]; omega)) only [↓EC, EW, seval, ↓reduceIte, ↓EBD, EBE, e1, akR, hd, he, akB_ne e])))
theorem c_spec_l07Alike {n m : Int} {b w c x : List Int} (hz : Dz n b w) (h' : Dz m c x) : PSpec Try.prog 40 [vD n b w, vD m c x] fun v => v = .bool (akB n m b w c x) := by
  have hb := hz.B.lo
  have hw := hz.W.lo
  have hc := h'.B.lo
  have hx := h'.W.lo
  have h1 := hb.1
  have h2 := hw.1
  have h3 := hc.1
  have h4 := hx.1
  have hn := hz.B.hn
  have hm := h'.B.hn
  have c1 : PSpec Try.prog 62 [.agg (.int .i64 n :: vi .u8 (b ++ w)), .int .i64 0] fun v => v = .agg (.int .i64 n :: vi .u8 (frB b w n 0 ++ frW b w n 0)) := c_spec_l07From hb hw hn (by omega)
  have c2 : ∀ y : Int, 0 ≤ y ∧ y < m → PSpec Try.prog 62 [.agg (.int .i64 m :: vi .u8 (c ++ x)), .int .i64 y] fun v => v = .agg (.int .i64 m :: vi .u8 (frB c x m y ++ frW c x m y)) := fun y hy => c_spec_l07From hc hx hm (by omega)
  have q1 : (frB b w n 0).length = 16 := rnT_len _
  have q2 : (frW b w n 0).length = 16 := rnT_len _
  have q3 : ∀ y, (frB c x m y).length = 16 := fun y => rnT_len _
  have q4 : ∀ y, (frW c x m y).length = 16 := fun y => rnT_len _
  refine spec_l07Alike_f.f ?_
  unfold vD
  dsimp only [spec_l07Alike_F, pcal_B, pcalp_B, pcala_B, pcond_B, pgk_B, JN_B, LP_B]
  (refine bni ?_; repeat (refine bnk ?_; (try simp (disch := first | omega | (simp only [LN]; omega)) only [↓EC, EW, seval, ↓reduceIte, ↓EBD, EBE])))
  by_cases e : n = m
  · subst e
    (refine bni ?_; repeat (refine bnk ?_; (try simp (disch := first | omega | (simp only [LN]; omega)) only [↓EC, EW, seval, ↓reduceIte, ↓EBD, EBE])))
    refine pcd_v c1 ?_
    (refine bni ?_; repeat (refine bnk ?_; (try simp (disch := first | omega | (simp only [LN]; omega)) only [↓EC, EW, seval, ↓reduceIte, ↓EBD, EBE])))
    refine LPx_of (σ := Nat) 100000 [(67, 27, 1), (69, 27, 1)] (fun s => [.int .i64 s]) (fun s => [.int .i64 n :: vi .u8 (c ++ x), .int .i64 n :: vi .u8 (frB b w n 0 ++ frW b w n 0)])
      (fun s => s ≤ n.toNat ∧ ∀ y : Nat, y < s → frm c x n y ≠ frm b w n 0) (fun s => n.toNat - s) 0 (by simp [frameOk, names, lpz, sclp, scv, scvs, nrfs, nrf, FRB]) ⟨Nat.zero_le _, fun y hy => absurd hy (Nat.not_lt_zero y)⟩ ?_ ?_
    · (refine bni ?_; repeat (refine bnk ?_; simp (disch := first | omega | (simp only [LN]; omega)) only [↓EC, EW, seval, ↓reduceIte, ↓EBD, EBE, ColV_def]))
    · rintro s ⟨s1, s2⟩
      (refine bni ?_; repeat (refine bnk ?_; simp (disch := first | omega | (simp only [LN]; omega)) only [↓EC, EW, seval, ↓reduceIte, ↓EBD, EBE, ColV_def, lheap_def]))
      (refine Split.mkB (fun h => ?_) (fun h => ?_) <;> (try simp only [SD] at h))
      · (refine bni ?_; repeat (refine bnk ?_; (try simp (disch := first | omega | (simp only [LN]; omega)) only [↓EC, EW, seval, ↓reduceIte, ↓EBD, EBE])))
        refine pcd_v (c2 s (by omega)) ?_
        have q5 := q3 s
        have q6 := q4 s
        (refine bni ?_; repeat (refine bnk ?_; (try simp (disch := first | omega | (simp only [LN]; omega)) only [↓EC, EW, seval, ↓reduceIte, ↓EBD, EBE, vleq32 (l := frB c x n s ++ frW c x n s) (m := frB b w n 0 ++ frW b w n 0) (by simp; omega) (by simp; omega)])))
        (refine Split.mkB (fun h => ?_) (fun h => ?_) <;> (try simp only [SD] at h))
        · (refine bni ?_; repeat (refine bnk ?_; (try simp (disch := first | omega | (simp only [LN]; omega)) only [↓EC, EW, seval, ↓reduceIte, ↓EBD, EBE])))
          rw [app_inj16 q5 q1] at h
          have : Alk n b w c x := (frm0_alk hz h').1 ⟨s, by omega, Prod.ext h.1 h.2⟩
          unfold akB; simp [this]
        · (refine bni ?_; repeat (refine bnk ?_; (try simp (disch := first | omega | (simp only [LN]; omega)) only [↓EC, EW, seval, ↓reduceIte, ↓EBD, EBE])))
          refine ⟨s + 1, by simp, ⟨by omega, fun y hy q => ?_⟩, by omega⟩
          by_cases hys : y = s
          · subst hys
            rw [app_inj16 q5 q1] at h
            exact h ⟨congrArg Prod.fst q, congrArg Prod.snd q⟩
          · exact s2 y (by omega) q
      · (refine bni ?_; repeat (refine bnk ?_; (try simp (disch := first | omega | (simp only [LN]; omega)) only [↓EC, EW, seval, ↓reduceIte, ↓EBD, EBE])))
        have : ¬ Alk n b w c x := fun q => by
          obtain ⟨y, hy, e⟩ := (frm0_alk hz h').2 q
          exact s2 y (by omega) e
        unfold akB; simp [this]
  · have e1 : (n == m) = false := by simpa using e
    have e2 : (n != m) = true := by simpa using e
    (refine bni ?_; repeat (refine bnk ?_; (try simp (disch := first | omega | (simp only [LN]; omega)) only [↓EC, EW, seval, ↓reduceIte, ↓EBD, EBE, e1, e2, akB_ne e])))
theorem c_spec_AreAlike {n m : Int} {b w c x : List Int} (hb : okP b) (hw : okP w) (hc : okP c) (hx : okP x) : PSpec Try.prog 17 [vD n b w, vD m c x] fun v => v = .tup [.bool (akR n m b w c x).1, .int .i64 (akR n m b w c x).2] := by
  have h1 := hb.1
  have h2 := hw.1
  have h3 := hc.1
  have h4 := hx.1
  refine spec_AreAlike_f.f ?_
  unfold vD
  dsimp only [spec_AreAlike_F, pcal_B, pcalp_B, pcala_B, pcond_B, pgk_B, JN_B, LP_B]
  (refine bni ?_; repeat (refine bnk ?_; (try simp (disch := first | omega | (simp only [LN]; omega)) only [↓EC, EW, seval, ↓reduceIte, ↓EBD, EBE])))
  refine pcd_v (c_spec_l01Is (n := n) hb hw) ?_
  cases hd : isDB n b w with
  | false => (refine bni ?_; repeat (refine bnk ?_; (try simp (disch := first | omega | (simp only [LN]; omega)) only [↓EC, EW, seval, ↓reduceIte, ↓EBD, EBE, akR, hd])))
  | true =>
    (refine bni ?_; repeat (refine bnk ?_; (try simp (disch := first | omega | (simp only [LN]; omega)) only [↓EC, EW, seval, ↓reduceIte, ↓EBD, EBE])))
    refine pcd_v (c_spec_l01Is (n := m) hc hx) ?_
    cases he : isDB m c x with
    | false => (refine bni ?_; repeat (refine bnk ?_; (try simp (disch := first | omega | (simp only [LN]; omega)) only [↓EC, EW, seval, ↓reduceIte, ↓EBD, EBE, akR, hd, he])))
    | true =>
      have D := (isDB_iff.1 hd).dz hb hw
      have E := (isDB_iff.1 he).dz hc hx
      (refine bni ?_; repeat (refine bnk ?_; (try simp (disch := first | omega | (simp only [LN]; omega)) only [↓EC, EW, seval, ↓reduceIte, ↓EBD, EBE])))
      refine pcd_v (c_spec_l07Alike D E) ?_
      (refine bni ?_; repeat (refine bnk ?_; (try simp (disch := first | omega | (simp only [LN]; omega)) only [↓EC, EW, seval, ↓reduceIte, ↓EBD, EBE, akR, hd, he])))
end
section
set_option maxHeartbeats 4000000
theorem c_ReverseS {l : List Int} {n : Nat} (hn : l.length = n) (hl : n ≤ 1000) : PSpecM Try.prog 77 [.rf 0 0 n] [(0, 2, 1)] [vi .i64 l] fun v c => v = .tup [] ∧ c = [vi .i64 l.reverse] := by
  refine slices_Reverse_int64_int64_i_f.m rfl rfl ?_
  dsimp only [slices_Reverse_int64_int64_i_F, pcal_B, pcalp_B, pcala_B, pcond_B, pgk_B, JN_B, LP_B]
  (refine bni ?_; repeat (refine bnk ?_; (try simp (disch := first | omega | (simp only [LN]; omega)) only [↓EC, EW, seval, ↓reduceIte, ↓EBD, EBE])))
  refine LPx_of (σ := List Int × Nat) 100000 [(0, 2, 1)] (fun s => [.int .i64 s.2, .int .i64 ((n : Int) - 1 - s.2)]) (fun s => [vi .i64 s.1])
    (fun s => s.1.length = n ∧ 2 * s.2 ≤ n + 1 ∧ ∀ t, t < n → gi s.1 t = if t < s.2 ∨ n ≤ t + s.2 then gi l (n - 1 - t) else gi l t) (fun s => n - s.2) (l, 0) (by simp [frameOk, names, lpz, sclp, scv, scvs, nrfs, nrf, FRB]) ⟨hn, by simp only; omega, fun t ht => by rw [if_neg (by simp only; omega)]⟩ ?_ ?_
  · (refine bni ?_; repeat (refine bnk ?_; simp (disch := first | omega | (simp only [LN]; omega)) only [↓EC, EW, seval, ↓reduceIte, ↓EBD, EBE, ColV_def]))
    simp
  · rintro ⟨m, i⟩ ⟨h1, h2, h3⟩
    simp only at h1 h2 h3
    (refine bni ?_; repeat (refine bnk ?_; simp (disch := first | omega | (simp only [LN]; omega)) only [↓EC, EW, seval, ↓reduceIte, ↓EBD, EBE, ColV_def, lheap_def]))
    (refine Split.mkB (fun h => ?_) (fun h => ?_) <;> (try simp only [SD] at h))
    · have e1 : ((n : Int) - 1 - i).toNat = n - 1 - i := by omega
      (refine bni ?_; repeat (refine bnk ?_; (try simp (disch := first | omega | (simp only [LN]; omega)) only [↓EC, EW, seval, ↓reduceIte, ↓EBD, EBE, e1])))
      refine ⟨(_, i + 1), by simp; omega, rfl, ⟨by simp [h1], by simp only; omega, fun t ht => ?_⟩, by simp only; omega⟩
      simp only
      rw [gi_set, gi_set, List.length_set, h1]
      by_cases ta : n - 1 - i = t
      · rw [if_pos ⟨ta, ht⟩, if_pos (by omega), h3 i (by omega), if_neg (by omega)]
        congr 1; omega
      · rw [if_neg fun q => ta q.1]
        by_cases tb : i = t
        · rw [if_pos ⟨tb, ht⟩, if_pos (by omega), h3 (n - 1 - i) (by omega), if_neg (by omega)]
          congr 1; omega
        · rw [if_neg fun q => tb q.1, h3 t ht]
          by_cases tc : t < i ∨ n ≤ t + i
          · rw [if_pos tc, if_pos (by omega)]
          · rw [if_neg tc, if_neg (by omega)]
    · (refine bni ?_; repeat (refine bnk ?_; (try simp (disch := first | omega | (simp only [LN]; omega)) only [↓EC, EW, seval, ↓reduceIte, ↓EBD, EBE])))
      have : m = l.reverse := by
        refine gi_ext (by simp [h1, hn]) fun t ht => ?_
        have hr : gi l.reverse t = gi l (n - 1 - t) := by
          rw [gi_of (show t < l.reverse.length by simp; omega), List.getElem_reverse, gi_of (show n - 1 - t < l.length by omega)]
          congr 1; omega
        rw [hr, h3 t (by omega)]
        split
        · rfl
        · congr 1; omega
      rw [this]
theorem c_descendingS {l : List Int} {n : Nat} (hn : l.length = n) (hl : n ≤ 16) : PSpecMR Try.prog 71 [.rf 0 0 n] [(0, 2, 1)] [vi .i64 l] fun j o k c => j = 0 ∧ o = 0 ∧ k = n ∧ c = [vi .i64 (dsc l)] := by
  refine impl_descending_f.mr rfl rfl ?_
  dsimp only [impl_descending_F, pcal_B, pcalp_B, pcala_B, pcond_B, pgk_B, JN_B, LP_B]
  (refine bni ?_; repeat (refine bnk ?_; (try simp (disch := first | omega | (simp only [LN]; omega)) only [↓EC, EW, seval, ↓reduceIte, ↓EBD, EBE])))
  refine pcm [0] rfl ?_; (refine bni ?_; repeat (refine bnk ?_; (try simp (disch := first | omega | (simp only [LN]; omega)) only [↓EC, EW, seval, ↓reduceIte, ↓EBD, EBE])))
  refine callM_d (c_SortS hn hl) ?_
  rintro _ _ ⟨rfl, m, rfl, hm, hs⟩
  have hml : m.length = n := by rw [hm.len, hn]
  (refine bni ?_; repeat (refine bnk ?_; (try simp (disch := first | omega | (simp only [LN]; omega)) only [↓EC, EW, seval, ↓reduceIte, ↓EBD, EBE])))
  refine pcm [0] rfl ?_; (refine bni ?_; repeat (refine bnk ?_; (try simp (disch := first | omega | (simp only [LN]; omega)) only [↓EC, EW, seval, ↓reduceIte, ↓EBD, EBE])))
  refine callM_d (c_ReverseS hml (by omega)) ?_
  rintro _ _ ⟨rfl, rfl⟩
  have e := dsc_of hn hm hs
  have hel : (dsc l).length = n := by rw [dsc_len, hn]
  (refine bni ?_; repeat (refine bnk ?_; (try simp (disch := first | omega | (simp only [LN]; omega)) only [↓EC, EW, seval, ↓reduceIte, ↓EBD, EBE, e])))
  exact ⟨rfl, trivial⟩
theorem lnT_all {A : List (List Int)} : ∀ s, s ≤ A.length → lnT A s = (A.take s).map fun l => (l.length : Int)
  | 0, _ => rfl
  | s + 1, h => by
    simp only [lnT]
    rw [lnT_all s (by omega), List.take_succ_eq_append_getElem (show s < A.length by omega), List.map_append, gl_of (show s < A.length by omega)]; rfl
theorem lnT_lens {p : List Int} {n : Int} : lnT (cyc p n) (cyc p n).length = lens p n := by
  rw [lnT_all _ (Nat.le_refl _), List.take_length]; rfl
theorem c_impl_typeOfS {p : List Int} {n : Int} (hp : lo16 p) (hn : 1 ≤ n ∧ n ≤ 16) : PSpec Try.prog 61 [.agg (vi .u8 p), .int .i64 n] fun v => v = .own 2 1 (typ p n).length (vi .i64 (typ p n)) := by
  have hpl := hp.1
  have hcl : (cyc p n).length ≤ 16 := by have := (cycO_len (p := p) n.toNat).2; unfold cyc; omega
  have htl := typ_len (p := p) (n := n)
  have hty : typ p n = dsc (lnT (cyc p n) (cyc p n).length) := by rw [lnT_lens]; rfl
  refine impl_typeOf_f.f ?_
  dsimp only [impl_typeOf_F, pcal_B, pcalp_B, pcala_B, pcond_B, pgk_B, JN_B, LP_B]
  (refine bni ?_; repeat (refine bnk ?_; (try simp (disch := first | omega | (simp only [LN]; omega)) only [↓EC, EW, seval, ↓reduceIte, ↓EBD, EBE])))
  refine pcd_v (c_impl_cycles hp hn) ?_
  (refine bni ?_; repeat (refine bnk ?_; (try simp (disch := first | omega | (simp only [LN]; omega)) only [↓EC, EW, seval, ↓reduceIte, ↓EBD, EBE])))
  generalize cyc p n = A at *
  refine LPx_ofE (σ := Nat) [1, 1] 100000 [] (fun s => [.own 2 1 s (vi .i64 (lnT A s)), .int .i64 s]) (fun s => []) (fun s => s ≤ A.length) (fun s => A.length - s) 0 (by simp [frameOk, names, lpz, sclp, scv, scvs, nrfs, nrf, FRB]) (Nat.zero_le _) ?_ ?_
  · (refine bni ?_; repeat (refine bnk ?_; simp (disch := first | omega | (simp only [LN]; omega)) only [↓EC, EW, seval, ↓reduceIte, ↓EBD, EBE, ColV_def]))
    exact ⟨fun _ => trivial, rfl⟩
  · intro s hs
    have hls := lnT_len (A := A) s
    (refine bni ?_; repeat (refine bnk ?_; simp (disch := first | omega | (simp only [LN]; omega)) only [↓EC, EW, seval, ↓reduceIte, ↓EBD, EBE, ColV_def, lheap_def]))
    (refine Split.mkB (fun h => ?_) (fun h => ?_) <;> (try simp only [SD] at h))
    · (refine bni ?_; repeat (refine bnk ?_; (try simp (disch := first | omega | (simp only [LN]; omega)) only [↓EC, EW, seval, ↓reduceIte, ↓EBD, EBE])))
      exact ⟨s + 1, rfl, by omega, by omega⟩
    · obtain rfl : s = A.length := by omega
      (refine bni ?_; repeat (refine bnk ?_; (try simp (disch := first | omega | (simp only [LN]; omega)) only [↓EC, EW, seval, ↓reduceIte, ↓EBD, EBE])))
      refine pcmr [100000] rfl ?_
      (refine bni ?_; repeat (refine bnk ?_; (try simp (disch := first | omega | (simp only [LN]; omega)) only [↓EC, EW, seval, ↓reduceIte, ↓EBD, EBE])))
      refine callMR_qs (c_descendingS hls (by omega)) ?_
      rintro j o k c ⟨rfl, rfl, rfl, rfl⟩ b hb
      simp at hb
      subst hb
      have hdl : (dsc (lnT A A.length)).length = A.length := by rw [dsc_len, hls]
      (refine bni ?_; repeat (refine bnk ?_; (try simp (disch := first | omega | (simp only [LN]; omega)) only [↓EC, EW, seval, ↓reduceIte, ↓EBD, EBE])))
      rw [hty, hdl]
def ppL (n : Int) (b w : List Int) : List (List Int) := [typ b n, typ w n, typ (faceP b w n) n]
theorem c_impl_passportS {n : Int} {b w : List Int} (hb : lo16 b) (hw : lo16 w) (hn : 1 ≤ n ∧ n ≤ 16) : PSpec Try.prog 41 [vD n b w] fun v => v = .own 63 1 3 (vo 2 (ppL n b w)) := by
  have hbl := hb.1
  have hwl := hw.1
  have hfl : lo16 (faceP b w n) := backP_lo hn
  have hfl2 := hfl.1
  refine impl_passport_f.f ?_
  unfold vD
  dsimp only [impl_passport_F, pcal_B, pcalp_B, pcala_B, pcond_B, pgk_B, JN_B, LP_B]
  (refine bni ?_; repeat (refine bnk ?_; (try simp (disch := first | omega | (simp only [LN]; omega)) only [↓EC, EW, seval, ↓reduceIte, ↓EBD, EBE])))
  refine pcd_rq (c_impl_typeOfS (p := b) hb hn) ?_
  rintro _ rfl
  (refine bni ?_; repeat (refine bnk ?_; (try simp (disch := first | omega | (simp only [LN]; omega)) only [↓EC, EW, seval, ↓reduceIte, ↓EBD, EBE])))
  refine pcd_rq (c_impl_typeOfS (p := w) hw hn) ?_
  rintro _ rfl
  (refine bni ?_; repeat (refine bnk ?_; (try simp (disch := first | omega | (simp only [LN]; omega)) only [↓EC, EW, seval, ↓reduceIte, ↓EBD, EBE])))
  refine pcd_v (c_impl_face hb hw hn) ?_
  (refine bni ?_; repeat (refine bnk ?_; (try simp (disch := first | omega | (simp only [LN]; omega)) only [↓EC, EW, seval, ↓reduceIte, ↓EBD, EBE])))
  refine pcd_rq (c_impl_typeOfS hfl hn) ?_
  rintro _ rfl
  (refine bni ?_; repeat (refine bnk ?_; (try simp (disch := first | omega | (simp only [LN]; omega)) only [↓EC, EW, seval, ↓reduceIte, ↓EBD, EBE])))
  rfl
theorem c_impl_PassportOf {n : Int} {b w : List Int} (hb : okP b) (hw : okP w) (hd : isDB n b w = true) : PSpec Try.prog 18 [vD n b w] fun v => v = .tup [.own 63 1 3 (vo 2 (ppL n b w)), .int .i64 0] := by
  have hbl := hb.1
  have hwl := hw.1
  have D := isDB_iff.1 hd
  refine impl_PassportOf_f.f ?_
  unfold vD
  dsimp only [impl_PassportOf_F, pcal_B, pcalp_B, pcala_B, pcond_B, pgk_B, JN_B, LP_B]
  (refine bni ?_; repeat (refine bnk ?_; (try simp (disch := first | omega | (simp only [LN]; omega)) only [↓EC, EW, seval, ↓reduceIte, ↓EBD, EBE])))
  refine pcd_v (c_impl_IsDessin (n := n) hb hw) ?_
  (refine bni ?_; repeat (refine bnk ?_; (try simp (disch := first | omega | (simp only [LN]; omega)) only [↓EC, EW, seval, ↓reduceIte, ↓EBD, EBE, hd])))
  refine pcd_rq (c_impl_passportS (n := n) (D.pb.lo hb) (D.pw.lo hw) D.pb.1) ?_
  rintro _ rfl
  (refine bni ?_; repeat (refine bnk ?_; (try simp (disch := first | omega | (simp only [LN]; omega)) only [↓EC, EW, seval, ↓reduceIte, ↓EBD, EBE])))
  exact ⟨Nat.le_refl _, rfl⟩
def clB (n : Int) (w : List Int) : Bool := (typ w n).all fun a => a == 2
noncomputable def clR (n : Int) (b w : List Int) : Bool × Int := if isDB n b w = true then (clB n w, 0) else (false, 1)
theorem Pd.clB {p : List Int} {n : Int} (h : Pd p n) : clB n p = true ↔ ∀ x, x < n.toNat → fp p x ≠ x ∧ fp p (fp p x) = x := by
  rw [← h.pairs]; simp [Sep.clB]
theorem c_impl_isClean {n : Int} {b w : List Int} (hb : lo16 b) (hw : lo16 w) (hn : 1 ≤ n ∧ n ≤ 16) : PSpec Try.prog 35 [vD n b w] fun v => v = .bool (clB n w) := by
  have hbl := hb.1
  have hwl := hw.1
  have htl := typ_len (p := w) (n := n)
  have hcl : (cyc w n).length ≤ 16 := by have := (cycO_len (p := w) n.toNat).2; unfold cyc; omega
  refine impl_isClean_f.f ?_
  unfold vD
  dsimp only [impl_isClean_F, pcal_B, pcalp_B, pcala_B, pcond_B, pgk_B, JN_B, LP_B]
  (refine bni ?_; repeat (refine bnk ?_; (try simp (disch := first | omega | (simp only [LN]; omega)) only [↓EC, EW, seval, ↓reduceIte, ↓EBD, EBE])))
  refine pcd_v (c_impl_typeOfS hw hn) ?_
  (refine bni ?_; repeat (refine bnk ?_; (try simp (disch := first | omega | (simp only [LN]; omega)) only [↓EC, EW, seval, ↓reduceIte, ↓EBD, EBE])))
  refine LPx_of (σ := Nat) 100000 [] (fun s => [.int .i64 s]) (fun s => []) (fun s => s ≤ (typ w n).length ∧ ∀ j, j < s → gi (typ w n) j = 2) (fun s => (typ w n).length - s) 0 (by simp [frameOk, names, lpz, sclp, scv, scvs, nrfs, nrf, FRB]) ⟨Nat.zero_le _, fun j hj => absurd hj (Nat.not_lt_zero j)⟩ ?_ ?_
  · (refine bni ?_; repeat (refine bnk ?_; simp (disch := first | omega | (simp only [LN]; omega)) only [↓EC, EW, seval, ↓reduceIte, ↓EBD, EBE, ColV_def]))
  · rintro s ⟨h1, h2⟩
    (refine bni ?_; repeat (refine bnk ?_; simp (disch := first | omega | (simp only [LN]; omega)) only [↓EC, EW, seval, ↓reduceIte, ↓EBD, EBE, ColV_def, lheap_def]))
    (refine Split.mkB (fun h => ?_) (fun h => ?_) <;> (try simp only [SD] at h))
    · (refine bni ?_; repeat (refine bnk ?_; (try simp (disch := first | omega | (simp only [LN]; omega)) only [↓EC, EW, seval, ↓reduceIte, ↓EBD, EBE])))
      (refine Split.mkB (fun h => ?_) (fun h => ?_) <;> (try simp only [SD] at h))
      · (refine bni ?_; repeat (refine bnk ?_; (try simp (disch := first | omega | (simp only [LN]; omega)) only [↓EC, EW, seval, ↓reduceIte, ↓EBD, EBE])))
        have : clB n w = false := by
          cases hc : clB n w with
          | false => rfl
          | true =>
            have hs : s < (typ w n).length := by omega
            have := (List.all_eq_true.1 hc) (gi (typ w n) s) (by rw [gi_of hs]; exact List.getElem_mem hs)
            exact absurd (by simpa using this) h
        rw [this]
      · (refine bni ?_; repeat (refine bnk ?_; (try simp (disch := first | omega | (simp only [LN]; omega)) only [↓EC, EW, seval, ↓reduceIte, ↓EBD, EBE])))
        refine ⟨s + 1, by simp, ⟨by omega, fun j hj => ?_⟩, by omega⟩
        by_cases e : j = s
        · subst e; exact h
        · exact h2 j (by omega)
    · (refine bni ?_; repeat (refine bnk ?_; (try simp (disch := first | omega | (simp only [LN]; omega)) only [↓EC, EW, seval, ↓reduceIte, ↓EBD, EBE])))
      have : clB n w = true := List.all_eq_true.2 fun a ha => by
        obtain ⟨j, hj, rfl⟩ := List.getElem_of_mem ha
        have := h2 j (by omega)
        rw [gi_of hj] at this
        simpa using this
      rw [this]
theorem c_impl_IsClean {n : Int} {b w : List Int} (hb : okP b) (hw : okP w) : PSpec Try.prog 15 [vD n b w] fun v => v = .tup [.bool (clR n b w).1, .int .i64 (clR n b w).2] := by
  have hbl := hb.1
  have hwl := hw.1
  refine impl_IsClean_f.f ?_
  unfold vD
  dsimp only [impl_IsClean_F, pcal_B, pcalp_B, pcala_B, pcond_B, pgk_B, JN_B, LP_B]
  (refine bni ?_; repeat (refine bnk ?_; (try simp (disch := first | omega | (simp only [LN]; omega)) only [↓EC, EW, seval, ↓reduceIte, ↓EBD, EBE])))
  refine pcd_v (c_impl_IsDessin (n := n) hb hw) ?_
  cases hd : isDB n b w with
  | false => (refine bni ?_; repeat (refine bnk ?_; (try simp (disch := first | omega | (simp only [LN]; omega)) only [↓EC, EW, seval, ↓reduceIte, ↓EBD, EBE, clR, hd])))
  | true =>
    have D := isDB_iff.1 hd
    (refine bni ?_; repeat (refine bnk ?_; (try simp (disch := first | omega | (simp only [LN]; omega)) only [↓EC, EW, seval, ↓reduceIte, ↓EBD, EBE])))
    refine pcd_v (c_impl_isClean (n := n) (D.pb.lo hb) (D.pw.lo hw) D.pb.1) ?_
    (refine bni ?_; repeat (refine bnk ?_; (try simp (disch := first | omega | (simp only [LN]; omega)) only [↓EC, EW, seval, ↓reduceIte, ↓EBD, EBE, clR, hd])))
theorem c_spec_l07Clean {n : Int} {b w : List Int} (hz : Dz n b w) : PSpec Try.prog 46 [vD n b w] fun v => v = .bool (clB n w) := by
  have hb := hz.B.lo
  have hw := hz.W.lo
  have hbl := hb.1
  have hwl := hw.1
  have hn := hz.B.hn
  refine spec_l07Clean_f.f ?_
  unfold vD
  dsimp only [spec_l07Clean_F, pcal_B, pcalp_B, pcala_B, pcond_B, pgk_B, JN_B, LP_B]
  (refine bni ?_; repeat (refine bnk ?_; (try simp (disch := first | omega | (simp only [LN]; omega)) only [↓EC, EW, seval, ↓reduceIte, ↓EBD, EBE])))
  refine LPx_of (σ := Nat) 100000 [(65, 27, 1)] (fun s => [.int .i64 s]) (fun s => [.int .i64 n :: vi .u8 (b ++ w)]) (fun s => s ≤ n.toNat ∧ ∀ j, j < s → fp w j ≠ j ∧ fp w (fp w j) = j) (fun s => n.toNat - s) 0 (by simp [frameOk, names, lpz, sclp, scv, scvs, nrfs, nrf, FRB]) ⟨Nat.zero_le _, fun j hj => absurd hj (Nat.not_lt_zero j)⟩ ?_ ?_
  · (refine bni ?_; repeat (refine bnk ?_; simp (disch := first | omega | (simp only [LN]; omega)) only [↓EC, EW, seval, ↓reduceIte, ↓EBD, EBE, ColV_def]))
  · rintro s ⟨h1, h2⟩
    (refine bni ?_; repeat (refine bnk ?_; simp (disch := first | omega | (simp only [LN]; omega)) only [↓EC, EW, seval, ↓reduceIte, ↓EBD, EBE, ColV_def, lheap_def]))
    (refine Split.mkB (fun h => ?_) (fun h => ?_) <;> (try simp only [SD] at h))
    · have hs : s < n.toNat := by omega
      have a1 := hw.2 s (by omega)
      have a2 := hw.2 (gi w s).toNat (by omega)
      have e1 := fp_nn hw s
      have e2 := fp_nn hw (gi w s).toNat
      have no : ¬ (fp w s ≠ s ∧ fp w (fp w s) = s) → clB n w = false := fun q => by
        cases hc : clB n w with
        | false => rfl
        | true => exact absurd (hz.W.clB.1 hc s hs) q
      have e3 : gi w (16 + s - b.length) = gi w s := by congr 1; omega
      have e4 : gi w (16 + (gi w s).toNat - b.length) = gi w (gi w s).toNat := by congr 1; omega
      (refine bni ?_; repeat (refine bnk ?_; (try simp (disch := first | omega | (simp only [LN]; omega)) only [↓EC, EW, seval, ↓reduceIte, ↓EBD, EBE, e3])))
      (refine Split.mkB (fun h => ?_) (fun h => ?_) <;> (try simp only [SD] at h))
      · (refine bni ?_; repeat (refine bnk ?_; (try simp (disch := first | omega | (simp only [LN]; omega)) only [↓EC, EW, seval, ↓reduceIte, ↓EBD, EBE, e3])))
        rw [no fun q => q.1 (by omega)]
      · (refine bni ?_; repeat (refine bnk ?_; (try simp (disch := first | omega | (simp only [LN]; omega)) only [↓EC, EW, seval, ↓reduceIte, ↓EBD, EBE, e3, e4])))
        (refine Split.mkB (fun h => ?_) (fun h => ?_) <;> (try simp only [SD] at h))
        · (refine bni ?_; repeat (refine bnk ?_; (try simp (disch := first | omega | (simp only [LN]; omega)) only [↓EC, EW, seval, ↓reduceIte, ↓EBD, EBE])))
          rw [no fun q => by have := q.2; unfold fp at *; omega]
        · (refine bni ?_; repeat (refine bnk ?_; (try simp (disch := first | omega | (simp only [LN]; omega)) only [↓EC, EW, seval, ↓reduceIte, ↓EBD, EBE])))
          refine ⟨s + 1, by simp, ⟨by omega, fun j hj => ?_⟩, by omega⟩
          by_cases e : j = s
          · subst e; unfold fp at *; omega
          · exact h2 j (by omega)
    · (refine bni ?_; repeat (refine bnk ?_; (try simp (disch := first | omega | (simp only [LN]; omega)) only [↓EC, EW, seval, ↓reduceIte, ↓EBD, EBE])))
      have : clB n w = true := hz.W.clB.2 fun x hx => h2 x (by omega)
      rw [this]
theorem c_spec_IsClean {n : Int} {b w : List Int} (hb : okP b) (hw : okP w) : PSpec Try.prog 23 [vD n b w] fun v => v = .tup [.bool (clR n b w).1, .int .i64 (clR n b w).2] := by
  have hbl := hb.1
  have hwl := hw.1
  refine spec_IsClean_f.f ?_
  unfold vD
  dsimp only [spec_IsClean_F, pcal_B, pcalp_B, pcala_B, pcond_B, pgk_B, JN_B, LP_B]
  (refine bni ?_; repeat (refine bnk ?_; (try simp (disch := first | omega | (simp only [LN]; omega)) only [↓EC, EW, seval, ↓reduceIte, ↓EBD, EBE])))
  refine pcd_v (c_spec_l01Is (n := n) hb hw) ?_
  cases hd : isDB n b w with
  | false => (refine bni ?_; repeat (refine bnk ?_; (try simp (disch := first | omega | (simp only [LN]; omega)) only [↓EC, EW, seval, ↓reduceIte, ↓EBD, EBE, clR, hd])))
  | true =>
    have D := (isDB_iff.1 hd).dz hb hw
    (refine bni ?_; repeat (refine bnk ?_; (try simp (disch := first | omega | (simp only [LN]; omega)) only [↓EC, EW, seval, ↓reduceIte, ↓EBD, EBE])))
    refine pcd_v (c_spec_l07Clean D) ?_
    (refine bni ?_; repeat (refine bnk ?_; (try simp (disch := first | omega | (simp only [LN]; omega)) only [↓EC, EW, seval, ↓reduceIte, ↓EBD, EBE, clR, hd])))
theorem c_impl_mirror {n : Int} {b w : List Int} (hb : lo16 b) (hw : lo16 w) (hn : 1 ≤ n ∧ n ≤ 16) : PSpec Try.prog 33 [vD n b w] fun v => v = vD n (backP b n) (backP w n) := by
  have hbl := hb.1
  have hwl := hw.1
  have q1 := (backP_lo (p := b) hn).1
  have q2 := (backP_lo (p := w) hn).1
  have k1 : PSpec Try.prog 51 [.agg (vi .u8 b), .int .i64 n] fun v => v = .agg (vi .u8 (backP b n)) := c_impl_back hb hn
  have k2 : PSpec Try.prog 51 [.agg (vi .u8 w), .int .i64 n] fun v => v = .agg (vi .u8 (backP w n)) := c_impl_back hw hn
  refine impl_mirror_f.f ?_
  unfold vD
  dsimp only [impl_mirror_F, pcal_B, pcalp_B, pcala_B, pcond_B, pgk_B, JN_B, LP_B]
  (refine bni ?_; repeat (refine bnk ?_; (try simp (disch := first | omega | (simp only [LN]; omega)) only [↓EC, EW, seval, ↓reduceIte, ↓EBD, EBE])))
  refine pcd_v k1 ?_
  (refine bni ?_; repeat (refine bnk ?_; (try simp (disch := first | omega | (simp only [LN]; omega)) only [↓EC, EW, seval, ↓reduceIte, ↓EBD, EBE])))
  refine pcd_v k2 ?_
  (refine bni ?_; repeat (refine bnk ?_; (try simp (disch := first | omega | (simp only [LN]; omega)) only [↓EC, EW, seval, ↓reduceIte, ↓EBD, EBE])))
theorem c_spec_l07Mirror {n : Int} {b w : List Int} (hb : lo16 b) (hw : lo16 w) (hn : 1 ≤ n ∧ n ≤ 16) : PSpec Try.prog 44 [vD n b w] fun v => v = vD n (backP b n) (backP w n) := by
  have hbl := hb.1
  have hwl := hw.1
  have q1 := (backP_lo (p := b) hn).1
  have q2 := (backP_lo (p := w) hn).1
  have k1 : PSpec Try.prog 55 [.agg (vi .u8 b), .int .i64 n] fun v => v = .agg (vi .u8 (backP b n)) := c_spec_l01Back hb hn
  have k2 : PSpec Try.prog 55 [.agg (vi .u8 w), .int .i64 n] fun v => v = .agg (vi .u8 (backP w n)) := c_spec_l01Back hw hn
  refine spec_l07Mirror_f.f ?_
  unfold vD
  dsimp only [spec_l07Mirror_F, pcal_B, pcalp_B, pcala_B, pcond_B, pgk_B, JN_B, LP_B]
  (refine bni ?_; repeat (refine bnk ?_; (try simp (disch := first | omega | (simp only [LN]; omega)) only [↓EC, EW, seval, ↓reduceIte, ↓EBD, EBE])))
  refine pcd_v k1 ?_
  (refine bni ?_; repeat (refine bnk ?_; (try simp (disch := first | omega | (simp only [LN]; omega)) only [↓EC, EW, seval, ↓reduceIte, ↓EBD, EBE])))
  refine pcd_v k2 ?_
  (refine bni ?_; repeat (refine bnk ?_; (try simp (disch := first | omega | (simp only [LN]; omega)) only [↓EC, EW, seval, ↓reduceIte, ↓EBD, EBE])))
theorem c_impl_MirrorOf {n : Int} {b w : List Int} (hb : okP b) (hw : okP w) (hd : isDB n b w = true) : PSpec Try.prog 9 [vD n b w] fun v => v = .tup [vD n (backP b n) (backP w n), .int .i64 0] := by
  have hbl := hb.1
  have hwl := hw.1
  have D := isDB_iff.1 hd
  have hn := D.pb.1
  have q1 := (backP_lo (p := b) hn).1
  have q2 := (backP_lo (p := w) hn).1
  have k := c_impl_mirror (n := n) (D.pb.lo hb) (D.pw.lo hw) hn
  refine impl_MirrorOf_f.f ?_
  unfold vD at *
  dsimp only [impl_MirrorOf_F, pcal_B, pcalp_B, pcala_B, pcond_B, pgk_B, JN_B, LP_B]
  (refine bni ?_; repeat (refine bnk ?_; (try simp (disch := first | omega | (simp only [LN]; omega)) only [↓EC, EW, seval, ↓reduceIte, ↓EBD, EBE])))
  refine pcd_v (c_impl_IsDessin (n := n) hb hw) ?_
  (refine bni ?_; repeat (refine bnk ?_; (try simp (disch := first | omega | (simp only [LN]; omega)) only [↓EC, EW, seval, ↓reduceIte, ↓EBD, EBE, hd])))
  refine pcd_v k ?_
  (refine bni ?_; repeat (refine bnk ?_; (try simp (disch := first | omega | (simp only [LN]; omega)) only [↓EC, EW, seval, ↓reduceIte, ↓EBD, EBE])))
noncomputable def chR (n : Int) (b w : List Int) : Bool × Int := if isDB n b w = true then (!akB n n b w (backP b n) (backP w n), 0) else (false, 1)
theorem c_impl_IsChiral {n : Int} {b w : List Int} (hb : okP b) (hw : okP w) : PSpec Try.prog 10 [vD n b w] fun v => v = .tup [.bool (chR n b w).1, .int .i64 (chR n b w).2] := by
  have hbl := hb.1
  have hwl := hw.1
  refine impl_IsChiral_f.f ?_
  unfold vD
  dsimp only [impl_IsChiral_F, pcal_B, pcalp_B, pcala_B, pcond_B, pgk_B, JN_B, LP_B]
  (refine bni ?_; repeat (refine bnk ?_; (try simp (disch := first | omega | (simp only [LN]; omega)) only [↓EC, EW, seval, ↓reduceIte, ↓EBD, EBE])))
  refine pcd_v (c_impl_IsDessin (n := n) hb hw) ?_
  cases hd : isDB n b w with
  | false => (refine bni ?_; repeat (refine bnk ?_; (try simp (disch := first | omega | (simp only [LN]; omega)) only [↓EC, EW, seval, ↓reduceIte, ↓EBD, EBE, chR, hd])))
  | true =>
    have D := isDB_iff.1 hd
    have Z := D.dz hb hw
    have M := Z.mir
    have hn := D.pb.1
    have k := c_impl_mirror (n := n) (D.pb.lo hb) (D.pw.lo hw) hn
    have k1 := c_impl_canonical Z
    have k2 := c_impl_canonical M
    have q1 := (backP_lo (p := b) hn).1
    have q2 := (backP_lo (p := w) hn).1
    have l1 := canD_len (n := n) (b := b) (w := w)
    have l2 := canD_len (n := n) (b := backP b n) (w := backP w n)
    unfold vD at k k1 k2
    (refine bni ?_; repeat (refine bnk ?_; (try simp (disch := first | omega | (simp only [LN]; omega)) only [↓EC, EW, seval, ↓reduceIte, ↓EBD, EBE])))
    refine pcd_v k1 ?_
    (refine bni ?_; repeat (refine bnk ?_; (try simp (disch := first | omega | (simp only [LN]; omega)) only [↓EC, EW, seval, ↓reduceIte, ↓EBD, EBE])))
    refine pcd_v k ?_
    (refine bni ?_; repeat (refine bnk ?_; (try simp (disch := first | omega | (simp only [LN]; omega)) only [↓EC, EW, seval, ↓reduceIte, ↓EBD, EBE])))
    refine pcd_v k2 ?_
    (refine bni ?_; repeat (refine bnk ?_; (try simp (disch := first | omega | (simp only [LN]; omega)) only [↓EC, EW, seval, ↓reduceIte, ↓EBD, EBE, chR, hd, vleq32 (l := (canD b w n).1 ++ (canD b w n).2) (m := (canD (backP b n) (backP w n) n).1 ++ (canD (backP b n) (backP w n) n).2) (by simp; omega) (by simp; omega), akB_dec Z M])))
theorem c_spec_IsChiral {n : Int} {b w : List Int} (hb : okP b) (hw : okP w) : PSpec Try.prog 21 [vD n b w] fun v => v = .tup [.bool (chR n b w).1, .int .i64 (chR n b w).2] := by
  have hbl := hb.1
  have hwl := hw.1
  refine spec_IsChiral_f.f ?_
  unfold vD
  dsimp only [spec_IsChiral_F, pcal_B, pcalp_B, pcala_B, pcond_B, pgk_B, JN_B, LP_B]
  (refine bni ?_; repeat (refine bnk ?_; (try simp (disch := first | omega | (simp only [LN]; omega)) only [↓EC, EW, seval, ↓reduceIte, ↓EBD, EBE])))
  refine pcd_v (c_spec_l01Is (n := n) hb hw) ?_
  cases hd : isDB n b w with
  | false => (refine bni ?_; repeat (refine bnk ?_; (try simp (disch := first | omega | (simp only [LN]; omega)) only [↓EC, EW, seval, ↓reduceIte, ↓EBD, EBE, chR, hd])))
  | true =>
    have D := isDB_iff.1 hd
    have Z := D.dz hb hw
    have hn := D.pb.1
    have k := c_spec_l07Mirror (n := n) (D.pb.lo hb) (D.pw.lo hw) hn
    have k1 := c_spec_l07Alike Z Z.mir
    unfold vD at k k1
    (refine bni ?_; repeat (refine bnk ?_; (try simp (disch := first | omega | (simp only [LN]; omega)) only [↓EC, EW, seval, ↓reduceIte, ↓EBD, EBE])))
    refine pcd_v k ?_
    (refine bni ?_; repeat (refine bnk ?_; (try simp (disch := first | omega | (simp only [LN]; omega)) only [↓EC, EW, seval, ↓reduceIte, ↓EBD, EBE])))
    refine pcd_v k1 ?_
    (refine bni ?_; repeat (refine bnk ?_; (try simp (disch := first | omega | (simp only [LN]; omega)) only [↓EC, EW, seval, ↓reduceIte, ↓EBD, EBE, chR, hd])))
end
section
set_option maxHeartbeats 4000000
noncomputable def exR (n : Int) (b w : List Int) (k : Int) : DCode :=
  if isDB n b w = true then (if 0 ≤ k ∧ k ≤ 5 then ((n, ex1 b w n k, ex2 b w n k), 0) else ((0, z16, z16), 2)) else ((0, z16, z16), 1)
noncomputable def suR (n : Int) (b w : List Int) : DCode :=
  if isDB n b w = true then (if 2 * n ≤ 16 then ((2 * n, suB b w n, suW n), 0) else ((0, z16, z16), 3)) else ((0, z16, z16), 1)
theorem exR_no {n k : Int} {b w : List Int} (h : isDB n b w = false) : exR n b w k = ((0, z16, z16), 1) := by simp [exR, h]
theorem exR_out {n k : Int} {b w : List Int} (h : isDB n b w = true) (hk : ¬ (0 ≤ k ∧ k ≤ 5)) : exR n b w k = ((0, z16, z16), 2) := by simp only [exR, h, if_true]; rw [if_neg hk]
theorem exR_in {n k : Int} {b w : List Int} (h : isDB n b w = true) (hk : 0 ≤ k ∧ k ≤ 5) : exR n b w k = ((n, ex1 b w n k, ex2 b w n k), 0) := by simp only [exR, h, if_true]; rw [if_pos hk]
theorem c_impl_ExchangeOf {n k : Int} {b w : List Int} (hb : okP b) (hw : okP w) : PSpec Try.prog 6 [vD n b w, .int .i64 k] fun v => v = vDC (exR n b w k) := by
  have hbl := hb.1
  have hwl := hw.1
  refine impl_ExchangeOf_f.f ?_
  unfold vD
  dsimp only [impl_ExchangeOf_F, pcal_B, pcalp_B, pcala_B, pcond_B, pgk_B, JN_B, LP_B]
  (refine bni ?_; repeat (refine bnk ?_; (try simp (disch := first | omega | (simp only [LN]; omega)) only [↓EC, EW, seval, ↓reduceIte, ↓EBD, EBE])))
  refine pcd_v (c_impl_IsDessin (n := n) hb hw) ?_
  cases hd : isDB n b w with
  | false =>
    (refine bni ?_; repeat (refine bnk ?_; (try simp (disch := first | omega | (simp only [LN]; omega)) only [↓EC, EW, seval, ↓reduceIte, ↓EBD, EBE])))
    rw [exR_no hd]; rfl
  | true =>
    have D := (isDB_iff.1 hd).dz hb hw
    have hn := D.B.hn
    have hfl := D.F.lo.1
    (refine bni ?_; repeat (refine bnk ?_; (try simp (disch := first | omega | (simp only [LN]; omega)) only [↓EC, EW, seval, ↓reduceIte, ↓EBD, EBE])))
    by_cases hk : 0 ≤ k ∧ k ≤ 5
    · rw [exR_in hd hk]
      have kk : k = 0 ∨ k = 1 ∨ k = 2 ∨ k = 3 ∨ k = 4 ∨ k = 5 := by omega
      have tk : ∀ {a c : List Int}, a.length = 16 → List.take 16 (a ++ c) = a := fun {a c} h => by rw [← h, List.take_left]
      rcases kk with rfl | rfl | rfl | rfl | rfl | rfl
      all_goals
        (refine bni ?_; repeat (refine bnk ?_; (try simp (disch := first | omega | (simp only [LN]; omega)) only [↓EC, EW, seval, ↓reduceIte, ↓EBD, EBE])))
        refine pcd_v (c_impl_face D.B.lo D.W.lo hn) ?_
        (refine bni ?_; repeat (refine bnk ?_; (try simp (disch := first | omega | (simp only [LN]; omega)) only [↓EC, EW, seval, ↓reduceIte, ↓EBD, EBE])))
        try rw [List.take_append_drop]
        unfold vDC vD ex1 ex2
        have e1 : List.take 16 b = b := List.take_of_length_le (by omega)
        have e2 : List.take 16 w = w := List.take_of_length_le (by omega)
        have e3 : List.take 16 (faceP b w n) = faceP b w n := List.take_of_length_le (by omega)
        have d1 : ∀ m, 16 ≤ m → List.drop m b = [] := fun m h => List.drop_of_length_le (by omega)
        have d2 : ∀ m, 16 ≤ m → List.drop m w = [] := fun m h => List.drop_of_length_le (by omega)
        have d3 : ∀ m, 16 ≤ m → List.drop m (faceP b w n) = [] := fun m h => List.drop_of_length_le (by omega)
        have t1 : ∀ m, 16 ≤ m → List.take m b = b := fun m h => List.take_of_length_le (by omega)
        have t2 : ∀ m, 16 ≤ m → List.take m w = w := fun m h => List.take_of_length_le (by omega)
        have t3 : ∀ m, 16 ≤ m → List.take m (faceP b w n) = faceP b w n := fun m h => List.take_of_length_le (by omega)
        simp [List.take_append, List.drop_append, hbl, hwl, hfl, d1, d2, d3, t1, t2, t3]
    · rw [exR_out hd hk]
      (refine Split.mkB (fun h => ?_) (fun h => ?_) <;> (try simp only [SD] at h))
      · (refine bni ?_; repeat (refine bnk ?_; (try simp (disch := first | omega | (simp only [LN]; omega)) only [↓EC, EW, seval, ↓reduceIte, ↓EBD, EBE])))
        rfl
      · (refine bni ?_; repeat (refine bnk ?_; (try simp (disch := first | omega | (simp only [LN]; omega)) only [↓EC, EW, seval, ↓reduceIte, ↓EBD, EBE])))
        (refine Split.mkB (fun h => ?_) (fun h => ?_) <;> (try simp only [SD] at h))
        · (refine bni ?_; repeat (refine bnk ?_; (try simp (disch := first | omega | (simp only [LN]; omega)) only [↓EC, EW, seval, ↓reduceIte, ↓EBD, EBE])))
          rfl
        · exact absurd ⟨by assumption, h⟩ hk
theorem c_spec_ExchangeOf {n k : Int} {b w : List Int} (hb : okP b) (hw : okP w) : PSpec Try.prog 7 [vD n b w, .int .i64 k] fun v => v = vDC (exR n b w k) := by
  have hbl := hb.1
  have hwl := hw.1
  refine spec_ExchangeOf_f.f ?_
  unfold vD
  dsimp only [spec_ExchangeOf_F, pcal_B, pcalp_B, pcala_B, pcond_B, pgk_B, JN_B, LP_B]
  (refine bni ?_; repeat (refine bnk ?_; (try simp (disch := first | omega | (simp only [LN]; omega)) only [↓EC, EW, seval, ↓reduceIte, ↓EBD, EBE])))
  refine pcd_v (c_spec_l01Is (n := n) hb hw) ?_
  cases hd : isDB n b w with
  | false =>
    (refine bni ?_; repeat (refine bnk ?_; (try simp (disch := first | omega | (simp only [LN]; omega)) only [↓EC, EW, seval, ↓reduceIte, ↓EBD, EBE])))
    rw [exR_no hd]; rfl
  | true =>
    have D := (isDB_iff.1 hd).dz hb hw
    have hn := D.B.hn
    have hfl := D.F.lo.1
    (refine bni ?_; repeat (refine bnk ?_; (try simp (disch := first | omega | (simp only [LN]; omega)) only [↓EC, EW, seval, ↓reduceIte, ↓EBD, EBE])))
    refine pcd_v c_spec_l01In ?_
    by_cases hk : 0 ≤ k ∧ k ≤ 5
    · rw [exR_in hd hk]
      have kk : k = 0 ∨ k = 1 ∨ k = 2 ∨ k = 3 ∨ k = 4 ∨ k = 5 := by omega
      rcases kk with rfl | rfl | rfl | rfl | rfl | rfl
      all_goals
        (refine bni ?_; repeat (refine bnk ?_; (try simp (disch := first | omega | (simp only [LN]; omega)) only [↓EC, EW, seval, ↓reduceIte, ↓EBD, EBE, show (decide ((0 : Int) ≤ 0 ∧ (0 : Int) ≤ 5)) = true from rfl, show (decide ((0 : Int) ≤ 1 ∧ (1 : Int) ≤ 5)) = true from rfl, show (decide ((0 : Int) ≤ 2 ∧ (2 : Int) ≤ 5)) = true from rfl, show (decide ((0 : Int) ≤ 3 ∧ (3 : Int) ≤ 5)) = true from rfl, show (decide ((0 : Int) ≤ 4 ∧ (4 : Int) ≤ 5)) = true from rfl, show (decide ((0 : Int) ≤ 5 ∧ (5 : Int) ≤ 5)) = true from rfl])))
        refine pcd_v (c_spec_l01Face D.B.lo D.W.lo hn) ?_
        have g3 : gi [0, 1, 1, 2, 0, 2] 3 = 2 := rfl
        have g4 : gi [0, 1, 1, 2, 0, 2] 4 = 0 := rfl
        have g5 : gi [0, 1, 1, 2, 0, 2] 5 = 2 := rfl
        have f3 : gi [1, 0, 2, 0, 2, 1] 3 = 0 := rfl
        have f4 : gi [1, 0, 2, 0, 2, 1] 4 = 2 := rfl
        have f5 : gi [1, 0, 2, 0, 2, 1] 5 = 1 := rfl
        (refine bni ?_; repeat (refine bnk ?_; (try simp (disch := first | omega | (simp only [LN]; omega)) only [↓EC, EW, seval, ↓reduceIte, ↓EBD, EBE, g3, g4, g5, f3, f4, f5])))
        unfold vDC vD ex1 ex2
        have d1 : ∀ m, 16 ≤ m → List.drop m b = [] := fun m h => List.drop_of_length_le (by omega)
        have d2 : ∀ m, 16 ≤ m → List.drop m w = [] := fun m h => List.drop_of_length_le (by omega)
        have d3 : ∀ m, 16 ≤ m → List.drop m (faceP b w n) = [] := fun m h => List.drop_of_length_le (by omega)
        have t1 : ∀ m, 16 ≤ m → List.take m b = b := fun m h => List.take_of_length_le (by omega)
        have t2 : ∀ m, 16 ≤ m → List.take m w = w := fun m h => List.take_of_length_le (by omega)
        have t3 : ∀ m, 16 ≤ m → List.take m (faceP b w n) = faceP b w n := fun m h => List.take_of_length_le (by omega)
        simp [List.take_append, List.drop_append, hbl, hwl, hfl, d1, d2, d3, t1, t2, t3]
    · rw [exR_out hd hk]
      have hk' : (decide (0 ≤ k ∧ k ≤ 5)) = false := by simpa using hk
      (refine bni ?_; repeat (refine bnk ?_; (try simp (disch := first | omega | (simp only [LN]; omega)) only [↓EC, EW, seval, ↓reduceIte, ↓EBD, EBE, hk'])))
      rfl
theorem c_impl_SubdividedOf {n : Int} {b w : List Int} (hb : okP b) (hw : okP w) (hnl : -1 ≤ n ∧ n ≤ 17) : PSpec Try.prog 13 [vD n b w] fun v => v = vDC (suR n b w) := by
  have hbl := hb.1
  have hwl := hw.1
  refine impl_SubdividedOf_f.f ?_
  unfold vD
  dsimp only [impl_SubdividedOf_F, pcal_B, pcalp_B, pcala_B, pcond_B, pgk_B, JN_B, LP_B]
  (refine bni ?_; repeat (refine bnk ?_; (try simp (disch := first | omega | (simp only [LN]; omega)) only [↓EC, EW, seval, ↓reduceIte, ↓EBD, EBE])))
  refine pcd_v (c_impl_IsDessin (n := n) hb hw) ?_
  cases hd : isDB n b w with
  | false =>
    (refine bni ?_; repeat (refine bnk ?_; (try simp (disch := first | omega | (simp only [LN]; omega)) only [↓EC, EW, seval, ↓reduceIte, ↓EBD, EBE])))
    unfold suR; rw [hd]; rfl
  | true =>
    have D := (isDB_iff.1 hd).dz hb hw
    have hn := D.B.hn
    have lb := D.B.lt
    have lw := D.W.lt
    (refine bni ?_; repeat (refine bnk ?_; (try simp (disch := first | omega | (simp only [LN]; omega)) only [↓EC, EW, seval, ↓reduceIte, ↓EBD, EBE])))
    (refine Split.mkB (fun h => ?_) (fun h => ?_) <;> (try simp only [SD] at h))
    · (refine bni ?_; repeat (refine bnk ?_; (try simp (disch := first | omega | (simp only [LN]; omega)) only [↓EC, EW, seval, ↓reduceIte, ↓EBD, EBE])))
      unfold suR; rw [hd, if_pos rfl, if_neg (by omega)]; rfl
    · (refine bni ?_; repeat (refine bnk ?_; (try simp (disch := first | omega | (simp only [LN]; omega)) only [↓EC, EW, seval, ↓reduceIte, ↓EBD, EBE])))
      refine LPx_of (σ := Nat) 100000 [(65, 27, 1), (66, 27, 1), (69, 27, 1)] (fun s => [.int .i64 s])
        (fun s => [.int .i64 n :: vi .u8 (b ++ w), .int .i64 0 :: vi .u8 (List.replicate 32 0), .int .i64 (2 * n) :: vi .u8 (sbB b w n.toNat s ++ sbW n.toNat s)])
        (fun s => (s : Int) ≤ n) (fun s => (n - s).toNat) 0 (by simp [frameOk, names, lpz, sclp, scv, scvs, nrfs, nrf, FRB]) (by simp only [Int.natCast_zero]; omega) ?_ ?_
      · (refine bni ?_; repeat (refine bnk ?_; simp (disch := first | omega | (simp only [LN]; omega)) only [↓EC, EW, seval, ↓reduceIte, ↓EBD, EBE, ColV_def]))
        rfl
      · intro s hs
        have q1 := sbB_len (b := b) (w := w) (N := n.toNat) s
        have q2 := sbW_len (N := n.toNat) s
        (refine bni ?_; repeat (refine bnk ?_; simp (disch := first | omega | (simp only [LN]; omega)) only [↓EC, EW, seval, ↓reduceIte, ↓EBD, EBE, ColV_def, lheap_def]))
        (refine Split.mkB (fun h => ?_) (fun h => ?_) <;> (try simp only [SD] at h))
        · have a1 := lb s (by omega)
          have a2 := lw s (by omega)
          have e1 : (n + (s : Int)).toNat = n.toNat + s := by omega
          have e2 : ((n.toNat : Nat) : Int) = n := by omega
          have e6 : IntKind.u8.wrap (n + gi w s) = n + gi w s := by simp [IntKind.wrap, IntKind.signed, IntKind.bits]; omega
          (refine bni ?_; repeat (refine bnk ?_; (try simp (disch := first | omega | (simp only [LN]; omega)) only [↓EC, EW, seval, ↓reduceIte, ↓EBD, EBE, e1])))
          refine ⟨s + 1, by simp, ?_, by omega, by omega⟩
          rw [show 16 + s - b.length = s by omega, show 16 + s - (sbB b w n.toNat s).length = s by omega, show 16 + (n.toNat + s) - (sbB b w n.toNat s).length = n.toNat + s by omega, e6]
          simp only [sbB, sbW, e2]
        · obtain rfl : s = n.toNat := by omega
          (refine bni ?_; repeat (refine bnk ?_; (try simp (disch := first | omega | (simp only [LN]; omega)) only [↓EC, EW, seval, ↓reduceIte, ↓EBD, EBE])))
          unfold suR; rw [hd, if_pos rfl, if_pos (by omega)]; rfl
theorem c_spec_SubdividedOf {n : Int} {b w : List Int} (hb : okP b) (hw : okP w) (hnl : -1 ≤ n ∧ n ≤ 17) : PSpec Try.prog 14 [vD n b w] fun v => v = vDC (suR n b w) := by
  have hbl := hb.1
  have hwl := hw.1
  refine spec_SubdividedOf_f.f ?_
  unfold vD
  dsimp only [spec_SubdividedOf_F, pcal_B, pcalp_B, pcala_B, pcond_B, pgk_B, JN_B, LP_B]
  (refine bni ?_; repeat (refine bnk ?_; (try simp (disch := first | omega | (simp only [LN]; omega)) only [↓EC, EW, seval, ↓reduceIte, ↓EBD, EBE])))
  refine pcd_v (c_spec_l01Is (n := n) hb hw) ?_
  cases hd : isDB n b w with
  | false =>
    (refine bni ?_; repeat (refine bnk ?_; (try simp (disch := first | omega | (simp only [LN]; omega)) only [↓EC, EW, seval, ↓reduceIte, ↓EBD, EBE])))
    unfold suR; rw [hd]; rfl
  | true =>
    have D := (isDB_iff.1 hd).dz hb hw
    have hn := D.B.hn
    have lb := D.B.lt
    have lw := D.W.lt
    (refine bni ?_; repeat (refine bnk ?_; (try simp (disch := first | omega | (simp only [LN]; omega)) only [↓EC, EW, seval, ↓reduceIte, ↓EBD, EBE])))
    (refine Split.mkB (fun h => ?_) (fun h => ?_) <;> (try simp only [SD] at h))
    · (refine bni ?_; repeat (refine bnk ?_; (try simp (disch := first | omega | (simp only [LN]; omega)) only [↓EC, EW, seval, ↓reduceIte, ↓EBD, EBE])))
      unfold suR; rw [hd, if_pos rfl, if_neg (by omega)]; rfl
    · (refine bni ?_; repeat (refine bnk ?_; (try simp (disch := first | omega | (simp only [LN]; omega)) only [↓EC, EW, seval, ↓reduceIte, ↓EBD, EBE])))
      refine LPx_of (σ := Nat) 100000 [(65, 27, 1), (66, 27, 1), (69, 27, 1)] (fun s => [.int .i64 s])
        (fun s => [.int .i64 n :: vi .u8 (b ++ w), .int .i64 0 :: vi .u8 (List.replicate 32 0), .int .i64 (2 * n) :: vi .u8 (sbB b w n.toNat s ++ sbW n.toNat s)])
        (fun s => (s : Int) ≤ n) (fun s => (n - s).toNat) 0 (by simp [frameOk, names, lpz, sclp, scv, scvs, nrfs, nrf, FRB]) (by simp only [Int.natCast_zero]; omega) ?_ ?_
      · (refine bni ?_; repeat (refine bnk ?_; simp (disch := first | omega | (simp only [LN]; omega)) only [↓EC, EW, seval, ↓reduceIte, ↓EBD, EBE, ColV_def]))
        rfl
      · intro s hs
        have q1 := sbB_len (b := b) (w := w) (N := n.toNat) s
        have q2 := sbW_len (N := n.toNat) s
        (refine bni ?_; repeat (refine bnk ?_; simp (disch := first | omega | (simp only [LN]; omega)) only [↓EC, EW, seval, ↓reduceIte, ↓EBD, EBE, ColV_def, lheap_def]))
        (refine Split.mkB (fun h => ?_) (fun h => ?_) <;> (try simp only [SD] at h))
        · have a1 := lb s (by omega)
          have a2 := lw s (by omega)
          have e1 : (n + (s : Int)).toNat = n.toNat + s := by omega
          have e2 : ((n.toNat : Nat) : Int) = n := by omega
          have e6 : IntKind.u8.wrap (n + gi w s) = n + gi w s := by simp [IntKind.wrap, IntKind.signed, IntKind.bits]; omega
          (refine bni ?_; repeat (refine bnk ?_; (try simp (disch := first | omega | (simp only [LN]; omega)) only [↓EC, EW, seval, ↓reduceIte, ↓EBD, EBE, e1])))
          refine ⟨s + 1, by simp, ?_, by omega, by omega⟩
          rw [show 16 + s - b.length = s by omega, show 16 + s - (sbB b w n.toNat s).length = s by omega, show 16 + (n.toNat + s) - (sbB b w n.toNat s).length = n.toNat + s by omega, e6]
          simp only [sbB, sbW, e2]
        · obtain rfl : s = n.toNat := by omega
          (refine bni ?_; repeat (refine bnk ?_; (try simp (disch := first | omega | (simp only [LN]; omega)) only [↓EC, EW, seval, ↓reduceIte, ↓EBD, EBE])))
          unfold suR; rw [hd, if_pos rfl, if_pos (by omega)]; rfl
end
section
set_option maxHeartbeats 4000000
def brR : List UInt8 → Nat → Option Nat
  | [], d => some d
  | c :: s, d => if c = 40 then brR s (d + 1) else if c = 41 then (match d with | 0 => none | d + 1 => brR s d) else none
theorem brR_cons {c : UInt8} {s : List UInt8} {d : Nat} : brR (c :: s) d = if c = 40 then brR s (d + 1) else if c = 41 then (match d with | 0 => none | d + 1 => brR s d) else none := by cases d <;> rfl
theorem brR_app : ∀ {s t : List UInt8} {d : Nat}, brR (s ++ t) d = (brR s d).bind (brR t)
  | [], t, d => rfl
  | c :: s, t, d => by
    simp only [List.cons_append, brR]
    split
    · exact brR_app
    · split
      · cases d with
        | zero => rfl
        | succ d => exact brR_app
      · rfl
theorem brR_up {s : List UInt8} {d e k : Nat} : brR s d = some e → brR s (d + k) = some (e + k) := by
  induction s generalizing d with
  | nil => intro h; simp only [brR, Option.some.injEq] at h ⊢; omega
  | cons c s ih =>
    simp only [brR]
    split
    · intro h; rw [show d + k + 1 = d + 1 + k by omega]; exact ih h
    · split
      · cases d with
        | zero => intro h; cases h
        | succ d => intro h; rw [show d + 1 + k = (d + k) + 1 by omega]; exact ih h
      · intro h; cases h
structure Ws (s : List UInt8) (n : Nat) : Prop where
  br : brR s 0 = some 0
  len : s.length = 2 * n
theorem Ws.app {s t : List UInt8} {n m : Nat} (h : Ws s n) (h' : Ws t m) : Ws (s ++ t) (n + m) := ⟨by rw [brR_app, h.br]; exact h'.br, by rw [List.length_append, h.len, h'.len]; omega⟩
theorem Ws.wrap {s : List UInt8} {n : Nat} (h : Ws s n) : Ws ([40] ++ s ++ [41]) (n + 1) := ⟨by
  have h1 : brR s 1 = some 1 := brR_up (k := 1) h.br
  rw [List.append_assoc, brR_app]
  show (brR (s ++ [41]) 1) = _
  rw [brR_app, h1]; rfl, by simp [h.len]; omega⟩
theorem c_spec_l05DrawWord {x : Value} {l : List Int} {a z : Int} {n : Nat} (hn : n ≤ 1000) (hs : okS l a) : PSpecM Try.prog 73 [.ptr 0 0, .int .i64 n] [(0, 67, 1)] [srcC x l a z] fun v c =>
    ∃ s a' z', v = .str s ∧ c = [srcC x l a' z'] ∧ okS l a' ∧ Ws s n := by
  refine spec_l05DrawWord_f.m rfl rfl ?_
  unfold srcC
  dsimp only [spec_l05DrawWord_F, pcal_B, pcalp_B, pcala_B, pcond_B, pgk_B, JN_B, LP_B]
  ((try simp (disch := first | omega | (simp only [LN]; omega)) only [↓EC, EW, seval, ↓reduceIte, ↓EBD, EBE]); repeat (refine blkP.mk ?_; (try simp (disch := first | omega | (simp only [LN]; omega)) only [↓EC, EW, seval, ↓reduceIte, ↓EBD, EBE])))
  refine LPx_of (σ := List UInt8 × Nat × Nat × Int × Int) 100000 [(0, 67, 1)] (fun s => [.str s.1, .int .i64 s.2.1, .int .i64 s.2.2.1]) (fun s => [srcC x l s.2.2.2.1 s.2.2.2.2])
    (fun s => okS l s.2.2.2.1 ∧ brR s.1 0 = some s.2.2.1 ∧ s.1.length + 2 * s.2.1 + s.2.2.1 = 2 * n) (fun s => 2 * s.2.1 + s.2.2.1) ([], n, 0, a, z) (by simp [frameOk, names, lpz, sclp, scv, scvs, nrfs, nrf, FRB]) ⟨by assumption, rfl, by simp only [List.length_nil]; omega⟩ ?_ ?_
  · (simp (disch := first | omega | (simp only [LN]; omega)) only [↓EC, EW, seval, ↓reduceIte, ↓EBD, EBE, ColV_def, srcC]; repeat (refine blkP.mk ?_; simp (disch := first | omega | (simp only [LN]; omega)) only [↓EC, EW, seval, ↓reduceIte, ↓EBD, EBE, ColV_def, srcC]))
  · rintro ⟨s, o, k, a, z⟩ ⟨h1, h2, h3⟩
    simp only at h1 h2 h3
    have up : brR (s ++ [40]) 0 = some (k + 1) := by rw [brR_app, h2]; rfl
    have dn : ∀ j, k = j + 1 → brR (s ++ [41]) 0 = some j := fun j e => by rw [brR_app, h2, e]; rfl
    (simp (disch := first | omega | (simp only [LN]; omega)) only [↓EC, EW, seval, ↓reduceIte, ↓EBD, EBE, ColV_def, lheap_def, srcC]; repeat (refine blkP.mk ?_; simp (disch := first | omega | (simp only [LN]; omega)) only [↓EC, EW, seval, ↓reduceIte, ↓EBD, EBE, ColV_def, lheap_def, srcC]))
    by_cases ho : o = 0
    · subst ho
      by_cases hk : k = 0
      · subst hk
        ((try simp (disch := first | omega | (simp only [LN]; omega)) only [↓EC, EW, seval, ↓reduceIte, ↓EBD, EBE]); repeat (refine blkP.mk ?_; (try simp (disch := first | omega | (simp only [LN]; omega)) only [↓EC, EW, seval, ↓reduceIte, ↓EBD, EBE])))
        exact ⟨s, a, z, rfl, rfl, h1, h2, by omega⟩
      · obtain ⟨j, rfl⟩ : ∃ j, k = j + 1 := ⟨k - 1, by omega⟩
        have e1 : (decide ((0 : Int) < ((j + 1 : Nat) : Int))) = true := by simp only [decide_eq_true_eq]; omega
        ((try simp (disch := first | omega | (simp only [LN]; omega)) only [↓EC, EW, seval, ↓reduceIte, ↓EBD, EBE, e1]); repeat (refine blkP.mk ?_; (try simp (disch := first | omega | (simp only [LN]; omega)) only [↓EC, EW, seval, ↓reduceIte, ↓EBD, EBE, e1])))
        exact ⟨(s ++ [41], 0, j, a, z), by simp, rfl, ⟨h1, dn j rfl, by simp; omega⟩, by simp only; omega⟩
    · have e0 : (decide ((0 : Int) < ((o : Nat) : Int))) = true := by simp only [decide_eq_true_eq]; omega
      ((try simp (disch := first | omega | (simp only [LN]; omega)) only [↓EC, EW, seval, ↓reduceIte, ↓EBD, EBE, e0]); repeat (refine blkP.mk ?_; (try simp (disch := first | omega | (simp only [LN]; omega)) only [↓EC, EW, seval, ↓reduceIte, ↓EBD, EBE, e0])))
      by_cases hk : k = 0
      · subst hk
        ((try simp (disch := first | omega | (simp only [LN]; omega)) only [↓EC, EW, seval, ↓reduceIte, ↓EBD, EBE]); repeat (refine blkP.mk ?_; (try simp (disch := first | omega | (simp only [LN]; omega)) only [↓EC, EW, seval, ↓reduceIte, ↓EBD, EBE])))
        exact ⟨(s ++ [40], o - 1, 1, a, z), by simp; omega, rfl, ⟨h1, up, by simp; omega⟩, by simp only; omega⟩
      · obtain ⟨j, rfl⟩ : ∃ j, k = j + 1 := ⟨k - 1, by omega⟩
        have e1 : (((j + 1 : Nat) : Int) == 0) = false := by simp only [beq_eq_false_iff_ne]; omega
        ((try simp (disch := first | omega | (simp only [LN]; omega)) only [↓EC, EW, seval, ↓reduceIte, ↓EBD, EBE, e1]); repeat (refine blkP.mk ?_; (try simp (disch := first | omega | (simp only [LN]; omega)) only [↓EC, EW, seval, ↓reduceIte, ↓EBD, EBE, e1])))
        (refine pcm [0] rfl ?_; ((try simp (disch := first | omega | (simp only [LN]; omega)) only [↓EC, EW, seval, ↓reduceIte, ↓EBD, EBE]); repeat (refine blkP.mk ?_; (try simp (disch := first | omega | (simp only [LN]; omega)) only [↓EC, EW, seval, ↓reduceIte, ↓EBD, EBE]))); refine callM_d (c_spec_l01Next (by assumption) (by omega)) ?_; rintro _ _ ⟨r1, _, _, rfl, rfl, hs_, hr_⟩; ((try simp (disch := first | omega | (simp only [LN]; omega)) only [↓EC, EW, seval, ↓reduceIte, ↓EBD, EBE, srcC]); repeat (refine blkP.mk ?_; (try simp (disch := first | omega | (simp only [LN]; omega)) only [↓EC, EW, seval, ↓reduceIte, ↓EBD, EBE, srcC]))))
        rename_i a1 z1
        (refine Split.mkB (fun h => ?_) (fun h => ?_) <;> (try simp only [SD] at h))
        · ((try simp (disch := first | omega | (simp only [LN]; omega)) only [↓EC, EW, seval, ↓reduceIte, ↓EBD, EBE]); repeat (refine blkP.mk ?_; (try simp (disch := first | omega | (simp only [LN]; omega)) only [↓EC, EW, seval, ↓reduceIte, ↓EBD, EBE])))
          exact ⟨(s ++ [40], o - 1, j + 2, a1, z1), by simp; omega, rfl, ⟨by assumption, up, by simp; omega⟩, by simp only; omega⟩
        · ((try simp (disch := first | omega | (simp only [LN]; omega)) only [↓EC, EW, seval, ↓reduceIte, ↓EBD, EBE]); repeat (refine blkP.mk ?_; (try simp (disch := first | omega | (simp only [LN]; omega)) only [↓EC, EW, seval, ↓reduceIte, ↓EBD, EBE])))
          exact ⟨(s ++ [41], o, j, a1, z1), by simp, rfl, ⟨by assumption, dn j rfl, by simp; omega⟩, by simp only; omega⟩
structure Ms (s : List UInt8) (i : Nat) (S L : List Int) (k d : Nat) : Prop where
  br : brR (s.drop i) d = some 0
  cnt : 2 * k = i + d
  ls : S.length = d + 1
  ll : L.length = d + 1
  sv : ∀ j, 1 ≤ j → j ≤ d → 0 ≤ gi S j ∧ gi S j < k
  lv : ∀ j, j ≤ d → -1 ≤ gi L j ∧ gi L j < k
  l0 : 0 < i → 0 ≤ gi L 0
  le : i ≤ s.length
  di : d ≤ i
  s0 : gi S 0 = -1
theorem brR_le : ∀ {s : List UInt8} {d e : Nat}, brR s d = some e → d ≤ s.length + e
  | [], d, e, h => by simp only [brR, Option.some.injEq] at h; simp; omega
  | c :: s, d, e, h => by
    simp only [brR] at h
    rw [List.length_cons]
    split at h
    · have := brR_le h; omega
    · split at h
      · cases d with
        | zero => cases h
        | succ d => have := brR_le h; omega
      · cases h
theorem drop_getDB {s : List UInt8} {i : Nat} (h : i < s.length) : s.drop i = s.getD i 0 :: s.drop (i + 1) := by
  rw [List.drop_eq_getElem_cons h]; simp [List.getD, h]
section
variable {s : List UInt8} {i k d : Nat} {S L : List Int}
theorem Ms.kn {n : Nat} (h : Ms s i S L k d) (hs : s.length = 2 * n) : k ≤ n ∧ d ≤ n := by
  have h1 := brR_le h.br
  have h2 := h.cnt
  have h3 := h.le
  have h4 := h.di
  rw [List.length_drop] at h1
  omega
theorem Ms.open (h : Ms s i S L k d) (hi : i < s.length) (hc : s.getD i 0 = 40) : Ms s (i + 1) (S ++ [(k : Int)]) (L.set d k ++ [-1]) (k + 1) (d + 1) := by
  have hb := h.br
  rw [drop_getDB hi, brR_cons, if_pos hc] at hb
  have l1 := h.ls
  have l2 := h.ll
  refine ⟨hb, by have := h.cnt; omega, by simp [l1], by simp [l2], fun j a c => ?_, fun j a => ?_, fun _ => ?_, hi, by have := h.di; omega, by rw [gi_app, if_pos (by omega)]; exact h.s0⟩
  · rw [gi_app]
    split
    · have := h.sv j a (by omega); omega
    · rw [show j - S.length = 0 by omega]; simp [gi]; omega
  · rw [gi_app, List.length_set]
    split
    · rw [gi_set]
      split
      · omega
      · have := h.lv j (by omega); omega
    · rw [show j - L.length = 0 by omega]; simp [gi]; omega
  · rw [gi_app, List.length_set, if_pos (by omega), gi_set]
    split
    · omega
    · by_cases h0 : 0 < i
      · exact h.l0 h0
      · have := h.di
        rename_i hh
        exact absurd ⟨by omega, by omega⟩ hh
theorem Ms.close (h : Ms s i S L k d) (hi : i < s.length) (hc : s.getD i 0 = 41) : 1 ≤ d ∧ Ms s (i + 1) (S.take d) (L.take d) k (d - 1) := by
  have hb := h.br
  rw [drop_getDB hi, brR_cons, if_neg (by rw [hc]; decide), if_pos hc] at hb
  cases d with
  | zero => cases hb
  | succ d =>
    have l1 := h.ls
    have l2 := h.ll
    have tk : ∀ {A : List Int} {j : Nat}, j ≤ d → gi (A.take (d + 1)) j = gi A j := fun {A} {j} hj => by simp [gi, List.getD, List.getElem?_take, show j < d + 1 by omega]
    refine ⟨by omega, hb, by have := h.cnt; omega, by simp [l1], by simp [l2], fun j a c => ?_, fun j a => ?_, fun _ => ?_, hi, by have := h.di; omega, by rw [tk (by omega)]; exact h.s0⟩
    · rw [tk (by omega)]; have := h.sv j a (by omega); omega
    · rw [tk (by omega)]; have := h.lv j (by omega); omega
    · rw [tk (by omega)]
      exact h.l0 (by have := h.di; omega)
theorem Ms.char (h : Ms s i S L k d) (hi : i < s.length) : s.getD i 0 = 40 ∨ s.getD i 0 = 41 := by
  have hb := h.br
  rw [drop_getDB hi, brR_cons] at hb
  split at hb
  · exact .inl (by assumption)
  · split at hb
    · exact .inr (by assumption)
    · cases hb
end
def lo32 (w : List Int) : Prop := w.length = 32 ∧ ∀ i, i < 32 → 0 ≤ gi w i ∧ gi w i < 16
theorem lo32_set {w : List Int} (h : lo32 w) {i : Nat} {y : Int} (hy : 0 ≤ y ∧ y < 16) : lo32 (w.set i y) := ⟨by simp [h.1], fun j hj => by
  rw [gi_set]; split
  · exact hy
  · exact h.2 j hj⟩
theorem lo32_vD {n : Int} {w : List Int} (h : lo32 w) : ∃ p q, V.agg (.int .i64 n :: vi .u8 w) = vD n p q ∧ lo16 p ∧ lo16 q := by
  have h1 := h.1
  refine ⟨w.take 16, w.drop 16, by unfold vD; rw [List.take_append_drop], ⟨by simp [h1], fun i hi => ?_⟩, ⟨by simp [h1], fun i hi => ?_⟩⟩
  · have e : gi (w.take 16) i = gi w i := by simp only [gi, List.getD, List.getElem?_take, if_pos hi]
    rw [e]; exact h.2 i (by omega)
  · have e : gi (w.drop 16) i = gi w (16 + i) := by simp only [gi, List.getD, List.getElem?_drop]
    rw [e]; exact h.2 _ (by omega)
theorem c_spec_l05MadeN {s : List UInt8} {n : Nat} (hs : Ws s n) (hn : 1 ≤ n ∧ n ≤ 16) : PSpec Try.prog 72 [.str s] fun v => ∃ p q, v = vD n p q ∧ lo16 p ∧ lo16 q := by
  have hlen := hs.len
  refine spec_l05Made_f.f ?_
  dsimp only [spec_l05Made_F, pcal_B, pcalp_B, pcala_B, pcond_B, pgk_B, JN_B, LP_B]
  (refine bni ?_; repeat (refine bnk ?_; (try simp (disch := first | omega | (simp only [LN]; omega)) only [↓EC, EW, seval, ↓reduceIte, ↓EBD, EBE])))
  refine LPx_of (σ := (List Int × List Int) × (Nat × Int × Nat × Nat) × List Int) 100000 [(66, 27, 1), (71, 27, 1)]
    (fun s => [.own 2 1 s.1.1.length (vi .i64 s.1.1), .own 2 1 s.1.2.length (vi .i64 s.1.2), .int .i64 s.2.1.1, .int .i64 s.2.1.2.1, .int .i64 s.2.1.2.2.1])
    (fun s => [.int .i64 0 :: vi .u8 (List.replicate 32 0), .int .i64 n :: vi .u8 s.2.2])
    (fun t => Ms s t.2.1.2.2.1 t.1.1 t.1.2 t.2.1.1 t.2.1.2.2.2 ∧ (0 ≤ t.2.1.2.1 ∧ t.2.1.2.1 < 16) ∧ lo32 t.2.2) (fun t => s.length - t.2.1.2.2.1) (([-1], [-1]), (0, 0, 0, 0), List.replicate 32 0) (by simp [frameOk, names, lpz, sclp, scv, scvs, nrfs, nrf, FRB]) ?_ ?_ ?_
  · refine ⟨⟨hs.br, rfl, rfl, rfl, fun j h1 h2 => by simp only at h2; omega, fun j h1 => ?_, fun h => absurd h (Nat.lt_irrefl 0), Nat.zero_le _, Nat.le_refl _, rfl⟩, by simp only; omega, ⟨by simp, fun i hi => by rw [gi_rep]; split <;> omega⟩⟩
    simp only at h1
    rw [show j = 0 by omega]; simp [gi]
  · have e1 : IntKind.i64.wrap ((s.length : Int).tdiv 2) = n := by
      rw [hlen, show ((2 * n : Nat) : Int) = 2 * (n : Int) by omega, Int.mul_tdiv_cancel_left _ (by decide)]
      simp [IntKind.wrap, IntKind.signed, IntKind.bits]; omega
    (refine bni ?_; repeat (refine bnk ?_; simp (disch := first | omega | (simp only [LN]; omega)) only [↓EC, EW, seval, ↓reduceIte, ↓EBD, EBE, ColV_def, e1]))
    rfl
  · rintro ⟨⟨S, L⟩, ⟨k, f, i, d⟩, w⟩ ⟨h1, h2, h3⟩
    simp only at h1 h2 h3
    have hwl := h3.1
    have ls := h1.ls
    have ll := h1.ll
    have cn := h1.cnt
    have kn := h1.kn hlen
    have hle := h1.le
    have eS : ((S.length : Int) - 1).toNat = d := by omega
    have lvd := h1.lv d (Nat.le_refl _)
    have svd : 1 ≤ d → 0 ≤ gi S d ∧ gi S d < k := fun q => h1.sv d q (Nat.le_refl _)
    have sv0 : d = 0 → gi S d = -1 := fun q => by subst q; exact h1.s0
    (refine bni ?_; repeat (refine bnk ?_; simp (disch := first | omega | (simp only [LN]; omega)) only [↓EC, EW, seval, ↓reduceIte, ↓EBD, EBE, ColV_def, lheap_def]))
    (refine Split.mkB (fun h => ?_) (fun h => ?_) <;> (try simp only [SD] at h))
    · have hi : i < s.length := by omega
      (refine bni ?_; repeat (refine bnk ?_; (try simp (disch := first | omega | (simp only [LN]; omega)) only [↓EC, EW, seval, ↓reduceIte, ↓EBD, EBE])))
      refine JNx_un ?_
      (refine bni ?_; repeat (refine bnk ?_; (try simp (disch := first | omega | (simp only [LN]; omega)) only [↓EC, EW, seval, ↓reduceIte, ↓EBD, EBE])))
      (refine Split.mkB (fun h => ?_) (fun h => ?_) <;> (try simp only [SD] at h))
      · have hc : s.getD i 0 = 40 := by
          have h5 : (s.getD i 0).toNat = 40 := by omega
          exact UInt8.toNat_inj.1 h5
        have hO := h1.open hi hc
        have hk1 := hO.kn hlen
        (refine bni ?_; repeat (refine bnk ?_; (try simp (disch := first | omega | (simp only [LN]; omega)) only [↓EC, EW, seval, ↓reduceIte, ↓EBD, EBE, eS])))
        refine JNx_un ?_
        (refine bni ?_; repeat (refine bnk ?_; (try simp (disch := first | omega | (simp only [LN]; omega)) only [↓EC, EW, seval, ↓reduceIte, ↓EBD, EBE, eS])))
        (refine Split.mkB (fun h => ?_) (fun h => ?_) <;> (try simp only [SD] at h))
        · (refine bni ?_; repeat (refine bnk ?_; (try simp (disch := first | omega | (simp only [LN]; omega)) only [↓EC, EW, seval, ↓reduceIte, ↓EBD, EBE, eS])))
          refine JNx_un ?_
          (refine bni ?_; repeat (refine bnk ?_; (try simp (disch := first | omega | (simp only [LN]; omega)) only [↓EC, EW, seval, ↓reduceIte, ↓EBD, EBE, eS])))
          (refine Split.mkB (fun h => ?_) (fun h => ?_) <;> (try simp only [SD] at h))
          · (refine bni ?_; repeat (refine bnk ?_; (try simp (disch := first | omega | (simp only [LN]; omega)) only [↓EC, EW, seval, ↓reduceIte, ↓EBD, EBE, eS])))
            exact ⟨((S ++ [(k : Int)], L.set d k ++ [-1]), (k + 1, k, i + 1, d + 1), w), by simp, rfl, ⟨hO, by simp only; omega, h3⟩, by simp only; omega⟩
          · have := svd (by
              refine Nat.pos_of_ne_zero fun q => ?_
              have := sv0 q; omega)
            (refine bni ?_; repeat (refine bnk ?_; (try simp (disch := first | omega | (simp only [LN]; omega)) only [↓EC, EW, seval, ↓reduceIte, ↓EBD, EBE, eS])))
            (refine Split.mkB (fun h => ?_) (fun h => ?_) <;> (try simp only [SD] at h))
            · (refine bni ?_; repeat (refine bnk ?_; (try simp (disch := first | omega | (simp only [LN]; omega)) only [↓EC, EW, seval, ↓reduceIte, ↓EBD, EBE, eS])))
              exact ⟨((S ++ [(k : Int)], L.set d k ++ [-1]), (k + 1, f, i + 1, d + 1), w.set (gi S d).toNat k), by simp, rfl, ⟨hO, h2, lo32_set h3 (by omega)⟩, by simp only; omega⟩
            · (refine bni ?_; repeat (refine bnk ?_; (try simp (disch := first | omega | (simp only [LN]; omega)) only [↓EC, EW, seval, ↓reduceIte, ↓EBD, EBE, eS])))
              exact ⟨((S ++ [(k : Int)], L.set d k ++ [-1]), (k + 1, f, i + 1, d + 1), w.set (16 + (gi S d).toNat) k), by simp, rfl, ⟨hO, h2, lo32_set h3 (by omega)⟩, by simp only; omega⟩
        · (refine bni ?_; repeat (refine bnk ?_; (try simp (disch := first | omega | (simp only [LN]; omega)) only [↓EC, EW, seval, ↓reduceIte, ↓EBD, EBE, eS])))
          refine JNx_un ?_
          (refine bni ?_; repeat (refine bnk ?_; (try simp (disch := first | omega | (simp only [LN]; omega)) only [↓EC, EW, seval, ↓reduceIte, ↓EBD, EBE, eS])))
          (refine Split.mkB (fun h => ?_) (fun h => ?_) <;> (try simp only [SD] at h))
          · omega
          (refine bni ?_; repeat (refine bnk ?_; (try simp (disch := first | omega | (simp only [LN]; omega)) only [↓EC, EW, seval, ↓reduceIte, ↓EBD, EBE, eS])))
          (refine Split.mkB (fun h => ?_) (fun h => ?_) <;> (try simp only [SD] at h))
          · (refine bni ?_; repeat (refine bnk ?_; (try simp (disch := first | omega | (simp only [LN]; omega)) only [↓EC, EW, seval, ↓reduceIte, ↓EBD, EBE, eS])))
            exact ⟨((S ++ [(k : Int)], L.set d k ++ [-1]), (k + 1, f, i + 1, d + 1), w.set (gi L d).toNat k), by simp, rfl, ⟨hO, h2, lo32_set h3 (by omega)⟩, by simp only; omega⟩
          · (refine bni ?_; repeat (refine bnk ?_; (try simp (disch := first | omega | (simp only [LN]; omega)) only [↓EC, EW, seval, ↓reduceIte, ↓EBD, EBE, eS])))
            exact ⟨((S ++ [(k : Int)], L.set d k ++ [-1]), (k + 1, f, i + 1, d + 1), w.set (16 + (gi L d).toNat) k), by simp, rfl, ⟨hO, h2, lo32_set h3 (by omega)⟩, by simp only; omega⟩
      · have hc : s.getD i 0 = 41 := by
          rcases h1.char hi with q | q
          · rw [q] at h; exact absurd rfl h
          · exact q
        obtain ⟨hd1, hC⟩ := h1.close hi hc
        have svd' := svd hd1
        have t1 : (S.take d).length = d := by simp; omega
        have t2 : (L.take d).length = d := by simp; omega
        (refine bni ?_; repeat (refine bnk ?_; (try simp (disch := first | omega | (simp only [LN]; omega)) only [↓EC, EW, seval, ↓reduceIte, ↓EBD, EBE, eS])))
        refine JNx_un ?_
        (refine bni ?_; repeat (refine bnk ?_; (try simp (disch := first | omega | (simp only [LN]; omega)) only [↓EC, EW, seval, ↓reduceIte, ↓EBD, EBE, eS])))
        (refine Split.mkB (fun h => ?_) (fun h => ?_) <;> (try simp only [SD] at h))
        · (refine bni ?_; repeat (refine bnk ?_; (try simp (disch := first | omega | (simp only [LN]; omega)) only [↓EC, EW, seval, ↓reduceIte, ↓EBD, EBE, eS])))
          refine JNx_un ?_
          (refine bni ?_; repeat (refine bnk ?_; (try simp (disch := first | omega | (simp only [LN]; omega)) only [↓EC, EW, seval, ↓reduceIte, ↓EBD, EBE, eS])))
          (refine Split.mkB (fun h => ?_) (fun h => ?_) <;> (try simp only [SD] at h))
          · (refine bni ?_; repeat (refine bnk ?_; (try simp (disch := first | omega | (simp only [LN]; omega)) only [↓EC, EW, seval, ↓reduceIte, ↓EBD, EBE, eS])))
            exact ⟨((S.take d, L.take d), (k, f, i + 1, d - 1), w.set (gi S d).toNat (gi S d)), by simp; omega, rfl, ⟨hC, h2, lo32_set h3 (by omega)⟩, by simp only; omega⟩
          · (refine bni ?_; repeat (refine bnk ?_; (try simp (disch := first | omega | (simp only [LN]; omega)) only [↓EC, EW, seval, ↓reduceIte, ↓EBD, EBE, eS])))
            exact ⟨((S.take d, L.take d), (k, f, i + 1, d - 1), w.set (16 + (gi S d).toNat) (gi S d)), by simp; omega, rfl, ⟨hC, h2, lo32_set h3 (by omega)⟩, by simp only; omega⟩
        · (refine bni ?_; repeat (refine bnk ?_; (try simp (disch := first | omega | (simp only [LN]; omega)) only [↓EC, EW, seval, ↓reduceIte, ↓EBD, EBE, eS])))
          refine JNx_un ?_
          (refine bni ?_; repeat (refine bnk ?_; (try simp (disch := first | omega | (simp only [LN]; omega)) only [↓EC, EW, seval, ↓reduceIte, ↓EBD, EBE, eS])))
          (refine Split.mkB (fun h => ?_) (fun h => ?_) <;> (try simp only [SD] at h))
          · (refine bni ?_; repeat (refine bnk ?_; (try simp (disch := first | omega | (simp only [LN]; omega)) only [↓EC, EW, seval, ↓reduceIte, ↓EBD, EBE, eS])))
            exact ⟨((S.take d, L.take d), (k, f, i + 1, d - 1), w.set (gi L d).toNat (gi S d)), by simp; omega, rfl, ⟨hC, h2, lo32_set h3 (by omega)⟩, by simp only; omega⟩
          · (refine bni ?_; repeat (refine bnk ?_; (try simp (disch := first | omega | (simp only [LN]; omega)) only [↓EC, EW, seval, ↓reduceIte, ↓EBD, EBE, eS])))
            exact ⟨((S.take d, L.take d), (k, f, i + 1, d - 1), w.set (16 + (gi L d).toNat) (gi S d)), by simp; omega, rfl, ⟨hC, h2, lo32_set h3 (by omega)⟩, by simp only; omega⟩
    · have l00 := h1.l0 (by omega)
      have l01 := h1.lv 0 (Nat.zero_le _)
      (refine bni ?_; repeat (refine bnk ?_; (try simp (disch := first | omega | (simp only [LN]; omega)) only [↓EC, EW, seval, ↓reduceIte, ↓EBD, EBE])))
      exact lo32_vD (lo32_set h3 h2)
theorem c_spec_l05Moved {n : Int} {b w p : List Int} (hb : lo16 b) (hw : lo16 w) (hp : lo16 p) (hn : 1 ≤ n ∧ n ≤ 16) : PSpec Try.prog 37 [vD n b w, .agg (vi .u8 p)] fun v => v = vD n (rnT p b n.toNat) (rnT p w n.toNat) := by
  have hl := hb.1
  have hk := hw.1
  have hpl := hp.1
  refine spec_l05Moved_f.f ?_
  unfold vD
  simp (disch := first | omega | (simp only [LN]; omega)) only [↓EC, EW, seval, ↓reduceIte, spec_l05Moved_F, hl, hk, hpl]
  refine LP_of (σ := Nat) 100000 [(66, 27, 1), (67, 25, 1), (68, 27, 1), (69, 27, 1)] (fun s => [.int .i64 s])
    (fun s => [.int .i64 n :: vi .u8 (b ++ w), vi .u8 p, .int .i64 0 :: vi .u8 (List.replicate 32 0), .int .i64 n :: vi .u8 (rnT p b s ++ rnT p w s)])
    (fun s => (s : Int) ≤ n) (fun s => (n - s).toNat) 0 (by simp [frameOk, names, lpz, sclp, scv, scvs, nrfs, nrf, FRB]) (by simp only [Int.natCast_zero]; omega) ?_ ?_
  · simp (disch := first | omega | (simp only [LN]; omega)) only [↓EC, EW, seval, ↓reduceIte, ColV_def]
    rfl
  · rintro s h1
    have q1 := rnT_len (p := p) (b := b) s
    have q2 := rnT_len (p := p) (b := w) s
    simp (disch := first | omega | (simp only [LN]; omega)) only [↓EC, EW, seval, ↓reduceIte, ColV_def, lheap_def]
    (refine Split.mk (fun h => ?_) (fun h => ?_) <;> (try simp only [SD] at h))
    · have a1 := hp.2 s (by omega)
      have a2 := hb.2 s (by omega)
      have a3 := hw.2 s (by omega)
      have a4 := hp.2 (gi b s).toNat (by omega)
      have a5 := hp.2 (gi w s).toNat (by omega)
      (try simp (disch := first | omega | (simp only [LN]; omega)) only [↓EC, EW, seval, ↓reduceIte, hl, hk, hpl, q1, q2])
      exact ⟨s + 1, rfl, rfl, by omega, by omega⟩
    · have : s = n.toNat := by omega
      subst this
      (try simp (disch := first | omega | (simp only [LN]; omega)) only [↓EC, EW, seval, ↓reduceIte, hl, hk, q1, q2])
theorem c_spec_l05Draw {x : Value} {l : List Int} {a z : Int} (hs : okS l a) : PSpecM Try.prog 63 [.ptr 0 0] [(0, 67, 1)] [srcC x l a z] fun v c =>
    ∃ n p q a' z', v = vD n p q ∧ c = [srcC x l a' z'] ∧ okS l a' ∧ lo16 p ∧ lo16 q ∧ 1 ≤ n ∧ n ≤ 16 := by
  refine spec_l05Draw_f.m rfl rfl ?_
  unfold srcC
  dsimp only [spec_l05Draw_F, pcal_B, pcalp_B, pcala_B, pcond_B, pgk_B, JN_B, LP_B]
  (refine bni ?_; repeat (refine bnk ?_; (try simp (disch := first | omega | (simp only [LN]; omega)) only [↓EC, EW, seval, ↓reduceIte, ↓EBD, EBE])))
  (refine pcm [0] rfl ?_; (refine bni ?_; repeat (refine bnk ?_; (try simp (disch := first | omega | (simp only [LN]; omega)) only [↓EC, EW, seval, ↓reduceIte, ↓EBD, EBE]))); refine callM_d (c_spec_l01Pick (m := [5, 9, 16]) (by assumption) (by simp) (by simp)) ?_; rintro _ _ ⟨y1, _, _, hy_, rfl, rfl, hs_⟩; simp only [List.mem_cons, List.not_mem_nil, or_false] at hy_; (refine bni ?_; repeat (refine bnk ?_; (try simp (disch := first | omega | (simp only [LN]; omega)) only [↓EC, EW, seval, ↓reduceIte, ↓EBD, EBE, srcC]))))
  (refine pcm [0] rfl ?_; (refine bni ?_; repeat (refine bnk ?_; (try simp (disch := first | omega | (simp only [LN]; omega)) only [↓EC, EW, seval, ↓reduceIte, ↓EBD, EBE]))); refine callM_d (c_spec_l01Next (by assumption) (by omega)) ?_; rintro _ _ ⟨r1, _, _, rfl, rfl, hs_, hr_⟩; (refine bni ?_; repeat (refine bnk ?_; (try simp (disch := first | omega | (simp only [LN]; omega)) only [↓EC, EW, seval, ↓reduceIte, ↓EBD, EBE, srcC]))))
  rename_i a1 z1
  obtain ⟨n, hnn⟩ : ∃ n : Nat, 1 + r1 = n := ⟨(1 + r1).toNat, by omega⟩
  have hn : 1 ≤ n ∧ n ≤ 16 := by omega
  rw [hnn]
  (refine pcm [0] rfl ?_; (refine bni ?_; repeat (refine bnk ?_; (try simp (disch := first | omega | (simp only [LN]; omega)) only [↓EC, EW, seval, ↓reduceIte, ↓EBD, EBE]))); refine callM_d (c_spec_l05DrawWord (n := n) (by omega) (by assumption)) ?_; rintro _ _ ⟨s, a2, z2, rfl, rfl, hs_, hw⟩; (refine bni ?_; repeat (refine bnk ?_; (try simp (disch := first | omega | (simp only [LN]; omega)) only [↓EC, EW, seval, ↓reduceIte, ↓EBD, EBE, srcC]))))
  refine pcd_r (c_spec_l05MadeN hw hn) ?_
  rintro _ ⟨p, q, rfl, hp, hq⟩
  have hpl := hp.1
  have hql := hq.1
  (refine bni ?_; repeat (refine bnk ?_; (try simp (disch := first | omega | (simp only [LN]; omega)) only [↓EC, EW, seval, ↓reduceIte, ↓EBD, EBE, vD])))
  (refine pcm [0] rfl ?_; (refine bni ?_; repeat (refine bnk ?_; (try simp (disch := first | omega | (simp only [LN]; omega)) only [↓EC, EW, seval, ↓reduceIte, ↓EBD, EBE]))); refine callM_d (c_spec_l01Next (by assumption) (by omega)) ?_; rintro _ _ ⟨r2, _, _, rfl, rfl, hs_, hr_⟩; (refine bni ?_; repeat (refine bnk ?_; (try simp (disch := first | omega | (simp only [LN]; omega)) only [↓EC, EW, seval, ↓reduceIte, ↓EBD, EBE, srcC]))))
  (refine Split.mkB (fun h => ?_) (fun h => ?_) <;> (try simp only [SD] at h))
  · (refine bni ?_; repeat (refine bnk ?_; (try simp (disch := first | omega | (simp only [LN]; omega)) only [↓EC, EW, seval, ↓reduceIte, ↓EBD, EBE])))
    (refine pcma [0] rfl ?_; (refine bni ?_; repeat (refine bnk ?_; (try simp (disch := first | omega | (simp only [LN]; omega)) only [↓EC, EW, seval, ↓reduceIte, ↓EBD, EBE]))); refine callM_d (c_spec_l01DrawPlaces (n := n) (by omega) (by assumption)) ?_; rintro _ _ ⟨o, a3, z3, rfl, rfl, hs_, ho⟩; (refine bni ?_; repeat (refine bnk ?_; (try simp (disch := first | omega | (simp only [LN]; omega)) only [↓EC, EW, seval, ↓reduceIte, ↓EBD, EBE, srcC]))))
    have hol := ho.1
    have lb := rnT_lo ho hp n (by omega)
    have lw := rnT_lo ho hq n (by omega)
    have q1 := lb.1
    have q2 := lw.1
    have k1 := c_spec_l05Moved (n := n) hp hq ho (by omega)
    unfold vD at k1
    rw [Int.toNat_natCast] at k1
    (refine bni ?_; repeat (refine bnk ?_; (try simp (disch := first | omega | (simp only [LN]; omega)) only [↓EC, EW, seval, ↓reduceIte, ↓EBD, EBE])))
    refine pcd_v k1 ?_
    (refine bni ?_; repeat (refine bnk ?_; (try simp (disch := first | omega | (simp only [LN]; omega)) only [↓EC, EW, seval, ↓reduceIte, ↓EBD, EBE])))
    exact ⟨n, _, _, _, _, rfl, rfl, by assumption, lb, lw, by omega, by omega⟩
  · (refine bni ?_; repeat (refine bnk ?_; (try simp (disch := first | omega | (simp only [LN]; omega)) only [↓EC, EW, seval, ↓reduceIte, ↓EBD, EBE])))
    (refine Split.mkB (fun h => ?_) (fun h => ?_) <;> (try simp only [SD] at h))
    · (refine bni ?_; repeat (refine bnk ?_; (try simp (disch := first | omega | (simp only [LN]; omega)) only [↓EC, EW, seval, ↓reduceIte, ↓EBD, EBE])))
      (refine pcm [0] rfl ?_; (refine bni ?_; repeat (refine bnk ?_; (try simp (disch := first | omega | (simp only [LN]; omega)) only [↓EC, EW, seval, ↓reduceIte, ↓EBD, EBE]))); refine callM_d (c_spec_l01Next (by assumption) (by omega)) ?_; rintro _ _ ⟨r3, _, _, rfl, rfl, hs_, hr_⟩; (refine bni ?_; repeat (refine bnk ?_; (try simp (disch := first | omega | (simp only [LN]; omega)) only [↓EC, EW, seval, ↓reduceIte, ↓EBD, EBE, srcC]))))
      (refine pcm [0] rfl ?_; (refine bni ?_; repeat (refine bnk ?_; (try simp (disch := first | omega | (simp only [LN]; omega)) only [↓EC, EW, seval, ↓reduceIte, ↓EBD, EBE]))); refine callM_d (c_spec_l01Next (by assumption) (by omega)) ?_; rintro _ _ ⟨r4, _, _, rfl, rfl, hs_, hr_⟩; (refine bni ?_; repeat (refine bnk ?_; (try simp (disch := first | omega | (simp only [LN]; omega)) only [↓EC, EW, seval, ↓reduceIte, ↓EBD, EBE, srcC]))))
      obtain ⟨m, hm⟩ : ∃ m : Nat, 1 + r4 = m := ⟨(1 + r4).toNat, by omega⟩
      rw [hm]
      (refine pcm [0] rfl ?_; (refine bni ?_; repeat (refine bnk ?_; (try simp (disch := first | omega | (simp only [LN]; omega)) only [↓EC, EW, seval, ↓reduceIte, ↓EBD, EBE]))); refine callM_d (c_spec_l05DrawWord (n := m) (by omega) (by assumption)) ?_; rintro _ _ ⟨t, a5, z5, rfl, rfl, hs_, ht⟩; (refine bni ?_; repeat (refine bnk ?_; (try simp (disch := first | omega | (simp only [LN]; omega)) only [↓EC, EW, seval, ↓reduceIte, ↓EBD, EBE, srcC]))))
      have htl := ht.len
      have hK : 1 ≤ 1 + r3 ∧ 1 + r3 ≤ 3 := by omega
      obtain ⟨K, hK2⟩ : ∃ K : Nat, 1 + r3 = (K + 1 : Nat) := ⟨r3.toNat, by omega⟩
      rw [hK2]
      have hmK : m + m * K ≤ 15 := by
        have := Nat.mul_le_mul (show m ≤ 5 by omega) (show K ≤ 2 by omega)
        omega
      refine LPx_of (σ := List UInt8 × Nat × Nat) 100000 [(0, 67, 1), (66, 27, 1)] (fun s => [.int .i64 (s.2.1 + 1 : Nat), .str s.1]) (fun s => [srcC x l a5 z5, .int .i64 0 :: vi .u8 (List.replicate 32 0)])
        (fun s => Ws s.1 s.2.2 ∧ s.2.2 + m * s.2.1 ≤ 15 ∧ 1 ≤ s.2.2 ∧ s.2.1 ≤ 2) (fun s => s.2.1) (t, K, m) (by simp [frameOk, names, lpz, sclp, scv, scvs, nrfs, nrf, FRB]) ⟨ht, hmK, by simp only; omega, by simp only; omega⟩ ?_ ?_
      · (refine bni ?_; repeat (refine bnk ?_; simp (disch := first | omega | (simp only [LN]; omega)) only [↓EC, EW, seval, ↓reduceIte, ↓EBD, EBE, ColV_def, srcC]))
      · rintro ⟨t', k, e⟩ ⟨g1, g2, g3, g4⟩
        simp only at g1 g2 g3 g4
        have g5 := g1.len
        have he : e ≤ 15 := Nat.le_trans (Nat.le_add_right _ _) g2
        (refine bni ?_; repeat (refine bnk ?_; simp (disch := first | omega | (simp only [LN]; omega)) only [↓EC, EW, seval, ↓reduceIte, ↓EBD, EBE, ColV_def, lheap_def, srcC]))
        (refine Split.mkB (fun h => ?_) (fun h => ?_) <;> (try simp only [SD] at h))
        · obtain ⟨k, rfl⟩ : ∃ k', k = k' + 1 := ⟨k - 1, by omega⟩
          (refine bni ?_; repeat (refine bnk ?_; (try simp (disch := first | omega | (simp only [LN]; omega)) only [↓EC, EW, seval, ↓reduceIte, ↓EBD, EBE])))
          rw [Nat.mul_succ] at g2
          exact ⟨(t' ++ t, k, e + m), by simp, ⟨g1.app ht, by simp only; omega, by simp only; omega, by simp only; omega⟩, by simp only; omega⟩
        · (refine bni ?_; repeat (refine bnk ?_; (try simp (disch := first | omega | (simp only [LN]; omega)) only [↓EC, EW, seval, ↓reduceIte, ↓EBD, EBE])))
          refine pcd_r (c_spec_l05MadeN g1 (by omega)) ?_
          rintro _ ⟨p', q', rfl, hp', hq'⟩
          have hpl' := hp'.1
          have hql' := hq'.1
          (refine bni ?_; repeat (refine bnk ?_; (try simp (disch := first | omega | (simp only [LN]; omega)) only [↓EC, EW, seval, ↓reduceIte, ↓EBD, EBE, vD])))
          exact ⟨e, p', q', _, _, rfl, rfl, by assumption, hp', hq', by omega, by omega⟩
    · (refine bni ?_; repeat (refine bnk ?_; (try simp (disch := first | omega | (simp only [LN]; omega)) only [↓EC, EW, seval, ↓reduceIte, ↓EBD, EBE])))
      (refine Split.mkB (fun h => ?_) (fun h => ?_) <;> (try simp only [SD] at h))
      · (refine bni ?_; repeat (refine bnk ?_; (try simp (disch := first | omega | (simp only [LN]; omega)) only [↓EC, EW, seval, ↓reduceIte, ↓EBD, EBE])))
        (refine pcm [0] rfl ?_; (refine bni ?_; repeat (refine bnk ?_; (try simp (disch := first | omega | (simp only [LN]; omega)) only [↓EC, EW, seval, ↓reduceIte, ↓EBD, EBE]))); refine callM_d (c_spec_l01Next (by assumption) (by omega)) ?_; rintro _ _ ⟨r3, _, _, rfl, rfl, hs_, hr_⟩; (refine bni ?_; repeat (refine bnk ?_; (try simp (disch := first | omega | (simp only [LN]; omega)) only [↓EC, EW, seval, ↓reduceIte, ↓EBD, EBE, srcC]))))
        obtain ⟨m, hm⟩ : ∃ m : Nat, 1 + r3 = m := ⟨(1 + r3).toNat, by omega⟩
        rw [hm]
        (refine pcm [0] rfl ?_; (refine bni ?_; repeat (refine bnk ?_; (try simp (disch := first | omega | (simp only [LN]; omega)) only [↓EC, EW, seval, ↓reduceIte, ↓EBD, EBE]))); refine callM_d (c_spec_l05DrawWord (n := m) (by omega) (by assumption)) ?_; rintro _ _ ⟨t, a5, z5, rfl, rfl, hs_, ht⟩; (refine bni ?_; repeat (refine bnk ?_; (try simp (disch := first | omega | (simp only [LN]; omega)) only [↓EC, EW, seval, ↓reduceIte, ↓EBD, EBE, srcC]))))
        have htl := ht.len
        have hw2 : Ws (40 :: (t ++ [41])) (m + 1) := ht.wrap
        refine ⟨by omega, by omega, ?_⟩
        refine pcd_r (c_spec_l05MadeN hw2 (by omega)) ?_
        rintro _ ⟨p', q', rfl, hp', hq'⟩
        have hpl' := hp'.1
        have hql' := hq'.1
        have k0 := c_spec_l01Same (n := n) (by omega)
        have ho : lo16 (putL sameF ((n : Int)).toNat) := sameP_lo (by omega)
        (refine bni ?_; repeat (refine bnk ?_; (try simp (disch := first | omega | (simp only [LN]; omega)) only [↓EC, EW, seval, ↓reduceIte, ↓EBD, EBE, vD])))
        refine pcd_v k0 ?_
        clear k0
        generalize putL sameF ((n : Int)).toNat = o at *
        have hol := ho.1
        have lb := rnT_lo ho hp' (m + 1) (by omega)
        have lw := rnT_lo ho hq' (m + 1) (by omega)
        have q1 := lb.1
        have q2 := lw.1
        have k1 := c_spec_l05Moved (n := ((m + 1 : Nat) : Int)) hp' hq' ho (by omega)
        unfold vD at k1
        rw [Int.toNat_natCast (m + 1)] at k1
        (refine bni ?_; repeat (refine bnk ?_; (try simp (disch := first | omega | (simp only [LN]; omega)) only [↓EC, EW, seval, ↓reduceIte, ↓EBD, EBE])))
        refine pcd_v k1 ?_
        (refine bni ?_; repeat (refine bnk ?_; (try simp (disch := first | omega | (simp only [LN]; omega)) only [↓EC, EW, seval, ↓reduceIte, ↓EBD, EBE])))
        exact ⟨((m + 1 : Nat) : Int), _, _, _, _, rfl, rfl, by assumption, lb, lw, by omega, by omega⟩
      · (refine bni ?_; repeat (refine bnk ?_; (try simp (disch := first | omega | (simp only [LN]; omega)) only [↓EC, EW, seval, ↓reduceIte, ↓EBD, EBE])))
        exact ⟨n, p, q, _, _, rfl, rfl, by assumption, hp, hq, by omega, by omega⟩
theorem c_spec_l05Spoil {x : Value} {l : List Int} {a z : Int} (hs : okS l a) : PSpecM Try.prog 43 [.ptr 0 0] [(0, 67, 1)] [srcC x l a z] fun v c =>
    ∃ n p q a' z', v = vD n p q ∧ c = [srcC x l a' z'] ∧ okS l a' ∧ okP p ∧ okP q ∧ -1 ≤ n ∧ n ≤ 17 := by
  refine spec_l05Spoil_f.m rfl rfl ?_
  unfold srcC
  dsimp only [spec_l05Spoil_F, pcal_B, pcalp_B, pcala_B, pcond_B, pgk_B, JN_B, LP_B]
  (refine bni ?_; repeat (refine bnk ?_; (try simp (disch := first | omega | (simp only [LN]; omega)) only [↓EC, EW, seval, ↓reduceIte, ↓EBD, EBE])))
  (refine pcm [0] rfl ?_; (refine bni ?_; repeat (refine bnk ?_; (try simp (disch := first | omega | (simp only [LN]; omega)) only [↓EC, EW, seval, ↓reduceIte, ↓EBD, EBE]))); refine callM_d (c_spec_l01Next (by assumption) (by omega)) ?_; rintro _ _ ⟨r1, _, _, rfl, rfl, hs_, hr_⟩; (refine bni ?_; repeat (refine bnk ?_; (try simp (disch := first | omega | (simp only [LN]; omega)) only [↓EC, EW, seval, ↓reduceIte, ↓EBD, EBE, srcC]))))
  (refine Split.mkB (fun h => ?_) (fun h => ?_) <;> (try simp only [SD] at h))
  · (refine bni ?_; repeat (refine bnk ?_; (try simp (disch := first | omega | (simp only [LN]; omega)) only [↓EC, EW, seval, ↓reduceIte, ↓EBD, EBE])))
    (refine pcm [0] rfl ?_; (refine bni ?_; repeat (refine bnk ?_; (try simp (disch := first | omega | (simp only [LN]; omega)) only [↓EC, EW, seval, ↓reduceIte, ↓EBD, EBE]))); refine callM_d (c_spec_l01Spoil (m := 10) (by omega) (by assumption)) ?_; rintro _ _ ⟨n, p, q, a1, z1, rfl, rfl, hs_, hp, hq, hn, hnm⟩; (refine bni ?_; repeat (refine bnk ?_; (try simp (disch := first | omega | (simp only [LN]; omega)) only [↓EC, EW, seval, ↓reduceIte, ↓EBD, EBE, srcC]))))
    have hpl := hp.1
    have hql := hq.1
    (refine bni ?_; repeat (refine bnk ?_; (try simp (disch := first | omega | (simp only [LN]; omega)) only [↓EC, EW, seval, ↓reduceIte, ↓EBD, EBE, vD])))
    exact ⟨n, p, q, _, _, rfl, rfl, by assumption, hp, hq, by omega, by omega⟩
  · (refine bni ?_; repeat (refine bnk ?_; (try simp (disch := first | omega | (simp only [LN]; omega)) only [↓EC, EW, seval, ↓reduceIte, ↓EBD, EBE])))
    (refine pcm [0] rfl ?_; (refine bni ?_; repeat (refine bnk ?_; (try simp (disch := first | omega | (simp only [LN]; omega)) only [↓EC, EW, seval, ↓reduceIte, ↓EBD, EBE]))); refine callM_d (c_spec_l05Draw (by assumption)) ?_; rintro _ _ ⟨n, p, q, a1, z1, rfl, rfl, hs_, hp, hq, hn, hnm⟩; (refine bni ?_; repeat (refine bnk ?_; (try simp (disch := first | omega | (simp only [LN]; omega)) only [↓EC, EW, seval, ↓reduceIte, ↓EBD, EBE, srcC]))))
    have hpl := hp.1
    have hql := hq.1
    (refine bni ?_; repeat (refine bnk ?_; (try simp (disch := first | omega | (simp only [LN]; omega)) only [↓EC, EW, seval, ↓reduceIte, ↓EBD, EBE, vD])))
    refine pcd_v (c_spec_l01Is (n := n) hp.ok hq.ok) ?_
    (refine bni ?_; repeat (refine bnk ?_; (try simp (disch := first | omega | (simp only [LN]; omega)) only [↓EC, EW, seval, ↓reduceIte, ↓EBD, EBE])))
    (refine Split.mkB (fun h => ?_) (fun h => ?_) <;> (try simp only [SD] at h))
    · (refine bni ?_; repeat (refine bnk ?_; (try simp (disch := first | omega | (simp only [LN]; omega)) only [↓EC, EW, seval, ↓reduceIte, ↓EBD, EBE])))
      refine pcd_r (c_spec_l01Star (n := 4) (by omega)) ?_
      rintro _ ⟨p', q', rfl, hp', hq'⟩
      have hpl' := hp'.1
      have hql' := hq'.1
      (refine bni ?_; repeat (refine bnk ?_; (try simp (disch := first | omega | (simp only [LN]; omega)) only [↓EC, EW, seval, ↓reduceIte, ↓EBD, EBE, vD])))
      exact ⟨4, p', q', _, _, rfl, rfl, by assumption, hp'.ok, hq'.ok, by omega, by omega⟩
    · (refine bni ?_; repeat (refine bnk ?_; (try simp (disch := first | omega | (simp only [LN]; omega)) only [↓EC, EW, seval, ↓reduceIte, ↓EBD, EBE])))
      exact ⟨n, p, q, _, _, rfl, rfl, by assumption, hp.ok, hq.ok, by omega, by omega⟩
end
section
set_option maxHeartbeats 4000000
theorem c_spec_l01Near {x : Value} {l : List Int} {a z m : Int} (hm : 0 ≤ m ∧ m ≤ 1000) (hs : okS l a) : PSpecM Try.prog 26 [.ptr 0 0, .int .i64 m] [(0, 67, 1)] [srcC x l a z] fun v c =>
    ∃ y a' z', v = .int .i64 y ∧ c = [srcC x l a' z'] ∧ okS l a' := by
  refine spec_l01Near_f.m rfl rfl ?_
  unfold srcC
  dsimp only [spec_l01Near_F, pcal_B, pcalp_B, pcala_B, pcond_B, pgk_B, JN_B, LP_B]
  (refine bni ?_; repeat (refine bnk ?_; (try simp (disch := first | omega | (simp only [LN]; omega)) only [↓EC, EW, seval, ↓reduceIte, ↓EBD, EBE])))
  (refine pcm [0] rfl ?_; (refine bni ?_; repeat (refine bnk ?_; (try simp (disch := first | omega | (simp only [LN]; omega)) only [↓EC, EW, seval, ↓reduceIte, ↓EBD, EBE]))); refine callM_d (c_spec_l01Next (by assumption) (by omega)) ?_; rintro _ _ ⟨r1, _, _, rfl, rfl, hs_, hr_⟩; (refine bni ?_; repeat (refine bnk ?_; (try simp (disch := first | omega | (simp only [LN]; omega)) only [↓EC, EW, seval, ↓reduceIte, ↓EBD, EBE, srcC]))))
  (refine Split.mkB (fun h => ?_) (fun h => ?_) <;> (try simp only [SD] at h))
  · (refine bni ?_; repeat (refine bnk ?_; (try simp (disch := first | omega | (simp only [LN]; omega)) only [↓EC, EW, seval, ↓reduceIte, ↓EBD, EBE])))
    (refine pcm [0] rfl ?_; (refine bni ?_; repeat (refine bnk ?_; (try simp (disch := first | omega | (simp only [LN]; omega)) only [↓EC, EW, seval, ↓reduceIte, ↓EBD, EBE]))); refine callM_d (c_spec_l01Pick (m := [-1, m + 1, 1099511627776, -4611686018427387904]) (by assumption) (by simp) (by simp)) ?_; rintro _ _ ⟨y1, _, _, hy_, rfl, rfl, hs_⟩; simp only [List.mem_cons, List.not_mem_nil, or_false] at hy_; (refine bni ?_; repeat (refine bnk ?_; (try simp (disch := first | omega | (simp only [LN]; omega)) only [↓EC, EW, seval, ↓reduceIte, ↓EBD, EBE, srcC]))))
    exact ⟨_, _, _, rfl, rfl, by assumption⟩
  · (refine bni ?_; repeat (refine bnk ?_; (try simp (disch := first | omega | (simp only [LN]; omega)) only [↓EC, EW, seval, ↓reduceIte, ↓EBD, EBE])))
    (refine pcm [0] rfl ?_; (refine bni ?_; repeat (refine bnk ?_; (try simp (disch := first | omega | (simp only [LN]; omega)) only [↓EC, EW, seval, ↓reduceIte, ↓EBD, EBE]))); refine callM_d (c_spec_l01Next (by assumption) (by omega)) ?_; rintro _ _ ⟨r2, _, _, rfl, rfl, hs_, hr_⟩; (refine bni ?_; repeat (refine bnk ?_; (try simp (disch := first | omega | (simp only [LN]; omega)) only [↓EC, EW, seval, ↓reduceIte, ↓EBD, EBE, srcC]))))
    exact ⟨_, _, _, rfl, rfl, by assumption⟩
theorem suR_ok {n : Int} {b w : List Int} (hb : okP b) (hw : okP w) (hnl : -1 ≤ n ∧ n ≤ 17) : ∃ m p q c, vDC (suR n b w) = .tup [vD m p q, .int .i64 c] ∧ okP p ∧ okP q ∧ -1 ≤ m ∧ m ≤ 17 := by
  have z : okP z16 := ⟨by simp [z16], fun i hi => by unfold z16; rw [gi_rep]; split <;> omega⟩
  cases hd : isDB n b w with
  | false => exact ⟨0, z16, z16, 1, by simp [suR, hd, vDC], z, z, by omega, by omega⟩
  | true =>
    have D := (isDB_iff.1 hd).dz hb hw
    have hn := D.B.hn
    by_cases h8 : 2 * n ≤ 16
    · have S : Su n b w := ⟨D, by omega⟩
      exact ⟨2 * n, suB b w n, suW n, 0, by simp [suR, hd, vDC, h8], S.B.1.lo.ok, S.W.1.lo.ok, by omega, by omega⟩
    · exact ⟨0, z16, z16, 3, by simp [suR, hd, vDC, h8], z, z, by omega, by omega⟩
theorem c_spec_l07Map {x : Value} {l : List Int} {a z : Int} (hs : okS l a) : PSpecM Try.prog 65 [.ptr 0 0] [(0, 67, 1)] [srcC x l a z] fun v c =>
    ∃ n p q a' z', v = vD n p q ∧ c = [srcC x l a' z'] ∧ okS l a' ∧ okP p ∧ okP q ∧ -1 ≤ n ∧ n ≤ 17 := by
  refine spec_l07Map_f.m rfl rfl ?_
  unfold srcC
  dsimp only [spec_l07Map_F, pcal_B, pcalp_B, pcala_B, pcond_B, pgk_B, JN_B, LP_B]
  (refine bni ?_; repeat (refine bnk ?_; (try simp (disch := first | omega | (simp only [LN]; omega)) only [↓EC, EW, seval, ↓reduceIte, ↓EBD, EBE])))
  refine LPx_of (σ := Nat × Int × Int) 100000 [(0, 67, 1), (66, 27, 1)] (fun s => [.int .i64 s.1]) (fun s => [srcC x l s.2.1 s.2.2, .int .i64 0 :: vi .u8 (List.replicate 32 0)])
    (fun s => okS l s.2.1 ∧ s.1 ≤ 6) (fun s => 6 - s.1) (0, a, z) (by simp [frameOk, names, lpz, sclp, scv, scvs, nrfs, nrf, FRB]) ⟨by assumption, by simp only; omega⟩ ?_ ?_
  · (refine bni ?_; repeat (refine bnk ?_; simp (disch := first | omega | (simp only [LN]; omega)) only [↓EC, EW, seval, ↓reduceIte, ↓EBD, EBE, ColV_def, srcC]))
  · rintro ⟨k, a, z⟩ ⟨h1, h2⟩
    simp only at h1 h2
    (refine bni ?_; repeat (refine bnk ?_; simp (disch := first | omega | (simp only [LN]; omega)) only [↓EC, EW, seval, ↓reduceIte, ↓EBD, EBE, ColV_def, lheap_def, srcC]))
    (refine Split.mkB (fun h => ?_) (fun h => ?_) <;> (try simp only [SD] at h))
    · (refine bni ?_; repeat (refine bnk ?_; (try simp (disch := first | omega | (simp only [LN]; omega)) only [↓EC, EW, seval, ↓reduceIte, ↓EBD, EBE])))
      (refine pcm [0] rfl ?_; (refine bni ?_; repeat (refine bnk ?_; (try simp (disch := first | omega | (simp only [LN]; omega)) only [↓EC, EW, seval, ↓reduceIte, ↓EBD, EBE]))); refine callM_d (c_spec_l01Next (by assumption) (by omega)) ?_; rintro _ _ ⟨r1, _, _, rfl, rfl, hs_, hr_⟩; (refine bni ?_; repeat (refine bnk ?_; (try simp (disch := first | omega | (simp only [LN]; omega)) only [↓EC, EW, seval, ↓reduceIte, ↓EBD, EBE, srcC]))))
      obtain ⟨n, hn⟩ : ∃ n : Nat, 1 + r1 = n := ⟨(1 + r1).toNat, by omega⟩
      have hnl : 1 ≤ n ∧ n ≤ 8 := by omega
      rw [hn]
      (refine pcm [0] rfl ?_; (refine bni ?_; repeat (refine bnk ?_; (try simp (disch := first | omega | (simp only [LN]; omega)) only [↓EC, EW, seval, ↓reduceIte, ↓EBD, EBE]))); refine callM_d (c_spec_l01DrawPlaces (n := 2 * (n : Int)) (by omega) (by assumption)) ?_; rintro _ _ ⟨o, a2, z2, rfl, rfl, hs_, ho⟩; (refine bni ?_; repeat (refine bnk ?_; (try simp (disch := first | omega | (simp only [LN]; omega)) only [↓EC, EW, seval, ↓reduceIte, ↓EBD, EBE, srcC]))))
      have hol := ho.1
      (refine bni ?_; repeat (refine bnk ?_; (try simp (disch := first | omega | (simp only [LN]; omega)) only [↓EC, EW, seval, ↓reduceIte, ↓EBD, EBE])))
      refine LPx_of (σ := List Int × Nat) 200000 [(0, 67, 1), (66, 27, 1), (69, 25, 1), (70, 25, 1)] (fun s => [.int .i64 (2 * (s.2 : Int))]) (fun s => [srcC x l a2 z2, .int .i64 0 :: vi .u8 (List.replicate 32 0), vi .u8 s.1, vi .u8 o])
        (fun s => lo16 s.1 ∧ s.2 ≤ n) (fun s => n - s.2) (List.replicate 16 0, 0) (by simp [frameOk, names, lpz, sclp, scv, scvs, nrfs, nrf, FRB]) ⟨lo16_zero, by simp only; omega⟩ ?_ ?_
      · (refine bni ?_; repeat (refine bnk ?_; simp (disch := first | omega | (simp only [LN]; omega)) only [↓EC, EW, seval, ↓reduceIte, ↓EBD, EBE, ColV_def, srcC]))
      · rintro ⟨p, i⟩ ⟨g1, g2⟩
        simp only at g1 g2
        have hpl := g1.1
        (refine bni ?_; repeat (refine bnk ?_; simp (disch := first | omega | (simp only [LN]; omega)) only [↓EC, EW, seval, ↓reduceIte, ↓EBD, EBE, ColV_def, lheap_def, srcC]))
        (refine Split.mkB (fun h => ?_) (fun h => ?_) <;> (try simp only [SD] at h))
        · have b1 := ho.2 (2 * i) (by omega)
          have b2 := ho.2 (2 * i + 1) (by omega)
          have e1 : (2 * (i : Int)).toNat = 2 * i := by omega
          have e2 : (2 * (i : Int) + 1).toNat = 2 * i + 1 := by omega
          (refine bni ?_; repeat (refine bnk ?_; (try simp (disch := first | omega | (simp only [LN]; omega)) only [↓EC, EW, seval, ↓reduceIte, ↓EBD, EBE, e1, e2])))
          exact ⟨(_, i + 1), by simp; omega, rfl, ⟨lo16_set (lo16_set g1 b2) b1, by simp only; omega⟩, by simp only; omega⟩
        · (refine bni ?_; repeat (refine bnk ?_; (try simp (disch := first | omega | (simp only [LN]; omega)) only [↓EC, EW, seval, ↓reduceIte, ↓EBD, EBE])))
          (refine pcma [0] rfl ?_; (refine bni ?_; repeat (refine bnk ?_; (try simp (disch := first | omega | (simp only [LN]; omega)) only [↓EC, EW, seval, ↓reduceIte, ↓EBD, EBE]))); refine callM_d (c_spec_l01Pick (m := [3, 4, 2 * (n : Int)]) (by assumption) (by simp) (by simp)) ?_; rintro _ _ ⟨y1, _, _, hy_, rfl, rfl, hs_⟩; simp only [List.mem_cons, List.not_mem_nil, or_false] at hy_; (refine bni ?_; repeat (refine bnk ?_; (try simp (disch := first | omega | (simp only [LN]; omega)) only [↓EC, EW, seval, ↓reduceIte, ↓EBD, EBE, srcC]))))
          (refine pcma [0] rfl ?_; (refine bni ?_; repeat (refine bnk ?_; (try simp (disch := first | omega | (simp only [LN]; omega)) only [↓EC, EW, seval, ↓reduceIte, ↓EBD, EBE]))); refine callM_d (c_spec_l01Pairs (n := 2 * (n : Int)) (m := y1) (by omega) (by omega) (by assumption)) ?_; rintro _ _ ⟨b, a4, z4, rfl, rfl, hs_, hb⟩; (refine bni ?_; repeat (refine bnk ?_; (try simp (disch := first | omega | (simp only [LN]; omega)) only [↓EC, EW, seval, ↓reduceIte, ↓EBD, EBE, srcC]))))
          have hbl := hb.1
          (refine bni ?_; repeat (refine bnk ?_; (try simp (disch := first | omega | (simp only [LN]; omega)) only [↓EC, EW, seval, ↓reduceIte, ↓EBD, EBE])))
          have k1 := c_spec_l01Is (n := 2 * (n : Int)) hb.ok g1.ok
          unfold vD at k1
          refine pcd_v k1 ?_
          (refine bni ?_; repeat (refine bnk ?_; (try simp (disch := first | omega | (simp only [LN]; omega)) only [↓EC, EW, seval, ↓reduceIte, ↓EBD, EBE])))
          (refine Split.mkB (fun h => ?_) (fun h => ?_) <;> (try simp only [SD] at h))
          · (refine bni ?_; repeat (refine bnk ?_; (try simp (disch := first | omega | (simp only [LN]; omega)) only [↓EC, EW, seval, ↓reduceIte, ↓EBD, EBE])))
            exact ⟨2 * n, b, p, _, _, rfl, rfl, by assumption, hb.ok, g1.ok, by omega, by omega⟩
          · (refine bni ?_; repeat (refine bnk ?_; (try simp (disch := first | omega | (simp only [LN]; omega)) only [↓EC, EW, seval, ↓reduceIte, ↓EBD, EBE])))
            exact ⟨(k + 1, a4, z4), by simp, rfl, ⟨by assumption, by simp only; omega⟩, by simp only; omega⟩
    · (refine bni ?_; repeat (refine bnk ?_; (try simp (disch := first | omega | (simp only [LN]; omega)) only [↓EC, EW, seval, ↓reduceIte, ↓EBD, EBE])))
      (refine pcm [0] rfl ?_; (refine bni ?_; repeat (refine bnk ?_; (try simp (disch := first | omega | (simp only [LN]; omega)) only [↓EC, EW, seval, ↓reduceIte, ↓EBD, EBE]))); refine callM_d (c_spec_l01Draw (m := 8) (by omega) (by assumption)) ?_; rintro _ _ ⟨n, p, q, a2, z2, rfl, rfl, hs_, hp, hq, hn, hnm⟩; (refine bni ?_; repeat (refine bnk ?_; (try simp (disch := first | omega | (simp only [LN]; omega)) only [↓EC, EW, seval, ↓reduceIte, ↓EBD, EBE, srcC]))))
      have hpl := hp.1
      have hql := hq.1
      (refine bni ?_; repeat (refine bnk ?_; (try simp (disch := first | omega | (simp only [LN]; omega)) only [↓EC, EW, seval, ↓reduceIte, ↓EBD, EBE, vD])))
      obtain ⟨m, p', q', c, e, op, oq, hm⟩ := suR_ok hp.ok hq.ok (n := n) (by omega)
      have k1 := c_spec_SubdividedOf (n := n) hp.ok hq.ok (by omega)
      rw [e] at k1
      have hpl' := op.1
      have hql' := oq.1
      unfold vD at k1
      refine pcd_v k1 ?_
      (refine bni ?_; repeat (refine bnk ?_; (try simp (disch := first | omega | (simp only [LN]; omega)) only [↓EC, EW, seval, ↓reduceIte, ↓EBD, EBE])))
      exact ⟨m, p', q', _, _, rfl, rfl, by assumption, op, oq, by omega, by omega⟩
theorem c_spec_l07Spoil {x : Value} {l : List Int} {a z : Int} (hs : okS l a) : PSpecM Try.prog 45 [.ptr 0 0] [(0, 67, 1)] [srcC x l a z] fun v c =>
    ∃ n p q a' z', v = vD n p q ∧ c = [srcC x l a' z'] ∧ okS l a' ∧ okP p ∧ okP q ∧ -1 ≤ n ∧ n ≤ 17 := by
  refine spec_l07Spoil_f.m rfl rfl ?_
  unfold srcC
  dsimp only [spec_l07Spoil_F, pcal_B, pcalp_B, pcala_B, pcond_B, pgk_B, JN_B, LP_B]
  (refine bni ?_; repeat (refine bnk ?_; (try simp (disch := first | omega | (simp only [LN]; omega)) only [↓EC, EW, seval, ↓reduceIte, ↓EBD, EBE])))
  (refine pcm [0] rfl ?_; (refine bni ?_; repeat (refine bnk ?_; (try simp (disch := first | omega | (simp only [LN]; omega)) only [↓EC, EW, seval, ↓reduceIte, ↓EBD, EBE]))); refine callM_d (c_spec_l01Next (by assumption) (by omega)) ?_; rintro _ _ ⟨r1, _, _, rfl, rfl, hs_, hr_⟩; (refine bni ?_; repeat (refine bnk ?_; (try simp (disch := first | omega | (simp only [LN]; omega)) only [↓EC, EW, seval, ↓reduceIte, ↓EBD, EBE, srcC]))))
  (refine Split.mkB (fun h => ?_) (fun h => ?_) <;> (try simp only [SD] at h))
  · (refine bni ?_; repeat (refine bnk ?_; (try simp (disch := first | omega | (simp only [LN]; omega)) only [↓EC, EW, seval, ↓reduceIte, ↓EBD, EBE])))
    (refine pcm [0] rfl ?_; (refine bni ?_; repeat (refine bnk ?_; (try simp (disch := first | omega | (simp only [LN]; omega)) only [↓EC, EW, seval, ↓reduceIte, ↓EBD, EBE]))); refine callM_d (c_spec_l01Spoil (m := 16) (by omega) (by assumption)) ?_; rintro _ _ ⟨n, p, q, a1, z1, rfl, rfl, hs_, hp, hq, hn, hnm⟩; (refine bni ?_; repeat (refine bnk ?_; (try simp (disch := first | omega | (simp only [LN]; omega)) only [↓EC, EW, seval, ↓reduceIte, ↓EBD, EBE, srcC]))))
    have hpl := hp.1
    have hql := hq.1
    (refine bni ?_; repeat (refine bnk ?_; (try simp (disch := first | omega | (simp only [LN]; omega)) only [↓EC, EW, seval, ↓reduceIte, ↓EBD, EBE, vD])))
    exact ⟨n, p, q, _, _, rfl, rfl, by assumption, hp, hq, by omega, by omega⟩
  · (refine bni ?_; repeat (refine bnk ?_; (try simp (disch := first | omega | (simp only [LN]; omega)) only [↓EC, EW, seval, ↓reduceIte, ↓EBD, EBE])))
    (refine pcm [0] rfl ?_; (refine bni ?_; repeat (refine bnk ?_; (try simp (disch := first | omega | (simp only [LN]; omega)) only [↓EC, EW, seval, ↓reduceIte, ↓EBD, EBE]))); refine callM_d (c_spec_l07Map (by assumption)) ?_; rintro _ _ ⟨n, p, q, a1, z1, rfl, rfl, hs_, hp, hq, hn, hnm⟩; (refine bni ?_; repeat (refine bnk ?_; (try simp (disch := first | omega | (simp only [LN]; omega)) only [↓EC, EW, seval, ↓reduceIte, ↓EBD, EBE, srcC]))))
    have hpl := hp.1
    have hql := hq.1
    (refine bni ?_; repeat (refine bnk ?_; (try simp (disch := first | omega | (simp only [LN]; omega)) only [↓EC, EW, seval, ↓reduceIte, ↓EBD, EBE, vD])))
    exact ⟨n, p, q, _, _, rfl, rfl, by assumption, hp, hq, by omega, by omega⟩
theorem c_spec_DrawExchangeOf {x : Value} {l : List Int} (hB : okB l) : PSpec Try.prog 5 [.fz x l] fun v => ∃ n p q k, v = .tup [vD n p q, .int .i64 k] ∧ okP p ∧ okP q ∧ -1 ≤ n ∧ n ≤ 17 := by
  refine spec_DrawExchangeOf_f.f ?_
  simp (disch := first | omega | (simp only [LN]; omega)) only [↓EC, EW, seval, ↓reduceIte, spec_DrawExchangeOf_F]
  (refine pcn_q (c_spec_l01From hB) rfl ?_; rintro _ _ ⟨rfl, z, rfl⟩; have hs_ := okS_0 hB; (try simp (disch := first | omega | (simp only [LN]; omega)) only [↓EC, EW, seval, ↓reduceIte, srcC]))
  (refine pcm [70] rfl ?_; (try simp (disch := first | omega | (simp only [LN]; omega)) only [↓EC, EW, seval, ↓reduceIte]); refine callM_d (c_spec_l01Spoil (m := 16) (by omega) (by assumption)) ?_; rintro _ _ ⟨n, p, q, a1, z1, rfl, rfl, hs_, hp, hq, hn, hnm⟩; (try simp (disch := first | omega | (simp only [LN]; omega)) only [↓EC, EW, seval, ↓reduceIte, srcC]))
  have hpl := hp.1
  have hql := hq.1
  (try simp (disch := first | omega | (simp only [LN]; omega)) only [↓EC, EW, seval, ↓reduceIte, vD])
  (refine pcm [70] rfl ?_; (try simp (disch := first | omega | (simp only [LN]; omega)) only [↓EC, EW, seval, ↓reduceIte]); refine callM_d (c_spec_l01Near (m := 5) (by omega) (by assumption)) ?_; rintro _ _ ⟨k, a2, z2, rfl, rfl, hs_⟩; (try simp (disch := first | omega | (simp only [LN]; omega)) only [↓EC, EW, seval, ↓reduceIte, srcC]))
  (try simp (disch := first | omega | (simp only [LN]; omega)) only [↓EC, EW, seval, ↓reduceIte, vD])
  exact ⟨n, p, q, k, rfl, hp, hq, hn, hnm⟩
theorem c_spec_DrawSubdividedOf {x : Value} {l : List Int} (hB : okB l) : PSpec Try.prog 12 [.fz x l] fun v => ∃ n p q, v = vD n p q ∧ okP p ∧ okP q ∧ -1 ≤ n ∧ n ≤ 17 := by
  refine spec_DrawSubdividedOf_f.f ?_
  simp (disch := first | omega | (simp only [LN]; omega)) only [↓EC, EW, seval, ↓reduceIte, spec_DrawSubdividedOf_F]
  (refine pcn_q (c_spec_l01From hB) rfl ?_; rintro _ _ ⟨rfl, z, rfl⟩; have hs_ := okS_0 hB; (try simp (disch := first | omega | (simp only [LN]; omega)) only [↓EC, EW, seval, ↓reduceIte, srcC]))
  (refine pcm [68] rfl ?_; (try simp (disch := first | omega | (simp only [LN]; omega)) only [↓EC, EW, seval, ↓reduceIte]); refine callM_d (c_spec_l01Spoil (m := 9) (by omega) (by assumption)) ?_; rintro _ _ ⟨n, p, q, a1, z1, rfl, rfl, hs_, hp, hq, hn, hnm⟩; (try simp (disch := first | omega | (simp only [LN]; omega)) only [↓EC, EW, seval, ↓reduceIte, srcC]))
  have hpl := hp.1
  have hql := hq.1
  (try simp (disch := first | omega | (simp only [LN]; omega)) only [↓EC, EW, seval, ↓reduceIte, vD])
  exact ⟨n, p, q, rfl, hp, hq, hn, hnm⟩
theorem c_spec_DrawIsClean {x : Value} {l : List Int} (hB : okB l) : PSpec Try.prog 22 [.fz x l] fun v => ∃ n p q, v = vD n p q ∧ okP p ∧ okP q ∧ -1 ≤ n ∧ n ≤ 17 := by
  refine spec_DrawIsClean_f.f ?_
  simp (disch := first | omega | (simp only [LN]; omega)) only [↓EC, EW, seval, ↓reduceIte, spec_DrawIsClean_F]
  (refine pcn_q (c_spec_l01From hB) rfl ?_; rintro _ _ ⟨rfl, z, rfl⟩; have hs_ := okS_0 hB; (try simp (disch := first | omega | (simp only [LN]; omega)) only [↓EC, EW, seval, ↓reduceIte, srcC]))
  (refine pcm [68] rfl ?_; (try simp (disch := first | omega | (simp only [LN]; omega)) only [↓EC, EW, seval, ↓reduceIte]); refine callM_d (c_spec_l07Spoil (by assumption)) ?_; rintro _ _ ⟨n, p, q, a1, z1, rfl, rfl, hs_, hp, hq, hn, hnm⟩; (try simp (disch := first | omega | (simp only [LN]; omega)) only [↓EC, EW, seval, ↓reduceIte, srcC]))
  have hpl := hp.1
  have hql := hq.1
  (try simp (disch := first | omega | (simp only [LN]; omega)) only [↓EC, EW, seval, ↓reduceIte, vD])
  exact ⟨n, p, q, rfl, hp, hq, hn, hnm⟩
theorem c_spec_DrawIsChiral {x : Value} {l : List Int} (hB : okB l) : PSpec Try.prog 20 [.fz x l] fun v => ∃ n p q, v = vD n p q ∧ okP p ∧ okP q ∧ -1 ≤ n ∧ n ≤ 17 := by
  refine spec_DrawIsChiral_f.f ?_
  simp (disch := first | omega | (simp only [LN]; omega)) only [↓EC, EW, seval, ↓reduceIte, spec_DrawIsChiral_F]
  (refine pcn_q (c_spec_l01From hB) rfl ?_; rintro _ _ ⟨rfl, z, rfl⟩; have hs_ := okS_0 hB; (try simp (disch := first | omega | (simp only [LN]; omega)) only [↓EC, EW, seval, ↓reduceIte, srcC]))
  (refine pcm [69] rfl ?_; (try simp (disch := first | omega | (simp only [LN]; omega)) only [↓EC, EW, seval, ↓reduceIte]); refine callM_d (c_spec_l01Next (by assumption) (by omega)) ?_; rintro _ _ ⟨r1, _, _, rfl, rfl, hs_, hr_⟩; (try simp (disch := first | omega | (simp only [LN]; omega)) only [↓EC, EW, seval, ↓reduceIte, srcC]))
  (refine Split.mk (fun h => ?_) (fun h => ?_) <;> (try simp only [SD] at h))
  · (refine pcm [69] rfl ?_; (try simp (disch := first | omega | (simp only [LN]; omega)) only [↓EC, EW, seval, ↓reduceIte]); refine callM_d (c_spec_l05Spoil (by assumption)) ?_; rintro _ _ ⟨n, p, q, a1, z1, rfl, rfl, hs_, hp, hq, hn, hnm⟩; (try simp (disch := first | omega | (simp only [LN]; omega)) only [↓EC, EW, seval, ↓reduceIte, srcC]))
    have hpl := hp.1
    have hql := hq.1
    (try simp (disch := first | omega | (simp only [LN]; omega)) only [↓EC, EW, seval, ↓reduceIte, vD])
    exact ⟨n, p, q, rfl, hp, hq, hn, hnm⟩
  · (refine pcm [69] rfl ?_; (try simp (disch := first | omega | (simp only [LN]; omega)) only [↓EC, EW, seval, ↓reduceIte]); refine callM_d (c_spec_l01Spoil (m := 12) (by omega) (by assumption)) ?_; rintro _ _ ⟨n, p, q, a1, z1, rfl, rfl, hs_, hp, hq, hn, hnm⟩; (try simp (disch := first | omega | (simp only [LN]; omega)) only [↓EC, EW, seval, ↓reduceIte, srcC]))
    have hpl := hp.1
    have hql := hq.1
    (try simp (disch := first | omega | (simp only [LN]; omega)) only [↓EC, EW, seval, ↓reduceIte, vD])
    exact ⟨n, p, q, rfl, hp, hq, hn, hnm⟩
theorem c_spec_DrawAreAlike {x : Value} {l : List Int} (hB : okB l) : PSpec Try.prog 16 [.fz x l] fun v => ∃ n p q m r t, v = .tup [vD n p q, vD m r t] ∧ okP p ∧ okP q ∧ (-1 ≤ n ∧ n ≤ 17) ∧ okP r ∧ okP t ∧ (-1 ≤ m ∧ m ≤ 17) := by
  refine spec_DrawAreAlike_f.f ?_
  dsimp only [spec_DrawAreAlike_F, pcal_B, pcalp_B, pcala_B, pcond_B, pgk_B, JN_B, LP_B]
  (refine bni ?_; repeat (refine bnk ?_; (try simp (disch := first | omega | (simp only [LN]; omega)) only [↓EC, EW, seval, ↓reduceIte, ↓EBD, EBE])))
  (refine pcn_q (c_spec_l01From hB) rfl ?_; rintro _ _ ⟨rfl, z, rfl⟩; have hs_ := okS_0 hB; (try simp (disch := first | omega | (simp only [LN]; omega)) only [↓EC, EW, seval, ↓reduceIte, srcC]))
  (refine bni ?_; repeat (refine bnk ?_; (try simp (disch := first | omega | (simp only [LN]; omega)) only [↓EC, EW, seval, ↓reduceIte, ↓EBD, EBE])))
  (refine pcm [71] rfl ?_; (refine bni ?_; repeat (refine bnk ?_; (try simp (disch := first | omega | (simp only [LN]; omega)) only [↓EC, EW, seval, ↓reduceIte, ↓EBD, EBE]))); refine callM_d (c_spec_l01Spoil (m := 16) (by omega) (by assumption)) ?_; rintro _ _ ⟨n, p, q, a1, z1, rfl, rfl, hs_, hp, hq, hn, hnm⟩; (refine bni ?_; repeat (refine bnk ?_; (try simp (disch := first | omega | (simp only [LN]; omega)) only [↓EC, EW, seval, ↓reduceIte, ↓EBD, EBE, srcC]))))
  have hpl := hp.1
  have hql := hq.1
  (refine bni ?_; repeat (refine bnk ?_; (try simp (disch := first | omega | (simp only [LN]; omega)) only [↓EC, EW, seval, ↓reduceIte, ↓EBD, EBE, vD])))
  refine pcd_v (c_spec_l01Is (n := n) hp hq) ?_
  cases hd : isDB n p q with
  | true =>
    have D := (isDB_iff.1 hd).dz hp hq
    have hn' := D.B.hn
    (refine bni ?_; repeat (refine bnk ?_; (try simp (disch := first | omega | (simp only [LN]; omega)) only [↓EC, EW, seval, ↓reduceIte, ↓EBD, EBE])))
    (refine pcm [71] rfl ?_; (refine bni ?_; repeat (refine bnk ?_; (try simp (disch := first | omega | (simp only [LN]; omega)) only [↓EC, EW, seval, ↓reduceIte, ↓EBD, EBE]))); refine callM_d (c_spec_l01Next (by assumption) (by omega)) ?_; rintro _ _ ⟨r1, _, _, rfl, rfl, hs_, hr_⟩; (refine bni ?_; repeat (refine bnk ?_; (try simp (disch := first | omega | (simp only [LN]; omega)) only [↓EC, EW, seval, ↓reduceIte, ↓EBD, EBE, srcC]))))
    (refine Split.mkB (fun h => ?_) (fun h => ?_) <;> (try simp only [SD] at h))
    · (refine bni ?_; repeat (refine bnk ?_; (try simp (disch := first | omega | (simp only [LN]; omega)) only [↓EC, EW, seval, ↓reduceIte, ↓EBD, EBE])))
      (refine pcma [71] rfl ?_; (refine bni ?_; repeat (refine bnk ?_; (try simp (disch := first | omega | (simp only [LN]; omega)) only [↓EC, EW, seval, ↓reduceIte, ↓EBD, EBE]))); refine callM_d (c_spec_l01DrawPlaces (n := n) (by omega) (by assumption)) ?_; rintro _ _ ⟨o, a3, z3, rfl, rfl, hs_, ho⟩; (refine bni ?_; repeat (refine bnk ?_; (try simp (disch := first | omega | (simp only [LN]; omega)) only [↓EC, EW, seval, ↓reduceIte, ↓EBD, EBE, srcC]))))
      have hol := ho.1
      have lb := rnT_lo ho D.B.lo n.toNat (by omega)
      have lw := rnT_lo ho D.W.lo n.toNat (by omega)
      have q1 := lb.1
      have q2 := lw.1
      have k1 := c_spec_l05Moved (n := n) D.B.lo D.W.lo ho hn'
      unfold vD at k1
      (refine bni ?_; repeat (refine bnk ?_; (try simp (disch := first | omega | (simp only [LN]; omega)) only [↓EC, EW, seval, ↓reduceIte, ↓EBD, EBE])))
      refine pcd_v k1 ?_
      (refine bni ?_; repeat (refine bnk ?_; (try simp (disch := first | omega | (simp only [LN]; omega)) only [↓EC, EW, seval, ↓reduceIte, ↓EBD, EBE])))
      exact ⟨n, p, q, n, _, _, rfl, hp, hq, ⟨hn, hnm⟩, lb.ok, lw.ok, hn, hnm⟩
    · (refine bni ?_; repeat (refine bnk ?_; (try simp (disch := first | omega | (simp only [LN]; omega)) only [↓EC, EW, seval, ↓reduceIte, ↓EBD, EBE])))
      (refine pcma [71] rfl ?_; (refine bni ?_; repeat (refine bnk ?_; (try simp (disch := first | omega | (simp only [LN]; omega)) only [↓EC, EW, seval, ↓reduceIte, ↓EBD, EBE]))); refine callM_d (c_spec_l01Pick (m := [3, 16]) (by assumption) (by simp) (by simp)) ?_; rintro _ _ ⟨y1, _, _, hy_, rfl, rfl, hs_⟩; simp only [List.mem_cons, List.not_mem_nil, or_false] at hy_; (refine bni ?_; repeat (refine bnk ?_; (try simp (disch := first | omega | (simp only [LN]; omega)) only [↓EC, EW, seval, ↓reduceIte, ↓EBD, EBE, srcC]))))
      (refine pcma [71] rfl ?_; (refine bni ?_; repeat (refine bnk ?_; (try simp (disch := first | omega | (simp only [LN]; omega)) only [↓EC, EW, seval, ↓reduceIte, ↓EBD, EBE]))); refine callM_d (c_spec_l01Spoil (m := y1) (by omega) (by assumption)) ?_; rintro _ _ ⟨n', p', q', a1, z1, rfl, rfl, hs_, hp', hq', hn', hnm'⟩; (refine bni ?_; repeat (refine bnk ?_; (try simp (disch := first | omega | (simp only [LN]; omega)) only [↓EC, EW, seval, ↓reduceIte, ↓EBD, EBE, srcC]))))
      have hpl' := hp'.1
      have hql' := hq'.1
      (refine bni ?_; repeat (refine bnk ?_; (try simp (disch := first | omega | (simp only [LN]; omega)) only [↓EC, EW, seval, ↓reduceIte, ↓EBD, EBE, vD])))
      exact ⟨n, p, q, n', p', q', rfl, hp, hq, ⟨hn, hnm⟩, hp', hq', hn', hnm'⟩
  | false =>
    (refine bni ?_; repeat (refine bnk ?_; (try simp (disch := first | omega | (simp only [LN]; omega)) only [↓EC, EW, seval, ↓reduceIte, ↓EBD, EBE])))
    (refine pcma [71] rfl ?_; (refine bni ?_; repeat (refine bnk ?_; (try simp (disch := first | omega | (simp only [LN]; omega)) only [↓EC, EW, seval, ↓reduceIte, ↓EBD, EBE]))); refine callM_d (c_spec_l01Pick (m := [3, 16]) (by assumption) (by simp) (by simp)) ?_; rintro _ _ ⟨y1, _, _, hy_, rfl, rfl, hs_⟩; simp only [List.mem_cons, List.not_mem_nil, or_false] at hy_; (refine bni ?_; repeat (refine bnk ?_; (try simp (disch := first | omega | (simp only [LN]; omega)) only [↓EC, EW, seval, ↓reduceIte, ↓EBD, EBE, srcC]))))
    (refine pcma [71] rfl ?_; (refine bni ?_; repeat (refine bnk ?_; (try simp (disch := first | omega | (simp only [LN]; omega)) only [↓EC, EW, seval, ↓reduceIte, ↓EBD, EBE]))); refine callM_d (c_spec_l01Spoil (m := y1) (by omega) (by assumption)) ?_; rintro _ _ ⟨n', p', q', a1, z1, rfl, rfl, hs_, hp', hq', hn', hnm'⟩; (refine bni ?_; repeat (refine bnk ?_; (try simp (disch := first | omega | (simp only [LN]; omega)) only [↓EC, EW, seval, ↓reduceIte, ↓EBD, EBE, srcC]))))
    have hpl' := hp'.1
    have hql' := hq'.1
    (refine bni ?_; repeat (refine bnk ?_; (try simp (disch := first | omega | (simp only [LN]; omega)) only [↓EC, EW, seval, ↓reduceIte, ↓EBD, EBE, vD])))
    exact ⟨n, p, q, n', p', q', rfl, hp, hq, ⟨hn, hnm⟩, hp', hq', hn', hnm'⟩
end
end Go.Proofs.Ytbjbpmicnmjbfaa.Sep

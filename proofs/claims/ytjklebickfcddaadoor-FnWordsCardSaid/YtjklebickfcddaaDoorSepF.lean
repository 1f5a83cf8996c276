/- Appends, calls: sound; and so is every operation. -/
import Derived.Test.YtjklebickfcddaaDoorSepE
namespace Go.Proofs.YtjklebickfcddaaDoor.Sep
open Go.RowKit
set_option linter.unusedVariables false
set_option linter.unusedSimpArgs false
set_option linter.constructorNameAsVariable false

section
variable {P : Program} {w : World}

theorem readS_cells {B : Bd} {w0 : World} {h : H} (hs : Sat B w0 w h) {sz b o n c m : Nat} {news : List Value} (hr : readS sz h (.slice (some ⟨b, o, none⟩) n c) = some (m, news)) :
    m = n ∧ news.length = m * sz ∧ ∀ j u, news[j]? = some u → w.cell? ((⟨b, o, none⟩ : Addr).add j) = some u := by
  simp only [readS] at hr
  split at hr
  · rename_i h0
    simp only [Option.some.injEq, Prod.mk.injEq] at hr
    obtain ⟨rfl, rfl⟩ := hr
    exact ⟨h0.symm, by simp, fun j u hj => by simp at hj⟩
  simp only [if_true] at hr
  unfold readB at hr
  split at hr
  · rename_i own e cs ex hb
    obtain ⟨hle, hr⟩ := grd_some hr
    simp only [Option.some.injEq, Prod.mk.injEq] at hr
    obtain ⟨rfl, rfl⟩ := hr
    refine ⟨rfl, by simp; omega, fun j u hj => ?_⟩
    have hj1 := hj
    rw [List.getElem?_take] at hj1
    split at hj1
    · rw [List.getElem?_drop] at hj1
      have hlt : o + j < cs.length := by omega
      have hc := hs.cell hb hlt
      rw [addr_add, hc, List.getD, hj1]; rfl
    · simp at hj1
  · cases hr

theorem readS_zero {h : H} {sz : Nat} {x : Value} {news : List Value} (hr : readS sz h x = some (0, news)) :
    news = [] ∧ (Builtin.lenOf x).run P w = .ok 0 w ∧ (Builtin.firstCells sz 0 x).run P w = .ok #[] w := by
  cases x <;> try (simp [readS] at hr; done)
  rename_i ad xm xc
  cases ad with
  | none =>
    have : xm = 0 ∧ xc = 0 := by simp only [readS] at hr; split at hr <;> simp_all
    obtain ⟨rfl, rfl⟩ := this
    simp [readS] at hr
    subst hr
    simp [Builtin.lenOf, Builtin.firstCells]
  | some a =>
    obtain ⟨xb, xo, spot⟩ := a
    simp only [readS] at hr
    split at hr
    · rename_i h0
      subst h0
      simp only [Option.some.injEq, Prod.mk.injEq, true_and] at hr
      subst hr
      simp [Builtin.lenOf, Builtin.firstCells, loadCells, loadCellsFrom]
    · rename_i h0
      split at hr
      · unfold readB at hr
        split at hr
        · obtain ⟨_, hr⟩ := grd_some hr
          simp only [Option.some.injEq, Prod.mk.injEq] at hr
          exact absurd hr.1 h0
        · cases hr
      · cases hr
/-- A slice of elements that is read lies where it says. -/
theorem readS_some {h : H} {sz : Nat} {x : Value} {m : Nat} {news : List Value} (hr : readS sz h x = some (m, news)) (hm : m ≠ 0) : ∃ b o n c, x = .slice (some ⟨b, o, none⟩) n c := by
  cases x <;> try (simp [readS] at hr; done)
  rename_i ad xm xc
  cases ad with
  | none =>
    have : xm = 0 ∧ xc = 0 := by simp only [readS] at hr; split at hr <;> simp_all
    obtain ⟨rfl, rfl⟩ := this
    simp [readS] at hr
    exact absurd hr.1.symm hm
  | some a =>
    obtain ⟨xb, xo, spot⟩ := a
    simp only [readS] at hr
    split at hr
    · simp only [Option.some.injEq, Prod.mk.injEq] at hr
      exact absurd hr.1.symm hm
    · split at hr
      · rename_i hsp; subst hsp; exact ⟨xb, xo, xm, xc, rfl⟩
      · cases hr

theorem Sat.erase_alloc {B : Bd} {w0 w : World} {h : H} (hs : Sat B w0 w h) {ob : Obj} {k : Blk} (hk : k.ok ob) (b : Nat) :
    Sat B w0 (w.drew.alloc ob) (upd (erase h b) w.heap.size k) := by
  have h1 := (hs.drew).alloc hk
  refine ⟨h1.below, h1.base, fun b' k' hb' => ?_, h1.grow, fun b' hb' => h1.old b' ?_⟩
  rotate_left
  · simp only [upd, erase] at hb' ⊢
    split at hb'
    · rename_i he; rw [if_pos (show b' = w.drew.heap.size from he)]; rfl
    · rename_i hne
      split at hb'
      · simp at hb'
      · split
        · rfl
        · exact hb'
  refine h1.blk b' k' ?_
  simp only [upd, erase] at hb' ⊢
  show (if b' = w.heap.size then some k else h b') = some k'
  split at hb'
  · rename_i he; rw [if_pos he]; exact hb'
  · rename_i hne
    rw [if_neg hne]
    split at hb'
    · cases hb'
    · exact hb'

/-- A row whose first cells are known, over a row of cells. -/
theorem rowOk' {e : TypeId} {cs : List Value} {c : Array Value} (h1 : all1 cs = true) {ex : Nat} (hsz : c.size = cs.length + ex) (htk : c.toList.take cs.length = cs) : (Blk.row true e cs ex).ok (.cells c e) :=
  ⟨c, (0, 0), rfl, hsz, htk, fun _ => rfl, fun _ v hv => by simpa [all1] using List.all_eq_true.1 h1 v hv⟩

theorem app_run {t ty e : TypeId} {z : List Value} {i : TypeInfo} (hu : P.underlying t = some (.slice e)) (hz : zc P e = some z) (hi : P.info? e = some i) (hsz0 : 0 < i.size)
    {B : Bd} {w0 : World} {h : H} (hs : Sat B w0 w h) {x s : Value} {m : Nat} {news : List Value} (hx : readS i.size h x = some (m, news)) (h1 : all1 news = true)
    {K : Value → Eff → Prop} (hK : appV e i.size i.bytes h K m news s) :
    ∃ v w' ef, (Builtin.append_ #[t, t] ty #[s, x]).run P w = .ok v w' ∧ K v ef ∧ ef.ok h ∧ Sat B w0 w' (ef.app h) := by
  obtain ⟨i', zv, hi', hzz, hzc, hsz, hz1⟩ := zc_spec hz
  rw [hi] at hi'
  simp only [Option.some.injEq] at hi'
  subst hi'
  have hzs : zv.cells.size = i.size := by rw [hsz, ← hzc]; simp
  have hs63 : ∀ {n : Nat}, n ≤ maxLen → (n : Int) ≤ 9223372036854775807 := fun {n} h => by simp only [maxLen] at h; omega
  unfold appV at hK
  split at hK
  · rename_i b n cap
    unfold appB at hK
    split at hK
    · rename_i e' cs ex hb
      obtain ⟨⟨rfl, hn, hnc, hcm, hcap, hnm, hby⟩, hK⟩ := hK
      obtain ⟨⟨o, ho, c, fr, rfl, hcsz, htk, hfr, hone⟩, hown⟩ := hs.blk b _ hb
      obtain rfl := hfr rfl
      have hown' := hown rfl
      have hsome : (h b).isSome = true := by rw [hb]; rfl
      have hlold : (cs.take (n * i.size)).length = n * i.size := by simp; omega
      have hxs : all1 (cs.take (n * i.size) ++ news) = true := by
        simp only [all1, List.all_append, Bool.and_eq_true]
        refine ⟨List.all_eq_true.2 fun v hv => hone rfl v (List.mem_of_mem_take hv), h1⟩
      -- what is appended
      by_cases hm0 : m = 0
      · subst hm0
        obtain ⟨rfl, hx1, hx2⟩ := readS_zero (P := P) (w := w) hx
        refine ⟨.slice (some ⟨b, 0, none⟩) n cap, w, _, ?_, hK b cap (cs.length + ex - n * i.size) ?_ ?_ hcm ?_, trivial, ?_⟩
        · have hn1 : (Builtin.lenOf (.slice (some ⟨b, 0, none⟩) n cap)).run P w = .ok n w := by simp [Builtin.lenOf]
          simp [Builtin.append_, run_underlying hu, sizeOf, typeInfo, hi, hn1, hnc, hx1, hx2, storeCells]
        · intro y hy; simp only [erase] at hy; split at hy <;> rename_i hne
          · simp at hy
          · exact ⟨hne, fun e => hne e.symm⟩
        · omega
        · have : n * i.size ≤ cap * i.size := Nat.mul_le_mul_right _ hnc
          simp only [Nat.add_zero]; omega
        · simp only [Eff.app, List.append_nil]
          refine ⟨hs.below, hs.base, fun b' k' hb' => ?_, hs.grow, fun b' hb' => by
            simp only [upd, erase] at hb'
            split at hb'
            · rename_i he; subst he; exact hs.old b' hsome
            · rename_i hne
              first
              | exact hs.old b' hb'
              | (rw [if_neg hne] at hb'; exact hs.old b' hb')⟩
          simp only [upd, erase] at hb'
          split at hb'
          · rename_i he; subst he
            simp only [Option.some.injEq] at hb'
            subst hb'
            refine ⟨⟨_, ho, rowOk' (by simpa using hxs) ?_ ?_⟩, fun _ => hown'⟩
            · rw [hcsz, hlold]; have : n * i.size ≤ cap * i.size := Nat.mul_le_mul_right _ hnc; omega
            · rw [hlold, ← htk, List.take_take]; congr 1; omega
          · rename_i hne
            first
            | exact hs.blk b' k' hb'
            | (rw [if_neg hne] at hb'; exact hs.blk b' k' hb')
      · obtain ⟨xb, xo, xm, xc, rfl⟩ := readS_some hx hm0
        · obtain ⟨rfl, hl, hnews⟩ := readS_cells hs hx
          by_cases hroom : n + m ≤ cap
          · have hfit : n * i.size + news.length ≤ c.size := by rw [hl, hcsz, ← hcap, ← Nat.add_mul]; exact Nat.mul_le_mul_right _ hroom
            have hr := run_append_room (P := P) w t ty e' i hu hi b n cap c ho ⟨xb, xo, none⟩ m xc news hl hnews (fun u hu => by simpa [all1] using List.all_eq_true.1 h1 u hu) hroom hfit
            have htkn : c.toList.take (n * i.size) = cs.take (n * i.size) := by rw [← htk, List.take_take]; congr 1; omega
            refine ⟨_, _, _, hr, hK b cap (c.size - (n + m) * i.size) ?_ hroom hcm ?_, trivial, ?_⟩
            · intro y hy; simp only [erase] at hy; split at hy <;> rename_i hne
              · simp at hy
              · exact ⟨hne, fun e => hne e.symm⟩
            · have : (n + m) * i.size ≤ cap * i.size := Nat.mul_le_mul_right _ hroom
              omega
            · simp only [Eff.app]
              refine ⟨hs.below.trans ⟨rfl, rfl, rfl, by simp, fun k hk => setRow_other w b k _ (by omega)⟩, by simp; exact hs.base, fun b' k' hb' => ?_, by simp; exact hs.grow, fun b' hb' => by
                simp only [upd, erase] at hb'
                split at hb'
                · rename_i he; subst he; exact hs.old b' hsome
                · rename_i hne
                  first
                  | exact hs.old b' hb'
                  | (rw [if_neg hne] at hb'; exact hs.old b' hb')⟩
              simp only [upd, erase] at hb'
              split at hb'
              · rename_i he; subst he
                simp only [Option.some.injEq] at hb'
                subst hb'
                refine ⟨⟨_, setRow_heap w b' c _ e' _ ho, rowOk' hxs ?_ ?_⟩, fun _ => hown'⟩
                · have : (n + m) * i.size ≤ cap * i.size := Nat.mul_le_mul_right _ hroom
                  rw [Nat.add_mul] at this ⊢
                  simp only [List.size_toArray, List.length_append, List.length_take, List.length_drop, Array.length_toList]
                  omega
                · rw [htkn]
                  exact List.take_left
              · rename_i hne
                try rw [if_neg hne] at hb'
                obtain ⟨⟨o', ho', hok⟩, hown2⟩ := hs.blk b' k' hb'
                exact ⟨⟨o', by rw [setRow_other w b b' _ hne]; exact ho', hok⟩, hown2⟩
          · have holds : ∀ j u, (cs.take (n * i.size))[j]? = some u → w.cell? ((⟨b, 0, none⟩ : Addr).add j) = some u := fun j u hj => by
              rw [List.getElem?_take] at hj
              split at hj
              · have hlt : j < cs.length := by omega
                have hc := hs.cell hb hlt
                rw [addr_add, Nat.zero_add, hc, List.getD, hj]; rfl
              · simp at hj
            have hr := run_append_grow (P := P) w t ty e' i zv hu hi hzz ⟨b, 0, none⟩ n cap (cs.take (n * i.size)) hlold holds ⟨xb, xo, none⟩ m xc news hl hnews (by omega) (hs63 hnm) (growslice_fits (by omega) hby)
            have hge := grownCap_ge w (n + m) cap e'
            have hgm := grownCap_le_maxLen w (n + m) cap e' hnm
            refine ⟨_, _, _, hr, hK w.heap.size _ ((grownCap w (n + m) cap e' - (n + m)) * i.size) ?_ hge hgm ?_, trivial, ?_⟩
            · intro y hy
              have : (h y).isSome = true := by simp only [erase] at hy; split at hy <;> simp_all
              have := hs.lt this
              omega
            · rw [← Nat.add_mul]; congr 1; omega
            · simp only [Eff.app]
              refine hs.erase_alloc (rowOk' hxs ?_ ?_) b
              · simp only [Array.size_append, List.size_toArray, size_zeroCells, hzs, List.length_append]
              · simp only [Array.toList_append]
                exact List.take_left
    · exact hK.elim
  · split at hK
    · rename_i hm0
      subst hm0
      refine ⟨.slice none 0 0, w, .keep, ?_, hK, trivial, hs⟩
      have hx0 : (Builtin.lenOf x).run P w = .ok 0 w ∧ (Builtin.firstCells i.size 0 x).run P w = .ok #[] w := (readS_zero (P := P) (w := w) hx).2
      simp [Builtin.append_, run_underlying hu, sizeOf, typeInfo, hi, hx0]
    · rename_i hm0
      obtain ⟨⟨hm, hby⟩, hK⟩ := hK
      obtain ⟨xb, xo, xm, xc, rfl⟩ := readS_some hx hm0
      · · obtain ⟨rfl, hl, hnews⟩ := readS_cells hs hx
          have hr := run_append_nil (P := P) w t ty e i zv hu hi hzz ⟨xb, xo, none⟩ m xc news hl hnews (by omega) (hs63 hm) (by omega)
          have hge := grownCap_ge w m 0 e
          have hgm := grownCap_le_maxLen w m 0 e hm
          refine ⟨_, _, _, hr, hK w.heap.size _ ((grownCap w m 0 e - m) * i.size) hs.new hge hgm ?_, dis_single _ hs.new, ?_⟩
          · rw [← Nat.add_mul]; congr 1; omega
          · simp only [Eff.app, join_single]
            have := hs.drew.alloc (k := .row true e news ((grownCap w m 0 e - m) * i.size)) (o := .cells (news.toArray ++ Builtin.zeroCells zv.cells (grownCap w m 0 e - m)) e) (rowOk' h1 (by simp only [Array.size_append, List.size_toArray, size_zeroCells, hzs]) (by simp only [Array.toList_append]; exact List.take_left))
            exact this
  · exact hK.elim

theorem readS_run {B : Bd} {w0 : World} {h : H} (hs : Sat B w0 w h) {sz : Nat} {x : Value} {m : Nat} {news : List Value} (hr : readS sz h x = some (m, news)) :
    (Builtin.lenOf x).run P w = .ok m w ∧ ∀ k, k ≤ m → (Builtin.firstCells sz k x).run P w = .ok (news.take (k * sz)).toArray w := by
  by_cases hm : m = 0
  · subst hm
    obtain ⟨rfl, h1, h2⟩ := readS_zero (P := P) (w := w) hr
    refine ⟨h1, fun k hk => ?_⟩
    obtain rfl : k = 0 := by omega
    simpa using h2
  · obtain ⟨b, o, n, c, rfl⟩ := readS_some hr hm
    obtain ⟨rfl, hl, hc⟩ := readS_cells hs hr
    refine ⟨by simp [Builtin.lenOf], fun k hk => ?_⟩
    have hl2 : (news.take (k * sz)).length = k * sz := by rw [List.length_take, hl]; have := Nat.mul_le_mul_right sz hk; omega
    have := run_loadCells_list (P := P) w ⟨b, o, none⟩ (news.take (k * sz)) (fun j u hj => hc j u (by rw [List.getElem?_take] at hj; split at hj; exact hj; cases hj))
    rw [hl2] at this
    simpa [Builtin.firstCells] using this

theorem cpy_run {t t2 ty e : TypeId} {n : Nat} (hu : P.underlying t = some (.slice e)) (hn : szOf P e = some n) {B : Bd} {w0 : World} {h : H} (hs : Sat B w0 w h) {d x : Value} {m : Nat} {news : List Value}
    (hx : readS n h x = some (m, news)) {K : Value → Eff → Prop} (hK : acpyV n h K m news d) :
    ∃ v w' ef, (Builtin.copy_ #[t, t2] ty #[d, x]).run P w = .ok v w' ∧ K v ef ∧ ef.ok h ∧ Sat B w0 w' (ef.app h) := by
  obtain ⟨hl, hf⟩ := readS_run (P := P) hs hx
  unfold acpyV at hK
  split at hK
  · rename_i b off dl dc
    split at hK
    · rename_i h0
      refine ⟨.int .i64 0, w, .keep, ?_, hK, trivial, hs⟩
      have hf0 := hf 0 (Nat.zero_le _)
      have h0' : Nat.min m dl = 0 := h0
      simp [Builtin.copy_, run_underlying hu, run_sizeOf hn, hl, h0', hf0, storeCells, goInt]
    · unfold acpyB at hK
      split at hK
      · rename_i e' cs ex hb
        obtain ⟨⟨hfit, h1⟩, hK⟩ := hK
        obtain ⟨w', hst, hs'⟩ := stc_run (P := P) hs hb rfl hfit h1
        refine ⟨.int .i64 (min m dl : Nat), w', _, ?_, hK, trivial, hs'⟩
        have hf1 := hf (Nat.min m dl) (Nat.min_le_left ..)
        have hst' : (storeCells ⟨b, off, none⟩ (news.take (Nat.min m dl * n))).run P w = .ok () w' := hst
        simp [Builtin.copy_, run_underlying hu, run_sizeOf hn, hl, hf1, hst', goInt]
      · exact hK.elim
  · refine ⟨.int .i64 0, w, .keep, ?_, hK, trivial, hs⟩
    have hf0 := hf 0 (Nat.zero_le _)
    simp [Builtin.copy_, run_underlying hu, run_sizeOf hn, hl, hf0, storeCells, goInt]
  · exact hK.elim

theorem clr_run {t ty e : TypeId} {z : List Value} (hu : P.underlying t = some (.slice e)) (hz : zc P e = some z) {B : Bd} {w0 : World} {h : H} (hs : Sat B w0 w h) {x : Value}
    {K : Value → Eff → Prop} (hK : aclrV z h K x) :
    ∃ v w' ef, (Builtin.clear_ #[t] ty #[x]).run P w = .ok v w' ∧ K v ef ∧ ef.ok h ∧ Sat B w0 w' (ef.app h) := by
  obtain ⟨i, zv, hi, hzz, hzc, hsz, hz1⟩ := zc_spec hz
  unfold aclrV at hK
  split at hK
  · rename_i b off n c
    split at hK
    · rename_i h0
      subst h0
      exact ⟨.tuple #[], w, .keep, by simp [Builtin.clear_, run_underlying hu], hK, trivial, hs⟩
    · rename_i hn0
      unfold aclrB at hK
      split at hK
      · rename_i e' cs ex hb
        obtain ⟨⟨hfit, h1⟩, hK⟩ := hK
        obtain ⟨w', hst, hs'⟩ := stc_run (P := P) hs hb rfl hfit h1
        refine ⟨.tuple #[], w', _, ?_, hK, trivial, hs'⟩
        have hzl : (Builtin.zeroCells zv.cells n).toList = reps z n := by
          rw [← madeCells_reps hzc n]
          have : z.length = zv.cells.size := by rw [← hzc]; simp
          rw [this]; rfl
        rw [← hzl] at hst
        obtain ⟨k, rfl⟩ : ∃ k, n = k + 1 := ⟨n - 1, by omega⟩
        simp [Builtin.clear_, run_underlying hu, zeroValue, typeInfo, hi, hzz, hst]
      · exact hK.elim
  · exact ⟨.tuple #[], w, .keep, by simp [Builtin.clear_, run_underlying hu], hK, trivial, hs⟩
  · exact hK.elim

theorem callFunc_run {f : FuncId} {fn : Func} (hf : P.funcs[f]? = some fn) (hb : fn.body.isNone = false) (hn : (fn.name == "runtime.NumGoroutine") = false) (args : Array Value) :
    (callFunc f args).run P w = .ok (.enter f args) w := by
  have h1 : fn.name ≠ "runtime.NumGoroutine" := by simpa using hn
  have h2 : fn.body ≠ none := fun e => by simp [e] at hb
  simp [callFunc, hf, h1, h2]

theorem acall_sound {f : FuncId} {fn : Func} (hf : P.funcs[f]? = some fn) (hb : fn.body.isNone = false) (hn : (fn.name == "runtime.NumGoroutine") = false) {B : Bd} {w0 : World} {h : H} (hs : Sat B w0 w h)
    {args : List Value} {K : Value → Eff → Prop} (hK : acall P f args h K) {o : Oper} {a : Act} {Q : Exit → Act → World → Prop}
    (hr : (execOp a.eval o).run P w = .ok (.enter f args.toArray) w) : o.wp P a w (Out B w0 o h K a) Q := by
  unfold Oper.wp
  rw [hr]
  simp only [Oper.upon_enter]
  rcases hK with ⟨Φ, hsp, hK⟩ | ⟨Φ, hsp, hK⟩
  · refine (hsp h (fun _ _ h => h) B w0 w hs).mono fun e w' => ?_
    rintro ⟨r, d, rfl, hΦ, hd, hs'⟩
    exact ⟨r, .new d, hK r d hΦ, rfl, hd, hs'⟩
  · refine (hsp B w0 w hs).mono fun e w' => ?_
    rintro ⟨r, h', rfl, hΦ, hs'⟩
    exact ⟨r, .set h', hK r h' hΦ, rfl, trivial, hs'⟩

/-- What an operation that turns memory was compiled of. -/
def Source (P : Program) (o : Oper) : AOp → Prop
  | .alloc e z => o.op = .alloc e ∧ zc P e = some z
  | .box e x => o.op = .box e x
  | .mks e zs len ps => ∃ t parts z pl, o.op = .buildSlice t len parts ∧ P.underlying t = some (.slice e) ∧ zc P e = some z ∧ placeOf P t = some pl ∧ partsOf pl parts.toList = some ps ∧
      len * z.length ≤ 2 ^ 24 ∧ zs = (List.range (len * z.length)).map fun k => z.getD (k % z.length) undef
  | .mk e bytes z l c => ∃ t i, o.op = .makeSlice t l c ∧ P.underlying t = some (.slice e) ∧ zc P e = some z ∧ P.info? e = some i ∧ i.bytes = bytes
  | .app e sz bytes z av s x => ∃ t i ts, o.op = .call { callee := .builtin .append, args := #[s, x], argTypes := ts } ∧ ts.toList = [t, t] ∧ P.underlying t = some (.slice e) ∧ zc P e = some z ∧ P.info? e = some i ∧ i.size = sz ∧ i.bytes = bytes ∧ 0 < sz
  | .st n a x => ∃ t, o.op = .store t a x ∧ szOf P t = some n
  | .sta _ n a x => ∃ t, o.op = .store t a x ∧ szOf P t = some n
  | .call f args => ∃ fn ts as, o.op = .call { callee := .value (.func f), args := as, argTypes := ts } ∧ as.toList = args ∧ P.funcs[f]? = some fn ∧ fn.body.isNone = false ∧ (fn.name == "runtime.NumGoroutine") = false
  | .callp f args => ∃ fn ts as, o.op = .call { callee := .value (.func f), args := as, argTypes := ts } ∧ as.toList = args ∧ P.funcs[f]? = some fn ∧ fn.body.isNone = false ∧ (fn.name == "runtime.NumGoroutine") = false
  | .callv fv args => ∃ ts as, o.op = .call { callee := .value fv, args := as, argTypes := ts } ∧ as.toList = args
  | .mkm => ∃ t, o.op = .makeMap t none
  | .cpy n d s => ∃ t t2 e ts, o.op = .call { callee := .builtin .copy, args := #[d, s], argTypes := ts } ∧ ts[0]? = some t ∧ ts[1]? = some t2 ∧ P.underlying t = some (.slice e) ∧ szOf P e = some n
  | .clr z x => ∃ t e ts, o.op = .call { callee := .builtin .clear, args := #[x], argTypes := ts } ∧ ts[0]? = some t ∧ P.underlying t = some (.slice e) ∧ zc P e = some z
  | _ => True

theorem source_of {o : Oper} {op : AOp} (hc : compOp P o = some op) : Source P o op := by
  unfold compOp at hc
  split at hc <;> rename_i ho
  all_goals try (simp only [Option.some.injEq] at hc; subst hc; trivial)
  · simp only [Option.map_eq_some_iff] at hc; obtain ⟨z, hz, rfl⟩ := hc; exact ⟨ho, hz⟩
  · simp only [Option.bind_eq_some_iff] at hc
    obtain ⟨z, hz, hc⟩ := hc
    split at hc
    · cases hc
    · simp only [Option.bind_eq_some_iff, Option.map_eq_some_iff] at hc; obtain ⟨_, _, _, _, rfl⟩ := hc; trivial
  · split at hc
    · rename_i e hu
      simp only [Option.bind_eq_some_iff] at hc
      obtain ⟨z, hz, pl, hpl, ps, hps, hc⟩ := hc
      split at hc
      · rename_i h24; simp only [Option.some.injEq] at hc; subst hc; exact ⟨_, _, z, pl, ho, hu, hz, hpl, hps, h24, rfl⟩
      · cases hc
    · cases hc
  · simp only [Option.map_eq_some_iff] at hc; obtain ⟨_, _, rfl⟩ := hc; trivial
  · simp only [Option.map_eq_some_iff] at hc; obtain ⟨n, hn, rfl⟩ := hc; exact ⟨_, ho, hn⟩
  · have heq : ∀ {op' t x y}, eqaOf P op' t x y = some op → Source P o op := fun {op' t x y} h => by
      unfold eqaOf at h
      split at h
      · cases h
      · simp only [Option.bind_eq_some_iff] at h
        obtain ⟨_, _, _, _, h⟩ := h
        split at h <;> first | (simp only [Option.some.injEq] at h; subst h; trivial) | cases h
    split at hc
    · exact heq hc
    · exact heq hc
    · exact heq hc
    · split at hc
      · split at hc <;> first | (simp only [Option.some.injEq] at hc; subst hc; trivial) | cases hc
      · cases hc
    · unfold binOf at hc
      split at hc <;> first | (simp only [Option.some.injEq] at hc; subst hc; trivial) | cases hc
  · unfold cvOf at hc
    split at hc
    · simp only [Option.some.injEq] at hc; subst hc; trivial
    · simp only [Option.some.injEq] at hc; subst hc; trivial
    · split at hc <;> first | (simp only [Option.some.injEq] at hc; subst hc; trivial) | cases hc
    · split at hc <;> first | (simp only [Option.some.injEq] at hc; subst hc; trivial) | cases hc
    · cases hc
  · split at hc
    · rename_i e hu
      simp only [Option.bind_eq_some_iff, Option.map_eq_some_iff] at hc
      obtain ⟨z, hz, i, hi, rfl⟩ := hc
      exact ⟨_, i, ho, hu, hz, hi, rfl⟩
    · cases hc
  · split at hc
    · simp only [Option.map_eq_some_iff] at hc; obtain ⟨_, _, rfl⟩ := hc; trivial
    · simp only [Option.map_eq_some_iff] at hc; obtain ⟨_, _, rfl⟩ := hc; trivial
    · simp only [Option.some.injEq] at hc; subst hc; trivial
    · cases hc
  · split at hc
    · simp only [Option.bind_eq_some_iff] at hc
      obtain ⟨_, _, _, _, hc⟩ := hc
      split at hc <;> first | (simp only [Option.some.injEq] at hc; subst hc; trivial) | cases hc
    · cases hc
  · split at hc
    · simp only [Option.bind_eq_some_iff, Option.map_eq_some_iff] at hc; obtain ⟨_, _, _, _, rfl⟩ := hc; trivial
    · cases hc
  · split at hc
    · simp only [Option.map_eq_some_iff] at hc; obtain ⟨_, _, rfl⟩ := hc; trivial
    · simp only [Option.map_eq_some_iff] at hc; obtain ⟨_, _, rfl⟩ := hc; trivial
    · cases hc
  · split at hc
    · simp only [Option.bind_eq_some_iff, Option.map_eq_some_iff] at hc; obtain ⟨_, _, _, _, rfl⟩ := hc; trivial
    · simp only [Option.some.injEq] at hc; subst hc; trivial
    · cases hc
  · rename_i c
    obtain ⟨callee, args, argTypes⟩ := c
    unfold callOf at hc
    split at hc <;> rename_i hcal
    all_goals try (cases hc; done)
    · simp only at hcal; subst hcal
      split at hc
      · rename_i fn hf
        split at hc
        · cases hc
        · rename_i hcond
          simp only [Option.some.injEq] at hc; subst hc
          simp only [Bool.or_eq_true, not_or] at hcond
          exact ⟨fn, argTypes, args, ho, rfl, hf, by cases hfb : fn.body <;> simp_all, by simpa using hcond.1⟩
      · cases hc
    · simp only at hcal; subst hcal
      simp only [Option.some.injEq] at hc; subst hc; exact ⟨_, _, ho, rfl⟩
    · split at hc <;> first | (simp only [Option.some.injEq] at hc; subst hc; trivial) | cases hc
    · split at hc <;> first | (simp only [Option.some.injEq] at hc; subst hc; trivial) | cases hc
    · split at hc <;> first | (simp only [Option.some.injEq] at hc; subst hc; trivial) | cases hc
    · simp only at hcal; subst hcal
      split at hc
      · rename_i t u s x hts has
        split at hc
        · rename_i e hu
          simp only [Option.bind_eq_some_iff] at hc
          obtain ⟨z, hz, i, hi, hc⟩ := hc
          split at hc
          · rename_i he
            split at hc
            · rename_i h0
              simp only [Option.some.injEq] at hc; subst hc; subst he
              have : args = #[s, x] := by cases args; simp_all
              subst this
              exact ⟨_, i, argTypes, ho, hts, hu, hz, hi, rfl, rfl, h0⟩
            · cases hc
          · split at hc
            · split at hc <;> first | (simp only [Option.some.injEq] at hc; subst hc; trivial) | cases hc
            · cases hc
        · cases hc
      · cases hc
    · simp only at hcal; subst hcal
      split at hc
      · rename_i e u d s h1 h2 h3
        simp only [Option.map_eq_some_iff] at hc
        obtain ⟨n, hn, rfl⟩ := hc
        obtain rfl : args = #[d, s] := by cases args; simp_all
        simp only [Option.bind_eq_some_iff] at h1 h2
        obtain ⟨t, ht, hu⟩ := h1
        obtain ⟨t2, ht2, _⟩ := h2
        exact ⟨t, t2, e, argTypes, ho, ht, ht2, hu, hn⟩
      · split at hc <;> first | (simp only [Option.some.injEq] at hc; subst hc; trivial) | cases hc
      · cases hc
    · simp only at hcal; subst hcal
      split at hc
      · rename_i e x h1 h3
        simp only [Option.map_eq_some_iff] at hc
        obtain ⟨z, hz, rfl⟩ := hc
        obtain rfl : args = #[x] := by cases args; simp_all
        simp only [Option.bind_eq_some_iff] at h1
        obtain ⟨t, ht, hu⟩ := h1
        exact ⟨t, e, argTypes, ho, ht, hu, hz⟩
      · cases hc
  · simp only [Option.some.injEq] at hc; subst hc; exact ⟨_, ho⟩
  · cases hc

/-- What an operation may be told as: its lean copy; a call as a pure one; an append with more to avoid. -/
def CompAs (P : Program) (o : Oper) (op : AOp) : Prop :=
  compOp P o = some op ∨ (∃ f l, op = .callp f l ∧ compOp P o = some (.call f l)) ∨
  (∃ e sz by' z av av0 s x, op = .app e sz by' z av s x ∧ compOp P o = some (.app e sz by' z av0 s x)) ∨
  (∃ base n x, op = .ldb base n x ∧ compOp P o = some (.ld n x)) ∨
  (∃ av n a x, op = .sta av n a x ∧ compOp P o = some (.st n a x))

theorem CompAs.source {o : Oper} {op : AOp} (h : CompAs P o op) : Source P o op := by
  rcases h with h | ⟨f, l, rfl, h⟩ | ⟨e, sz, by', z, av, av0, s, x, rfl, h⟩ | ⟨base, n, x, rfl, h⟩ | ⟨av, n, a, x, rfl, h⟩
  · exact source_of h
  · have := source_of h; exact this
  · have := source_of h; exact this
  · trivial
  · have := source_of h; exact this

/-- Every operation that has a lean copy is told truly by it. -/
theorem op_sound {B : Bd} {w0 : World} {h : H} (hs : Sat B w0 w h) {o : Oper} {op : AOp} (hc : CompAs P o op) {a : Act} {t : T} (ha : a.eval = ev t)
    {K : Value → Eff → Prop} (hK : aop P op (ev t) h K) {Q : Exit → Act → World → Prop} : o.wp P a w (Out B w0 o h K a) Q := by
  have hdet : ∀ v, adet h (ev t) op = some v → K v .keep → o.wp P a w (Out B w0 o h K a) Q := fun v hv hk => by
    have hc' : ∃ op', compOp P o = some op' ∧ adet h (ev t) op' = some v := by
      rcases hc with hc | ⟨f, l, rfl, _⟩ | ⟨e, sz, by', z, av, av0, s, x, rfl, _⟩ | ⟨base, n, x, rfl, hc⟩ | ⟨av, n, a, x, rfl, _⟩
      · exact ⟨_, hc, hv⟩
      · simp [adet] at hv
      · simp [adet] at hv
      · exact ⟨_, hc, (grd_some hv).2⟩
      · simp [adet] at hv
    obtain ⟨op', hc', hv'⟩ := hc'
    exact out_value (by rw [ha]; exact det_run hs (fun _ _ h => h) hc' (fun _ => rfl) hv') .keep hk trivial hs
  have hdet' : OK (adet h (ev t) op) (fun v => K v .keep) → o.wp P a w (Out B w0 o h K a) Q := fun ⟨v, hv, hk⟩ => hdet v hv hk
  have hsrc := hc.source
  cases op <;> simp only [aop] at hK <;> first | (exact hdet' hK) | (exact hK.elim) | skip
  case alloc e zero =>
    obtain ⟨ho, hz⟩ := hsrc
    obtain ⟨i, zv, hi, hzz, hzc, hsz, h1⟩ := zc_spec hz
    refine out_new (ob := .cells zero.toArray e) (k := .row true e zero 0) (v := .pointer (some ⟨w.heap.size, 0, none⟩)) ?_ hs (rowOk (by simpa [all1] using h1)) (hK _ hs.new)
    have : zv.cells = zero.toArray := by rw [← hzc]
    simp [execOp, ho, Instr.alloc, zeroValue, typeInfo, hi, hzz, newVar, this, newRow_run]
  case box e x =>
    obtain ⟨h1, hK⟩ := hK
    refine out_new (ob := .cells (ev t x).cells.toList.toArray e) (k := .row true e (ev t x).cells.toList 0) (v := .pointer (some ⟨w.heap.size, 0, none⟩)) ?_ hs (rowOk h1) (hK _ hs.new)
    have ho : o.op = .box e x := hsrc
    simp [execOp, ho, ha, Instr.box, newVar, newRow_run]
  case mks e zero len parts =>
    obtain ⟨tt, prt, z, pl, ho, hu, hz, hpl, hps, h24, hzs⟩ := hsrc
    obtain ⟨cs, hf, h1, hK⟩ := hK
    have hpm := partsOf_map (ev t) pl _ _ hps
    rw [hzs] at hf
    have hr := mks_run (w := w) hu hz hpl h24 (parts := prt.map fun p => (p.1, ev t p.2)) (by rw [Array.toList_map]; exact hpm) hf
    exact out_new (ob := .cells cs.toArray e) (k := .row true e cs 0) (v := .slice (some ⟨w.heap.size, 0, none⟩) len len) (by simp [execOp, ho, ha, hr]) hs (rowOk h1) (hK _ hs.new)
  case mk e bytes zero l c =>
    obtain ⟨tt, i, ho, hu, hz, hi, rfl⟩ := hsrc
    obtain ⟨i', zv, hi', hzz, hzc, hsz, h1⟩ := zc_spec hz
    rw [hi] at hi'
    simp only [Option.some.injEq] at hi'
    subst hi'
    unfold amkV at hK
    split at hK
    · rename_i k1 l' k2 c' hl' hc'
      obtain ⟨⟨h0, hlc, hby, h63⟩, hK⟩ := hK
      have hr := run_make (P := P) w tt e i zv hu hi hzz k1 k2 l' c' h0 hlc hby h63
      refine out_new (ob := .cells (madeCells zv.cells (c'.toNat * i.size)) e) (k := .row true e (reps zero c'.toNat) 0) (v := .slice (some ⟨w.heap.size, 0, none⟩) l'.toNat c'.toNat) ?_ hs ?_ (hK _ hs.new)
      · simp [execOp, ho, ha, hl', hc', hr]
      · have hm := madeCells_reps hzc c'.toNat
        rw [← hsz] at hm
        exact rowOk' (all1_reps h1 _) (by rw [← hm]; simp) (by rw [← hm]; exact List.take_length)
    · exact hK.elim
  case app e sz bytes z av s x =>
    obtain ⟨tt, i, ts, ho, hts, hu, hz, hi, rfl, rfl, h0⟩ := hsrc
    obtain ⟨⟨m, news⟩, hx, ⟨h1, _⟩, hK⟩ := hK
    have : ts = #[tt, tt] := by cases ts; simp_all
    subst this
    obtain ⟨v, w', ef, hr, hKv, hok, hs'⟩ := app_run (ty := o.type) hu hz hi h0 hs hx h1 hK
    exact out_value (by simp [execOp, ho, ha, resolve, invoke, builtin, hr]) ef hKv hok hs'
  case st n ad x =>
    obtain ⟨tt, ho, hn⟩ := hsrc
    unfold astV at hK
    split at hK
    · rename_i b off hv
      unfold astB at hK
      split at hK
      · rename_i e cs ex hb
        obtain ⟨⟨hl, hoff, h1⟩, hK⟩ := hK
        obtain ⟨w', hr, hs'⟩ := st_run hn hs hb hl hoff h1
        unfold Oper.wp
        have : (execOp a.eval o).run P w = .ok .skip w' := by simp [execOp, ho, ha, hv, hr]
        rw [this]
        exact ⟨undef, _, hK, rfl, trivial, hs'⟩
      · exact hK.elim
    · exact hK.elim
  case cpy n d s =>
    obtain ⟨t, t2, e, ts, ho, h1, h2, hu, hn⟩ := hsrc
    obtain ⟨⟨m, news⟩, hx, hK⟩ := hK
    have hcp : ∀ ty (y z : Value), Builtin.copy_ ts ty #[y, z] = Builtin.copy_ #[t, t2] ty #[y, z] := fun ty y z => by simp [Builtin.copy_, h1]
    obtain ⟨v, w', ef, hr, hKv, hok, hs'⟩ := cpy_run (t2 := t2) (ty := o.type) hu hn hs hx hK
    exact out_value (by simp [execOp, ho, ha, resolve, invoke, builtin, hcp, hr]) ef hKv hok hs'
  case clr z x =>
    obtain ⟨t, e, ts, ho, h1, hu, hz⟩ := hsrc
    have hcp : ∀ ty (y : Value), Builtin.clear_ ts ty #[y] = Builtin.clear_ #[t] ty #[y] := fun ty y => by simp [Builtin.clear_, h1]
    obtain ⟨v, w', ef, hr, hKv, hok, hs'⟩ := clr_run (ty := o.type) hu hz hs hK
    exact out_value (by simp [execOp, ho, ha, resolve, invoke, builtin, hcp, hr]) ef hKv hok hs'
  case sta av n ad x =>
    obtain ⟨tt, ho, hn⟩ := hsrc
    obtain ⟨_, hK⟩ := hK
    unfold astV at hK
    split at hK
    · rename_i b off hv
      unfold astB at hK
      split at hK
      · rename_i e cs ex hb
        obtain ⟨⟨hl, hoff, h1⟩, hK⟩ := hK
        obtain ⟨w', hr, hs'⟩ := st_run hn hs hb hl hoff h1
        unfold Oper.wp
        have : (execOp a.eval o).run P w = .ok .skip w' := by simp [execOp, ho, ha, hv, hr]
        rw [this]
        exact ⟨undef, _, hK, rfl, trivial, hs'⟩
      · exact hK.elim
    · exact hK.elim
  case call f args =>
    obtain ⟨fn, ts, as, ho, rfl, hf, hb, hn⟩ := hsrc
    refine acall_sound hf hb hn hs hK ?_
    have := callFunc_run (w := w) hf hb hn (as.map (ev t))
    simp [execOp, ho, ha, resolve, invoke, Deferred.ofValue, ev, this]
    cases as; simp
  case callp f args =>
    obtain ⟨fn, ts, as, ho, rfl, hf, hb, hn⟩ := hsrc
    refine acall_sound hf hb hn hs (.inl hK) ?_
    have := callFunc_run (w := w) hf hb hn (as.map (ev t))
    simp [execOp, ho, ha, resolve, invoke, Deferred.ofValue, ev, this]
    cases as; simp
  case callv fv args =>
    obtain ⟨ts, as, ho, rfl⟩ := hsrc
    unfold acallv at hK
    split at hK
    · rename_i f first cap hfv
      obtain ⟨hfn, hK⟩ := hK
      unfold isFn at hfn
      split at hfn
      · rename_i fn hf
        simp only [Bool.and_eq_true, Bool.not_eq_true'] at hfn
        refine acall_sound hf hfn.2 hfn.1 hs hK ?_
        have := callFunc_run (w := w) hf hfn.2 hfn.1 (first ++ as.map (ev t) ++ cap)
        simp [execOp, ho, ha, resolve, invoke, Deferred.ofValue, hfv] at this ⊢
        rw [this]
        simp
      · cases hfn
    · exact hK.elim
  case mkm =>
    obtain ⟨tt, ho⟩ := hsrc
    refine out_new (ob := .map #[] 0) (k := .obj true (.map #[] 0)) (v := .map (some w.heap.size)) ?_ hs ⟨rfl, rfl⟩ (hK _ hs.new)
    simp [execOp, ho, Instr.makeMap, newObj, Sem.run]

end
end Go.Proofs.YtjklebickfcddaaDoor.Sep

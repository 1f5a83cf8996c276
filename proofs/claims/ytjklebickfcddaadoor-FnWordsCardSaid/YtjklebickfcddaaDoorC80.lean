/- Evaluation of long functions: what follows a call or a test is not looked at before it is its turn. -/
import Derived.Test.YtjklebickfcddaaDoorSepRec
namespace Go.Proofs.YtjklebickfcddaaDoor.Sep
open Go.RowKit
set_option linter.unusedVariables false
set_option linter.unusedSimpArgs false

structure Hide {α : Type} (a : α) : Type where mk ::
def blk {α : Type} (a : α) (u : Hide a) : α := a
structure blkP (a : Prop) (u : Hide a) : Prop where
  out : a
theorem blkP_iff {a : Prop} {u : Hide a} : blkP a u = a := propext ⟨fun h => h.out, fun h => ⟨h⟩⟩
theorem blk_eq {K : V → Hp → Prop} {u : Hide K} {v : V} {h : Hp} : blk K u v h = K v h := by simp only [blk]
theorem SplitB_t {A B : Prop} {u : Hide A} : Split true (blkP A u) B = A := by rw [Split_true, blkP_iff]
theorem SplitB_f {A B : Prop} {u : Hide B} : Split false A (blkP B u) = B := by rw [Split_false, blkP_iff]
theorem Split.mkB {b : Bool} {A B : Prop} {u : Hide A} {v : Hide B} (h1 : b = true → A) (h2 : b = false → B) : Split b (blkP A u) (blkP B v) := ⟨fun h => ⟨h1 h⟩, fun h => ⟨h2 h⟩⟩
section
variable {P : Program} {h : Hp} {f : FuncId} {d : Nat} {vs : List V} {K : V → Hp → Prop}
def pcalB (P : Program) (f : FuncId) (d : Nat) (h : Hp) (K : V → Hp → Prop) (vs : List V) : Prop := pcal P f d h K vs
def pcalpB (P : Program) (f : FuncId) (d : Nat) (h : Hp) (K : V → Hp → Prop) (vs : List V) : Prop := pcalp P f d h K vs
def pcondB (A B : Prop) (v : V) : Prop := pcond A B v
def pgkB (w : Bool) (h : Hp) (op : V → (V → Hp → Prop) → Prop) (k : V → V → Hp → Prop) (v : V) : Prop := pgk w h op k v
def JNx (F : (List V → Hp → Prop) → Prop) (G : List V → Hp → Prop) (u : Hide F) (v : Hide G) : Prop := F G
theorem pcal_B : pcal P f d h K vs = pcalB P f d h K vs := rfl
theorem pcalp_B : pcalp P f d h K vs = pcalpB P f d h K vs := rfl
theorem pcond_B {A B : Prop} {v : V} : pcond A B v = pcondB A B v := rfl
theorem pgk_B {w : Bool} {op : V → (V → Hp → Prop) → Prop} {k : V → V → Hp → Prop} {v : V} : pgk w h op k v = pgkB w h op k v := rfl
theorem JN_B {F : (List V → Hp → Prop) → Prop} {G : List V → Hp → Prop} : JN F G = JNx F G ⟨⟩ ⟨⟩ := rfl
theorem pcalB_eq : pcalB P f d h K vs = pcd P f d h (blk K ⟨⟩) (dvs h vs) true vs := pcal_def
theorem pcalpB_eq : pcalpB P f d h K vs = pcd P f d h (blk K ⟨⟩) (dvs h vs) false vs := pcalp_def
theorem pcondB_eq {A B : Prop} {b : Bool} : pcondB A B (.bool b) = Split b (blkP A ⟨⟩) (blkP B ⟨⟩) := by simp only [pcondB, pcond_sym, blkP_iff]
theorem pgkB_eq {w : Bool} {op : V → (V → Hp → Prop) → Prop} {k : V → V → Hp → Prop} {b : Bool} : pgkB w h op k (.bool b) =
    Split b (blkP (cond w (op (.bool true) (k (.bool true))) (k (.bool true) (.tup []) h)) ⟨⟩) (blkP (cond w (k (.bool false) (.tup []) h) (op (.bool false) (k (.bool false)))) ⟨⟩) := by simp only [pgkB, pgk_sym, blkP_iff]
theorem pgkB_skip {w : Bool} {op : V → (V → Hp → Prop) → Prop} {k : V → V → Hp → Prop} : pgkB w h op k (.tup []) = k (.tup []) (.tup []) h := by simp only [pgkB, pgk_skip]
/-- Where ways meet, what follows is shown once. -/
theorem JNx_mk {F : (List V → Hp → Prop) → Prop} {G : List V → Hp → Prop} {u : Hide F} {v : Hide G} {o : List V} {h : Hp} (hF : ∀ k : List V → Hp → Prop, k o h → F k) (hG : G o h) : JNx F G u v := hF G hG
theorem JNx_un {F : (List V → Hp → Prop) → Prop} {G : List V → Hp → Prop} {u : Hide F} {v : Hide G} (h : F G) : JNx F G u v := h
/-- A call that turns blocks, its result one's own, told by a relation. -/
theorem callM_do {bs : List Nat} {bx : List (Nat × TypeId × Nat)} {cells : List (List V)} {ws : List V} {Φ : V → List (List V) → Prop}
    (hs : PSpecM P f ws bx cells Φ) (hK : ∀ v cs, Φ v cs → Rq (allFree (hputs2 h bs bx cs) (mat v d).2.1) (K (mat v d).1 (hputs (hputs2 h bs bx cs) (mat v d).2.1))) : CallM P f d h K bs bx cells ws := ⟨Φ, hs, .inr hK⟩
/-- A loop, its body hidden. -/
def LPx (vs ls : List Nat) (B : List V → List V → Hp → (List V → List V → Hp → Prop) → Prop) (u : Hide B) (wv lv : List V) (h : Hp) : Prop := LP vs ls B wv lv h
theorem LP_B {vs ls : List Nat} {B : List V → List V → Hp → (List V → List V → Hp → Prop) → Prop} {wv lv : List V} : LP vs ls B wv lv h = LPx vs ls B ⟨⟩ wv lv h := rfl
theorem LPx_ofE {σ : Type} (ss : List Nat) (c0 : Nat) (bx : List (Nat × TypeId × Nat)) (vals : σ → List V) (cells : σ → List (List V)) (J : σ → Prop) (μ : σ → Nat) (s0 : σ) {vs ls : List Nat}
    {B : List V → List V → Hp → (List V → List V → Hp → Prop) → Prop} {u : Hide B} {wv lv : List V} (hf : frameOk c0 (lpz ls lv) bx = true) (h0 : J s0)
    (he : ColV bx wv lv lv h fun v c => rts ss v = vals s0 ∧ c = cells s0)
    (hr : ∀ s, J s → B (mats (vals s) c0).1 lv (lheap c0 bx (vals s) (cells s)) fun wv' lv' h' => ColV bx wv' lv' lv h' fun v c => ∃ s', v = vals s' ∧ c = cells s' ∧ J s' ∧ μ s' < μ s) :
    LPx vs ls B u wv lv h := LP_ofE ss c0 bx vals cells J μ s0 hf h0 he hr
theorem LPx_of {σ : Type} (c0 : Nat) (bx : List (Nat × TypeId × Nat)) (vals : σ → List V) (cells : σ → List (List V)) (J : σ → Prop) (μ : σ → Nat) (s0 : σ) {vs ls : List Nat}
    {B : List V → List V → Hp → (List V → List V → Hp → Prop) → Prop} {u : Hide B} {wv lv : List V} (hf : frameOk c0 (lpz ls lv) bx = true) (h0 : J s0)
    (he : ColV bx wv lv lv h fun v c => v = vals s0 ∧ c = cells s0)
    (hr : ∀ s, J s → B (mats (vals s) c0).1 lv (lheap c0 bx (vals s) (cells s)) fun wv' lv' h' => ColV bx wv' lv' lv h' fun v c => ∃ s', v = vals s' ∧ c = cells s' ∧ J s' ∧ μ s' < μ s) :
    LPx vs ls B u wv lv h := LP_of c0 bx vals cells J μ s0 hf h0 he hr
end
end Go.Proofs.YtjklebickfcddaaDoor.Sep

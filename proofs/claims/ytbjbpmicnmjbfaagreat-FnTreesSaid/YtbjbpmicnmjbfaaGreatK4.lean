/- Texts put together: C30, C32, C33, C35, C36, C90, C101, C28, C102, C80, C97, C10, C11, C12, C13, C15, C75, C92, C93, C108, C109, C94, C110, C111. -/
import Derived.Test.YtbjbpmicnmjbfaaGreatK3
namespace Go.Proofs.YtbjbpmicnmjbfaaGreat.Sep
open Go.RowKit
set_option linter.unusedVariables false
set_option linter.unusedSimpArgs false
set_option maxRecDepth 20000
section
def allV (b w:List Int) (n:Int):List (List Int):=cyc b n ++ cyc w n
theorem cyc_pos {p:List Int} {n:Int} (hn:1 <= n /\ n <= 16):0 < (cyc p n).length:=by
 have h1:∀ i,1 <= i -> 0 < (cycO p i).2.length:=by
  intro i hi
  induction i with
  | zero=>omega
  | succ i ih =>
   simp only [cycO]
   split
   ·by_cases h0:i = 0
    ·subst h0; rename_i h; exact absurd h (by show ¬ gb (List.replicate 16 false) 0 = true; decide)
    ·exact ih (by omega)
   ·simp
 exact h1 n.toNat (by omega)
theorem cyc_at {p:List Int} {n:Int} (hp:ltP p n) (hn:1 <= n /\ n <= 16):∀ l ∈ cyc p n,(∀ y ∈ l,0 <= y /\ y < n) /\ l.length <= 16:=cycO_lt hp n.toNat (by omega)
def sumT (a c:List Int):Nat -> Int
 | 0=>0
 | s + 1=>sumT a c s + gi a (gi c s).toNat
def cycB (a:List Int) (A:List (List Int)):Bool:=A.all fun c=>sumT a c c.length == 0
theorem cycB_no {a:List Int} {A:List (List Int)} {v:Nat} (hv:v < A.length) (h:¬ sumT a (gl A v) (gl A v).length = 0):cycB a A = false:=by
 cases hc:cycB a A with
 | false=>rfl
 | true =>
  have:=(all_getD (d:=[])).1 hc v hv
  exact absurd (by simpa [gl] using this) h
def mtI (a b c:List Int) (y:Int):Nat -> Int -> Int
 | 0,s=>s
 | i + 1,s=>mtI a b c y i s + (gi a (gi c i).toNat * gi b y.toNat - gi a y.toNat * gi b (gi c i).toNat)
def mtJ (a b c:List Int):Nat -> Int -> Int
 | 0,s=>s
 | j + 1,s=>mtI a b c (gi c j) j (mtJ a b c j s)
def mtV (a b:List Int) (A:List (List Int)):Nat -> Int
 | 0=>0
 | v + 1=>mtJ a b (gl A v) (gl A v).length (mtV a b A v)
end
section
theorem gb_set_iff {m:List Bool} {k x:Nat} (hk:k < m.length):gb (m.set k true) x = true ↔ x = k ∨ gb m x = true:=by
 rw [gb_set]
 by_cases h:k = x
 ·subst h; simp [hk]
 ·rw [if_neg (fun h'=>h h'.1)]
  exact ⟨.inr,fun h'=>h'.elim (fun e=>absurd e.symm h) id⟩
theorem cycF_mem {p:List Int} (hp:∀ x:Nat,0 <= gi p x):∀ (c:Nat) {k:Int} {m:List Bool} {acc:List Int},m.count false = c -> 0 <= k ->
  (∀ y ∈ acc,y ∈ (cycF p k m acc).2) /\ (∀ x:Nat,gb (cycF p k m acc).1 x = true -> gb m x = true ∨ (x:Int) ∈ (cycF p k m acc).2) /\ (∀ x:Nat,gb m x = true -> gb (cycF p k m acc).1 x = true) /\ (k.toNat < m.length -> gb (cycF p k m acc).1 k.toNat = true):=by
 intro c
 induction c using Nat.strongRecOn with
 | ind c ih =>
  intro k m acc hc h0
  by_cases h:gb m k.toNat = false /\ k.toNat < m.length
  ·rw [cycF_go h.1 h.2]
   have hlt:=count_false_lt h.1 h.2
   obtain ⟨h1,h2,h3,h4⟩:=@ih _ (by omega) (gi p k.toNat) (m.set k.toNat true) (acc ++ [k]) rfl (hp _)
   refine ⟨fun y hy=>h1 y (by simp [hy]),fun x hx=>?_,fun x hx=>h3 x ((gb_set_iff h.2).2 (.inr hx)),fun _=>h3 _ ((gb_set_iff h.2).2 (.inl rfl))⟩
   rcases h2 x hx with h' | h'
   ·rcases (gb_set_iff h.2).1 h' with rfl | h'
    ·exact .inr (h1 _ (by simp; omega))
    ·exact .inl h'
   ·exact .inr h'
  ·rw [cycF,dif_neg h]
   refine ⟨fun _ h=>h,fun x hx=>.inl hx,fun _ h=>h,fun hk=>?_⟩
   cases hg:gb m k.toNat with
   | true=>rfl
   | false=>exact absurd ⟨hg,hk⟩ h
theorem cycO_mem {p:List Int} (hp:∀ x:Nat,0 <= gi p x):∀ i:Nat,i <= 16 -> (∀ j,j < i -> gb (cycO p i).1 j = true) /\ ∀ x:Nat,gb (cycO p i).1 x = true -> ∃ l ∈ (cycO p i).2,(x:Int) ∈ l
 | 0,_=>⟨fun j hj=>absurd hj (Nat.not_lt_zero j),fun x hx=>by simp only [cycO] at hx; rw [gb_rep] at hx; simp at hx⟩
 | i + 1,hi=>by
  obtain ⟨h1,h2⟩:=cycO_mem hp i (by omega)
  simp only [cycO]
  split
  ·rename_i h
   refine ⟨fun j hj=>?_,h2⟩
   by_cases e:j = i
   ·subst e; exact h
   ·exact h1 j (by omega)
  ·rename_i h
   obtain ⟨g1,g2,g3,g4⟩:=cycF_mem hp _ (k:=(i:Int)) (m:=(cycO p i).1) (acc:=[]) rfl (by omega)
   refine ⟨fun j hj=>?_,fun x hx=>?_⟩
   ·by_cases e:j = i
    ·subst e
     have:=g4 (by rw [(cycO_len j).1]; simp only [Int.toNat_natCast]; omega)
     simpa using this
    ·exact g3 j (h1 j (by omega))
   ·rcases g2 x hx with h | h
    ·obtain ⟨l,h3,h4⟩:=h2 x h
     exact ⟨l,by simp [h3],h4⟩
    ·exact ⟨_,by simp,h⟩
theorem cyc_mem {p:List Int} {n:Int} (hp:lo16 p) (hn:1 <= n /\ n <= 16) {x:Nat} (hx:(x:Int) < n):∃ l ∈ cyc p n,(x:Int) ∈ l:=by
 have h0:∀ x:Nat,0 <= gi p x:=fun x=>by
  by_cases h:x < 16
  ·exact (hp.2 x h).1
  ·rw [gi_over (by rw [hp.1]; omega)]; omega
 obtain ⟨h1,h2⟩:=cycO_mem h0 n.toNat (by omega)
 exact h2 x (h1 x (by omega))
def wI (v:Nat) (c:List Int):Nat -> List Int -> List Int
 | 0,L=>L
 | s + 1,L=>(wI v c s L).set (gi c s).toNat v
def wO (A:List (List Int)):Nat -> List Int
 | 0=>List.replicate 16 0
 | v + 1=>wI v (gl A v) (gl A v).length (wO A v)
theorem wI_len {v:Nat} {c L:List Int}:∀ s,(wI v c s L).length = L.length
 | 0=>rfl
 | s + 1=>by simp [wI,wI_len s]
theorem wO_len {A:List (List Int)}:∀ v,(wO A v).length = 16
 | 0=>by simp [wO]
 | v + 1=>by simp [wO,wI_len,wO_len v]
def whichL (p:List Int) (n:Int):List Int:=wO (cyc p n) (cyc p n).length
theorem take_mem_succ {c:List Int} {s:Nat} (hs:s < c.length) (x:Int):x ∈ c.take (s + 1) ↔ x ∈ c.take s ∨ x = gi c s:=by
 rw [List.take_add_one,List.mem_append]
 simp [gi,List.getD,hs]
theorem wI_at {v:Nat} {c L:List Int} (hc:∀ y ∈ c,0 <= y /\ y < 16) (hL:L.length = 16) {x:Nat} (hx:x < 16):∀ s,s <= c.length -> gi (wI v c s L) x = if (x:Int) ∈ c.take s then (v:Int) else gi L x
 | 0,_=>by simp [wI]
 | s + 1,hs=>by
  have ih:=wI_at (v:=v) hc hL hx s (by omega)
  have hcs:=hc (gi c s) (by rw [gi_of (show s < c.length by omega)]; exact List.getElem_mem _)
  simp only [wI]
  rw [gi_set,wI_len,hL]
  by_cases e:(gi c s).toNat = x
  ·rw [if_pos ⟨e,hx⟩,if_pos ((take_mem_succ (by omega) _).2 (.inr (by omega)))]
  ·rw [if_neg (fun h=>e h.1),ih]
   by_cases h:(x:Int) ∈ c.take s
   ·rw [if_pos h,if_pos ((take_mem_succ (by omega) _).2 (.inl h))]
   ·rw [if_neg h,if_neg]
    intro h'
    rcases (take_mem_succ (by omega) _).1 h' with h' | h'
    ·exact h h'
    ·omega
theorem wO_at {A:List (List Int)} (hA:∀ l ∈ A,∀ y ∈ l,0 <= y /\ y < 16) {v x:Nat} (hv:v < A.length) (hx:x < 16):gi (wO A (v + 1)) x = if (x:Int) ∈ gl A v then (v:Int) else gi (wO A v) x:=by
 have:=wI_at (v:=v) (hA _ (gl_mem hv)) (wO_len (A:=A) v) hx (gl A v).length (Nat.le_refl _)
 rw [List.take_length] at this
 exact this
section
variable {b w:List Int} {n:Int}
end
theorem whichL_lim {p:List Int} {n:Int} (hn:1 <= n /\ n <= 16) (hp:ltP p n) {x:Nat}:0 <= gi (whichL p n) x /\ gi (whichL p n) x < (cyc p n).length:=by
 have hB:∀ l ∈ cyc p n,∀ y ∈ l,0 <= y /\ y < 16:=fun l hl y hy=>by have:=(cyc_at hp hn l hl).1 y hy; omega
 have h0:=cyc_pos (p:=p) hn
 by_cases hx:x < 16
 ·have:∀ v,v <= (cyc p n).length -> 0 <= gi (wO (cyc p n) v) x /\ gi (wO (cyc p n) v) x < (cyc p n).length:=by
   intro v hv
   induction v with
   | zero=>simp only [wO]; rw [gi_rep]; split <;> omega
   | succ v ih =>
    rw [wO_at hB (by omega) hx]
    split
    ·omega
    ·exact ih (by omega)
  exact this _ (Nat.le_refl _)
 ·unfold whichL; rw [gi_over (by rw [wO_len]; omega)]; omega
end
section

end
section
def smE:Nat -> (Nat -> Int) -> Int
 | 0,_=>0
 | n + 1,f=>smE n f + f n
theorem smE_congr {f g:Nat -> Int}:∀ n,(∀ e,e < n -> f e = g e) -> smE n f = smE n g
 | 0,_=>rfl
 | n + 1,h=>by simp only [smE]; rw [smE_congr n fun e he=>h e (by omega),h n (by omega)]
theorem smE_add {f g:Nat -> Int}:∀ n,smE n (fun e=>f e + g e) = smE n f + smE n g
 | 0=>rfl
 | n + 1=>by simp only [smE]; rw [smE_add n]; omega
theorem smE_neg {f:Nat -> Int}:∀ n,smE n (fun e=>- f e) = - smE n f
 | 0=>rfl
 | n + 1=>by simp only [smE]; rw [smE_neg n]; omega
theorem smE_zero:∀ n,smE n (fun _=>0) = 0
 | 0=>rfl
 | n + 1=>by simp only [smE]; rw [smE_zero n]; rfl
theorem smE_one {x:Nat} {c:Int}:∀ n,smE n (fun e=>if e = x then c else 0) = if x < n then c else 0
 | 0=>rfl
 | n + 1=>by
  simp only [smE]; rw [smE_one n]
  by_cases h:n = x
  ·subst h; simp
  ·rw [if_neg h]
   by_cases h2:x < n
   ·rw [if_pos h2,if_pos (by omega)]; omega
   ·rw [if_neg h2,if_neg (by omega)]; omega
structure Fo (n V B:Nat) (E0 E1:Nat -> Nat) (cl:Nat -> Nat -> Int):Prop where
 e0:∀ e,e < n -> E0 e < B
 e1:∀ e,e < n -> B <= E1 e /\ E1 e < V
 z:∀ i j,i < V -> j < V -> (cl 0 i = cl 0 j ↔ i = j)
 s:∀ x i j,x < n -> i < V -> j < V -> (cl (x + 1) i = cl (x + 1) j ↔ cl x i = cl x j ∨ ((cl x i = cl x (E0 x) ∨ cl x i = cl x (E1 x)) /\ (cl x j = cl x (E0 x) ∨ cl x j = cl x (E1 x))))
def treE (E0 E1:Nat -> Nat) (cl:Nat -> Nat -> Int) (e:Nat):Prop:=cl e (E0 e) ≠ cl e (E1 e)
def incE (E0 E1:Nat -> Nat) (e t:Nat):Prop:=E0 e = t ∨ E1 e = t
instance {E0 E1:Nat -> Nat} {e t:Nat}:Decidable (incE E0 E1 e t):=by unfold incE; infer_instance
section
variable {n V B:Nat} {E0 E1:Nat -> Nat} {cl:Nat -> Nat -> Int}
theorem Fo.l0 (F:Fo n V B E0 E1 cl) {e:Nat} (h:e < n):E0 e < V:=by have:=F.e0 e h; have:=F.e1 e h; omega
theorem Fo.mono (F:Fo n V B E0 E1 cl) {i j:Nat} (hi:i < V) (hj:j < V) {e:Nat}:∀ x,e <= x -> x <= n -> cl e i = cl e j -> cl x i = cl x j:=by
 intro x
 induction x with
 | zero =>
  intro h1 _ h
  have:e = 0:=by omega
  subst this; exact h
 | succ x ih =>
  intro h1 h2 h
  by_cases he:e = x + 1
  ·subst he; exact h
  ·exact (F.s x i j (by omega) hi hj).2 (.inl (ih (by omega) (by omega) h))
theorem Fo.joined (F:Fo n V B E0 E1 cl) {e x:Nat} (he:e < x) (hx:x <= n):cl x (E0 e) = cl x (E1 e):=by
 have h0:=F.l0 (e:=e) (by omega)
 have h1:=(F.e1 e (by omega)).2
 exact F.mono h0 h1 (e:=e + 1) x he hx ((F.s e _ _ (by omega) h0 h1).2 (.inr ⟨.inl rfl,.inr rfl⟩))
def Sv (n:Nat) (E0 E1:Nat -> Nat) (a:Nat -> Int) (v:Nat):Int:=smE n fun e=>if incE E0 E1 e v then a e else 0
def sgV (B v:Nat):Int:=if v < B then 1 else -1
structure Con (n V B:Nat) (E0 E1:Nat -> Nat) (cl:Nat -> Nat -> Int) (x:Nat) (M:Int) (i j:Nat) (a:Nat -> Int):Prop where
 sup:∀ e,a e ≠ 0 -> e < x /\ treE E0 E1 cl e
 lim:∀ e,-M <= a e /\ a e <= M
 sum:∀ v,v < V -> Sv n E0 E1 a v = (if v = i then sgV B i else 0) - (if v = j then sgV B j else 0)
structure Sol (n V:Nat) (E0 E1:Nat -> Nat) (cl:Nat -> Nat -> Int) (x:Nat) (a:Nat -> Int):Prop where
 one:a x = 1
 off:∀ e,e < n -> ¬ treE E0 E1 cl e -> e ≠ x -> a e = 0
 sum:∀ v,v < V -> Sv n E0 E1 a v = 0
 lim:∀ e,-65536 <= a e /\ a e <= 65536
end
end
section
theorem cycF_nd {p:List Int} (hp:∀ x:Nat,0 <= gi p x):∀ (c:Nat) {k:Int} {m:List Bool} {acc:List Int},m.count false = c -> 0 <= k -> acc.Nodup -> (∀ y ∈ acc,0 <= y /\ gb m y.toNat = true) ->
  (cycF p k m acc).2.Nodup /\ (∀ y ∈ (cycF p k m acc).2,0 <= y /\ gb (cycF p k m acc).1 y.toNat = true) /\ (∀ y ∈ (cycF p k m acc).2,y ∈ acc ∨ gb m y.toNat = false) /\ (∀ x:Nat,gb m x = true -> gb (cycF p k m acc).1 x = true):=by
 intro c
 induction c using Nat.strongRecOn with
 | ind c ih =>
  intro k m acc hc h0 ha hm
  by_cases h:gb m k.toNat = false /\ k.toNat < m.length
  ·rw [cycF_go h.1 h.2]
   have hlt:=count_false_lt h.1 h.2
   have hka:k ∉ acc:=fun hk=>by have:=(hm k hk).2; rw [h.1] at this; cases this
   obtain ⟨g1,g2,g3,g4⟩:=@ih _ (by omega) (gi p k.toNat) (m.set k.toNat true) (acc ++ [k]) rfl (hp _)
    (by rw [List.nodup_append]; exact ⟨ha,by simp,fun x hx y hy=>by simp only [List.mem_cons,List.not_mem_nil,or_false] at hy; subst hy; rintro rfl; exact hka hx⟩)
    (fun y hy=>by
     rcases List.mem_append.1 hy with hy | hy
     ·exact ⟨(hm y hy).1,(gb_set_iff h.2).2 (.inr (hm y hy).2)⟩
     ·simp only [List.mem_cons,List.not_mem_nil,or_false] at hy
      subst hy; exact ⟨h0,(gb_set_iff h.2).2 (.inl rfl)⟩)
   refine ⟨g1,g2,fun y hy=>?_,fun x hx=>g4 x ((gb_set_iff h.2).2 (.inr hx))⟩
   rcases g3 y hy with h' | h'
   ·rcases List.mem_append.1 h' with h' | h'
    ·exact .inl h'
    ·simp only [List.mem_cons,List.not_mem_nil,or_false] at h'
     subst h'; exact .inr h.1
   ·right
    cases hg:gb m y.toNat with
    | false=>rfl
    | true=>rw [(gb_set_iff h.2).2 (.inr hg)] at h'; cases h'
  ·rw [cycF,dif_neg h]
   exact ⟨ha,hm,fun y hy=>.inl hy,fun x hx=>hx⟩
theorem cycO_nd {p:List Int} (hp:∀ x:Nat,0 <= gi p x):∀ i:Nat,((cycO p i).2.flatten).Nodup /\ ∀ y ∈ (cycO p i).2.flatten,0 <= y /\ gb (cycO p i).1 y.toNat = true
 | 0=>by simp [cycO]
 | i + 1=>by
  obtain ⟨h1,h2⟩:=cycO_nd hp i
  simp only [cycO]
  split
  ·exact ⟨h1,h2⟩
  ·obtain ⟨g1,g2,g3,g4⟩:=cycF_nd hp _ (k:=(i:Int)) (m:=(cycO p i).1) (acc:=[]) rfl (by omega) (by simp) (fun y hy=>absurd hy (by simp))
   simp only [List.flatten_append,List.flatten_cons,List.flatten_nil,List.append_nil]
   refine ⟨?_,fun y hy=>?_⟩
   ·rw [List.nodup_append]
    refine ⟨h1,g1,fun x hx y hy=>?_⟩
    rintro rfl
    rcases g3 x hy with h | h
    ·exact absurd h (by simp)
    ·rw [(h2 x hx).2] at h; cases h
   ·rcases List.mem_append.1 hy with hy | hy
    ·exact ⟨(h2 y hy).1,g4 _ (h2 y hy).2⟩
    ·exact g2 y hy
theorem lo16_nn {p:List Int} (hp:lo16 p):∀ x:Nat,0 <= gi p x:=fun x=>by
 by_cases h:x < 16
 ·exact (hp.2 x h).1
 ·rw [gi_over (by rw [hp.1]; omega)]; omega
theorem gl_of {ls:List (List Int)} {i:Nat} (hi:i < ls.length):gl ls i = ls[i]:=by simp [gl,List.getD,hi]
theorem flat_at {A:List (List Int)} (h:A.flatten.Nodup):(∀ v,v < A.length -> (gl A v).Nodup) /\ ∀ v v',v < A.length -> v' < A.length -> ∀ x,x ∈ gl A v -> x ∈ gl A v' -> v = v':=by
 unfold List.Nodup at h
 rw [List.pairwise_flatten] at h
 refine ⟨fun v hv=>h.1 _ (gl_mem hv),fun v v' hv hv' x hx hx'=>?_⟩
 have h2:=List.pairwise_iff_getElem.1 h.2
 rw [gl_of hv] at hx
 rw [gl_of hv'] at hx'
 rcases Nat.lt_trichotomy v v' with h3 | h3 | h3
 ·exact absurd rfl (h2 v v' hv hv' h3 x hx x hx')
 ·exact h3
 ·exact absurd rfl (h2 v' v hv' hv h3 x hx' x hx)
section
variable {p b w:List Int} {n:Int}
theorem cyc_nd (hp:lo16 p):(cyc p n).flatten.Nodup:=(cycO_nd (lo16_nn hp) n.toNat).1
theorem which_iff (hp:lo16 p) (hpn:ltP p n) (hn:1 <= n /\ n <= 16) {x v:Nat} (hx:(x:Int) < n) (hv:v < (cyc p n).length):(x:Int) ∈ gl (cyc p n) v ↔ gi (whichL p n) x = v:=by
 have hB:∀ l ∈ cyc p n,∀ y ∈ l,0 <= y /\ y < 16:=fun l hl y hy=>by have:=(cyc_at hpn hn l hl).1 y hy; omega
 have h1:∀ k,k <= (cyc p n).length -> (∃ j,j < k /\ (x:Int) ∈ gl (cyc p n) j) -> ∃ j,j < k /\ (x:Int) ∈ gl (cyc p n) j /\ gi (wO (cyc p n) k) x = j:=by
  intro k hk
  induction k with
  | zero=>rintro ⟨j,hj,_⟩; omega
  | succ k ih =>
   rintro ⟨j,hj,hm⟩
   rw [wO_at hB (by omega) (by omega)]
   by_cases h:(x:Int) ∈ gl (cyc p n) k
   ·exact ⟨k,by omega,h,by rw [if_pos h]⟩
   ·have hjk:j < k:=by
     have:j ≠ k:=by rintro rfl; exact h hm
     omega
    obtain ⟨j',q1,q2,q3⟩:=ih (by omega) ⟨j,hjk,hm⟩
    exact ⟨j',by omega,q2,by rw [if_neg h]; exact q3⟩
 obtain ⟨l,hl,hm⟩:=cyc_mem hp hn hx
 obtain ⟨j,hj,rfl⟩:=List.mem_iff_getElem.1 hl
 obtain ⟨j',q1,q2,q3⟩:=h1 _ (Nat.le_refl _) ⟨j,hj,by rw [gl_of hj]; exact hm⟩
 have hu:=(flat_at (cyc_nd (n:=n) hp)).2
 unfold whichL
 rw [q3]
 constructor
 ·intro h; rw [hu v j' hv q1 _ h q2]
 ·intro h
  have:j' = v:=by omega
  subst this; exact q2
end
theorem sumT_sm {a c:List Int} {n:Nat} (hc:c.Nodup) (hl:∀ y ∈ c,0 <= y /\ y < n):∀ s,s <= c.length -> sumT a c s = smE n fun e=>if (e:Int) ∈ c.take s then gi a e else 0:=by
 intro s
 induction s with
 | zero=>intro _; simp only [sumT,List.take_zero,List.not_mem_nil,if_false]; exact (smE_zero n).symm
 | succ s ih =>
  intro hs
  have hy:=hl (gi c s) (by rw [gi_of (show s < c.length by omega)]; exact List.getElem_mem _)
  have hn:gi c s ∉ c.take s:=by
   intro hm
   obtain ⟨j,hj,he⟩:=List.getElem_of_mem hm
   rw [List.getElem_take] at he
   rw [gi_of (show s < c.length by omega)] at he
   rw [List.length_take] at hj
   have:=(List.getElem_inj hc).1 he
   omega
  simp only [sumT]
  rw [ih (by omega)]
  have h1:(if (gi c s).toNat < n then gi a (gi c s).toNat else 0) = gi a (gi c s).toNat:=if_pos (by omega)
  rw [<-h1,<-smE_one,<-smE_add]
  refine smE_congr n fun e he=>?_
  by_cases h2:(e:Int) = gi c s
  ·have e1:e = (gi c s).toNat:=by omega
   rw [if_neg (by rw [h2]; exact hn),if_pos e1,if_pos ((take_mem_succ (by omega) _).2 (.inr h2)),<-e1]
   omega
  ·rw [if_neg (show ¬ e = (gi c s).toNat by omega)]
   by_cases h3:(e:Int) ∈ c.take s
   ·rw [if_pos h3,if_pos ((take_mem_succ (by omega) _).2 (.inl h3))]; omega
   ·rw [if_neg h3,if_neg (fun h4=>((take_mem_succ (by omega) _).1 h4).elim h3 h2)]; omega
end
section
set_option maxHeartbeats 1000000
def fp (p:List Int) (x:Nat):Nat:=(gi p x).toNat
def it (p:List Int):Nat -> Nat -> Nat
 | 0,x=>x
 | k + 1,x=>fp p (it p k x)
theorem it_add {p:List Int} {k x:Nat}:∀ j,it p (j + k) x = it p j (it p k x)
 | 0=>by rw [Nat.zero_add]; rfl
 | j + 1=>by rw [Nat.add_right_comm]; simp only [it]; rw [it_add j]
theorem it_succ {p:List Int} {k x:Nat}:it p (k + 1) x = it p k (fp p x):=it_add (k:=1) k
structure Pf (p:List Int) (N:Nat):Prop where
 lt:∀ x,x < N -> fp p x < N
 inj:∀ x y,x < N -> y < N -> fp p x = fp p y -> x = y
 le:N <= 16
variable {p:List Int} {N:Nat}
theorem it_lt (h:Pf p N) {x:Nat} (hx:x < N):∀ k,it p k x < N
 | 0=>hx
 | k + 1=>h.lt _ (it_lt h hx k)
theorem it_inj (h:Pf p N) {x y:Nat} (hx:x < N) (hy:y < N):∀ k,it p k x = it p k y -> x = y
 | 0,e=>e
 | k + 1,e=>it_inj h hx hy k (h.inj _ _ (it_lt h hx k) (it_lt h hy k) e)
theorem it_ret (h:Pf p N) {x:Nat} (hx:x < N):∃ k,1 <= k /\ it p k x = x:=by
 refine Classical.byContradiction fun hno=>?_
 have hnd:((List.range (N + 1)).map fun k=>it p k x).Nodup:=by
  refine List.pairwise_map.2 (List.Pairwise.imp_of_mem ?_ List.pairwise_lt_range)
  intro a b _ _ hab e
  have e2:it p a x = it p a (it p (b - a) x):=by rw [<-it_add,show a + (b - a) = b from by omega]; exact e
  exact hno ⟨b - a,by omega,(it_inj h hx (it_lt h hx _) a e2).symm⟩
 have:=nodup_len N _ hnd fun y hy=>by
  obtain ⟨k,_,rfl⟩:=List.mem_map.1 hy
  exact it_lt h hx k
 simp at this
 omega
theorem it_mul {K x:Nat} (hK:it p K x = x):∀ k,it p (K * k) x = x
 | 0=>rfl
 | k + 1=>by rw [Nat.mul_succ,it_add,hK,it_mul hK k]
def Rch (p:List Int) (x y:Nat):Prop:=∃ k,it p k x = y
theorem Rch.trans {x y z:Nat}:Rch p x y -> Rch p y z -> Rch p x z
 | ⟨j,e⟩,⟨k,e'⟩=>⟨k + j,by rw [it_add,e,e']⟩
theorem Rch.symm (h:Pf p N) {x y:Nat} (hx:x < N):Rch p x y -> Rch p y x:=by
 rintro ⟨k,rfl⟩
 obtain ⟨K,h1,h2⟩:=it_ret h hx
 refine ⟨K * k - k,?_⟩
 have:k <= K * k:=Nat.le_mul_of_pos_left k h1
 rw [<-it_add,show K * k - k + k = K * k from by omega,it_mul h2]
def orb (p:List Int) (x L:Nat):List Int:=(List.range L).map fun j=>(it p j x:Int)
structure Per (p:List Int) (x L:Nat):Prop where
 pos:1 <= L
 ret:it p L x = x
 min:∀ j,0 < j -> j < L -> it p j x ≠ x
theorem gbs {m:List Bool} {k x:Nat} (hk:k < m.length):gb (m.set k true) x = true ↔ x = k ∨ gb m x = true:=by
 rw [gb_set]
 by_cases e:k = x
 ·subst e; rw [if_pos ⟨rfl,hk⟩]; simp
 ·rw [if_neg fun h'=>e h'.1]; simp [Ne.symm e]
theorem cycF_orb (h:Pf p N) (hnn:∀ x:Nat,0 <= gi p x) {x:Nat} (hx:x < N) {C:Nat -> Prop} (hC:∀ k,¬ C (it p k x)):∀ (c t:Nat) {m:List Bool},m.count false = c -> m.length = 16 -> (∀ j,0 < j -> j < t -> it p j x ≠ x) ->
  (∀ y,y < 16 -> (gb m y = true ↔ C y ∨ ∃ j,j < t /\ it p j x = y)) ->
  ∃ L,Per p x L /\ (cycF p (it p t x:Int) m (orb p x t)).2 = orb p x L /\ (cycF p (it p t x:Int) m (orb p x t)).1.length = 16 /\ ∀ y,y < 16 -> (gb (cycF p (it p t x:Int) m (orb p x t)).1 y = true ↔ C y ∨ ∃ j,j < L /\ it p j x = y):=by
 intro c
 induction c using Nat.strongRecOn with
 | ind c ih =>
  intro t m hc hl hmin hm
  have hlt:=it_lt h hx t
  have hN:=h.le
  cases hg:gb m (it p t x) with
  | false =>
   have hcl:=count_false_lt hg (by omega)
   rw [cycF_go (by rw [Int.toNat_natCast]; exact hg) (by rw [Int.toNat_natCast]; omega)]
   simp only [Int.toNat_natCast]
   have e1:gi p (it p t x) = (it p (t + 1) x:Int):=by simp only [it,fp]; have:=hnn (it p t x); omega
   have e2:orb p x t ++ [(it p t x:Int)] = orb p x (t + 1):=by simp [orb,List.range_succ]
   rw [e1,e2]
   refine ih _ (by omega) (t + 1) rfl (by simp [hl]) (fun j h0 hj=>?_) (fun y hy=>?_)
   ·by_cases hjt:j = t
    ·subst hjt
     intro e
     have:=(hm x (by omega)).2 (.inr ⟨0,h0,rfl⟩)
     rw [e] at hg; rw [hg] at this; cases this
    ·exact hmin j h0 (by omega)
   ·rw [gbs (by omega),hm y hy]
    constructor
    ·rintro (rfl | h | ⟨j,h1,h2⟩)
     ·exact .inr ⟨t,by omega,rfl⟩
     ·exact .inl h
     ·exact .inr ⟨j,by omega,h2⟩
    ·rintro (h | ⟨j,h1,h2⟩)
     ·exact .inr (.inl h)
     ·by_cases hjt:j = t
      ·subst hjt; exact .inl h2.symm
      ·exact .inr (.inr ⟨j,by omega,h2⟩)
  | true =>
   rw [cycF_end (by rw [Int.toNat_natCast]; exact hg)]
   rcases (hm _ (by omega)).1 hg with h1 | ⟨j,h1,h2⟩
   ·exact absurd h1 (hC t)
   ·have e:it p j x = it p j (it p (t - j) x):=by rw [<-it_add,show j + (t - j) = t from by omega]; exact h2
    have e3:=(it_inj h hx (it_lt h hx _) j e).symm
    by_cases hj:j = 0
    ·subst hj
     exact ⟨t,⟨by omega,by simpa using e3,hmin⟩,rfl,hl,hm⟩
    ·exact absurd e3 (hmin (t - j) (by omega) (by omega))
def nwB (p:List Int) (x:Nat):Bool:=!gb (cycO p x).1 x
def cyF (p:List Int) (x:Nat):List Int:=(cycF p x (cycO p x).1 []).2
theorem cycO_list:∀ i:Nat,(cycO p i).2 = ((List.range i).filter (nwB p)).map (cyF p)
 | 0=>rfl
 | i + 1=>by
  rw [List.range_succ,List.filter_append,List.map_append,<-cycO_list i]
  cases hg:gb (cycO p i).1 i with
  | true=>rw [cycO_yes hg]; simp [nwB,hg]
  | false=>rw [cycO_no hg]; simp [nwB,hg,cyF]
theorem cycO_orb (h:Pf p N) (hnn:∀ x:Nat,0 <= gi p x):∀ i:Nat,i <= N -> (cycO p i).1.length = 16 /\ ∀ y,y < 16 -> (gb (cycO p i).1 y = true ↔ ∃ j,j < i /\ Rch p j y)
 | 0,_=>⟨by simp [cycO],fun y hy=>by
  have e:gb (cycO p 0).1 y = false:=by simp only [cycO]; rw [gb_rep]; split <;> rfl
  rw [e]; simp⟩
 | i + 1,hi=>by
  obtain ⟨h1,h2⟩:=cycO_orb h hnn i (by omega)
  have hN:=h.le
  cases hg:gb (cycO p i).1 i with
  | true =>
   rw [cycO_yes hg]
   refine ⟨h1,fun y hy=>?_⟩
   rw [h2 y hy]
   constructor
   ·rintro ⟨j,a,b⟩; exact ⟨j,by omega,b⟩
   ·rintro ⟨j,a,b⟩
    by_cases hj:j = i
    ·subst hj
     obtain ⟨j',a',b'⟩:=(h2 j (by omega)).1 hg
     exact ⟨j',a',b'.trans b⟩
    ·exact ⟨j,by omega,b⟩
  | false =>
   rw [cycO_no hg]
   have hno:¬ ∃ j,j < i /\ Rch p j i:=fun hh=>by rw [(h2 i (by omega)).2 hh] at hg; cases hg
   obtain ⟨L,p1,p2,p3,p4⟩:=cycF_orb h hnn (x:=i) (by omega) (C:=fun y=>∃ j,j < i /\ Rch p j y)
    (fun k ⟨j,a,b⟩=>hno ⟨j,a,b.trans (Rch.symm h (x:=i) (by omega) ⟨k,rfl⟩)⟩) _ 0 (m:=(cycO p i).1) rfl h1 (fun j a b=>absurd b (Nat.not_lt_zero j)) (fun y hy=>by rw [h2 y hy]; simp)
   refine ⟨p3,fun y hy=>?_⟩
   have:=p4 y hy
   simp only [it,orb,List.range_zero,List.map_nil] at this
   show gb (cycF p (i:Int) (cycO p i).1 []).1 y = true ↔ _
   rw [this]
   constructor
   ·rintro (⟨j,a,b⟩ | ⟨j,a,b⟩)
    ·exact ⟨j,by omega,b⟩
    ·exact ⟨i,by omega,j,b⟩
   ·rintro ⟨j,a,k,b⟩
    by_cases hj:j = i
    ·subst hj
     right
     refine ⟨k % L,Nat.mod_lt _ p1.pos,?_⟩
     rw [<-b]
     conv=>rhs; rw [<-Nat.mod_add_div k L,it_add,it_mul p1.ret]
    ·exact .inl ⟨j,by omega,k,b⟩
theorem nwB_iff (h:Pf p N) (hnn:∀ x:Nat,0 <= gi p x) {x:Nat} (hx:x < N):nwB p x = true ↔ ∀ j,j < x -> ¬ Rch p j x:=by
 have hN:=h.le
 have:=(cycO_orb h hnn x (by omega)).2 x (by omega)
 unfold nwB
 rw [Bool.not_eq_true',<-Bool.not_eq_true,this]
 exact ⟨fun h j a b=>h ⟨j,a,b⟩,fun h ⟨j,a,b⟩=>h j a b⟩
theorem cyF_orb (h:Pf p N) (hnn:∀ x:Nat,0 <= gi p x) {x:Nat} (hx:x < N) (hn:nwB p x = true):∃ L,Per p x L /\ cyF p x = orb p x L:=by
 obtain ⟨h1,h2⟩:=cycO_orb h hnn x (by omega)
 have hno:=(nwB_iff h hnn hx).1 hn
 obtain ⟨L,p1,p2,_⟩:=cycF_orb h hnn hx (C:=fun y=>∃ j,j < x /\ Rch p j y) (fun k ⟨j,a,b⟩=>hno j a (b.trans (Rch.symm h hx ⟨k,rfl⟩))) _ 0 (m:=(cycO p x).1) rfl h1 (fun j a b=>absurd b (Nat.not_lt_zero j)) (fun y hy=>by rw [h2 y hy]; simp)
 exact ⟨L,p1,p2⟩
def cN (p:List Int):Nat -> Nat
 | 0=>0
 | i + 1=>cN p i + if nwB p i = true then 1 else 0
theorem cyc_cN {n:Int}:(cyc p n).length = cN p n.toNat:=by
 unfold cyc
 rw [cycO_list,List.length_map]
 generalize n.toNat = k
 induction k with
 | zero=>rfl
 | succ k ih =>
  rw [List.range_succ,List.filter_append,List.length_append,ih]
  simp only [cN,List.filter_cons,List.filter_nil]
  cases nwB p k <;> simp
def Vs (p:List Int) (v:Nat -> Nat) (x:Nat):Nat -> Nat
 | 0=>0
 | k + 1=>Vs p v x k + v (it p k x)
theorem Vs_add {v:Nat -> Nat} {x L:Nat}:∀ k,Vs p v x (k + L) = Vs p v x L + Vs p v (it p L x) k
 | 0=>by simp [Vs]
 | k + 1=>by
  rw [Nat.add_right_comm]
  simp only [Vs]
  rw [Vs_add k,it_add]; omega
structure Cov (p q:List Int) (N m:Nat) (v:Nat -> Nat):Prop where
 hp:Pf p N
 hq:Pf q (N * m)
 np:∀ x:Nat,0 <= gi p x
 nq:∀ x:Nat,0 <= gi q x
 m0:1 <= m
 at_:∀ x i,x < N -> i < m -> fp q (m * x + i) = m * fp p x + (i + v x) % m
variable {q:List Int} {m:Nat} {v:Nat -> Nat}
theorem Cov.it (h:Cov p q N m v) {x i:Nat} (hx:x < N) (hi:i < m):∀ k,it q k (m * x + i) = m * Sep.it p k x + (i + Vs p v x k) % m
 | 0=>by simp only [Sep.it,Vs,Nat.add_zero]; rw [Nat.mod_eq_of_lt hi]
 | k + 1=>by
  simp only [Sep.it,Vs]
  rw [Cov.it h hx hi k,h.at_ _ _ (it_lt h.hp hx k) (Nat.mod_lt _ h.m0),Nat.mod_add_mod,Nat.add_assoc]
theorem idx_lt {x i:Nat} (hx:x < N) (hi:i < m):m * x + i < N * m:=by
 have:m * (x + 1) <= m * N:=Nat.mul_le_mul_left m hx
 rw [Nat.mul_succ] at this
 rw [Nat.mul_comm N m]; omega
theorem idx_div {x i y j:Nat} (hi:i < m) (hj:j < m) (e:m * x + i = m * y + j):x = y /\ i = j:=by
 have h1:(m * x + i) / m = x:=by rw [Nat.mul_add_div (by omega),Nat.div_eq_of_lt hi,Nat.add_zero]
 have h2:(m * y + j) / m = y:=by rw [Nat.mul_add_div (by omega),Nat.div_eq_of_lt hj,Nat.add_zero]
 have:x = y:=by rw [<-h1,e,h2]
 subst this
 exact ⟨rfl,by omega⟩
theorem Cov.nw_no (h:Cov p q N m v) {x i:Nat} (hx:x < N) (hi:i < m) (hn:¬ nwB p x = true):¬ nwB q (m * x + i) = true:=by
 rw [nwB_iff h.hp h.np hx] at hn
 rw [nwB_iff h.hq h.nq (idx_lt hx hi)]
 intro hall
 refine hn fun j hj ⟨k,e⟩=>?_
 -- from (j,i') with the right i' one comes to (x,i)
 have hm:=h.m0
 refine hall (m * j + (i + (m - Vs p v j k % m)) % m) ?_ ⟨k,?_⟩
 ·have h1:=Nat.mod_lt (i + (m - Vs p v j k % m)) hm
  have h2:m * (j + 1) <= m * x:=Nat.mul_le_mul_left m hj
  rw [Nat.mul_succ] at h2
  omega
 ·rw [h.it (by omega) (Nat.mod_lt _ hm),e,Nat.mod_add_mod]
  congr 1
  have h1:=Nat.mod_lt (Vs p v j k) hm
  have h2:=Nat.mod_add_div (Vs p v j k) m
  rw [show i + (m - Vs p v j k % m) + Vs p v j k = i + m * (1 + Vs p v j k / m) from by rw [Nat.mul_add]; omega,Nat.add_mul_mod_self_left,Nat.mod_eq_of_lt hi]
def rw_ (q:List Int) (a:Nat):Nat -> Nat
 | 0=>0
 | j + 1=>rw_ q a j + if nwB q (a + j) = true then 1 else 0
theorem cN_row {a:Nat}:∀ j,cN q (a + j) = cN q a + rw_ q a j
 | 0=>rfl
 | j + 1=>by rw [<-Nat.add_assoc]; simp only [cN,rw_]; rw [cN_row j]; omega
theorem rw_le {a:Nat}:∀ j,rw_ q a j <= j
 | 0=>Nat.le_refl _
 | j + 1=>by have:=rw_le (a:=a) j; simp only [rw_]; split <;> omega
theorem rw_zero {a:Nat}:∀ j,(∀ i,i < j -> ¬ nwB q (a + i) = true) -> rw_ q a j = 0
 | 0,_=>rfl
 | j + 1,h=>by simp only [rw_]; rw [rw_zero j fun i hi=>h i (by omega),if_neg (h j (by omega))]
theorem rw_all {a:Nat}:∀ j,(∀ i,i < j -> nwB q (a + i) = true) -> rw_ q a j = j
 | 0,_=>rfl
 | j + 1,h=>by simp only [rw_]; rw [rw_all j fun i hi=>h i (by omega),if_pos (h j (by omega))]
theorem rw_lt {a i:Nat}:∀ j,i < j -> ¬ nwB q (a + i) = true -> rw_ q a j < j
 | 0,h,_=>absurd h (Nat.not_lt_zero i)
 | j + 1,h,hn=>by
  simp only [rw_]
  by_cases e:i = j
  ·subst e; rw [if_neg hn]; have:=rw_le (q:=q) (a:=a) i; omega
  ·have:=rw_lt (a:=a) j (by omega) hn
   split <;> omega
theorem Vs_mul {x L:Nat} (hL:Per p x L) (hS:Vs p v x L % m = 0):∀ k,it p k x = x -> Vs p v x k % m = 0:=by
 intro k
 induction k using Nat.strongRecOn with
 | ind k ih =>
  intro e
  by_cases h0:k = 0
  ·subst h0; simp [Vs]
  ·by_cases hk:k < L
   ·exact absurd e (hL.min k (by omega) hk)
   ·have hpos:=hL.pos
    have e1:it p (k - L) x = x:=by
     have:=e
     rw [show k = (k - L) + L from by omega,it_add,hL.ret] at this; exact this
    have:=ih (k - L) (by omega) e1
    rw [show k = (k - L) + L from by omega,Vs_add,hL.ret,Nat.add_mod,hS,this]; simp
theorem Cov.row (h:Cov p q N m v) {x L:Nat} (hx:x < N) (hn:nwB p x = true) (hL:Per p x L):(Vs p v x L % m = 0 -> rw_ q (m * x) m = m) /\ (Vs p v x L % m ≠ 0 -> rw_ q (m * x) m < m):=by
 have hm:=h.m0
 have hnew:=(nwB_iff h.hp h.np hx).1 hn
 constructor
 ·intro hS
  refine rw_all m fun i hi=>?_
  rw [nwB_iff h.hq h.nq (idx_lt hx hi)]
  rintro j hj ⟨k,e⟩
  have hjd:=Nat.div_add_mod j m
  have hjm:=Nat.mod_lt j hm
  have hyx:j / m <= x:=by
   have:=Nat.div_le_div_right (c:=m) (Nat.le_of_lt hj)
   rwa [Nat.mul_add_div (by omega),Nat.div_eq_of_lt hi,Nat.add_zero] at this
  rw [<-hjd,h.it (by omega) hjm] at e
  obtain ⟨e1,e2⟩:=idx_div (Nat.mod_lt _ hm) hi e
  by_cases hlt:j / m < x
  ·exact hnew _ hlt ⟨k,e1⟩
  ·have hyx':j / m = x:=by omega
   rw [hyx'] at e1 e2
   have:=Vs_mul (m:=m) hL hS k e1
   rw [Nat.add_mod,this,Nat.add_zero,Nat.mod_mod,Nat.mod_mod] at e2
   rw [hyx'] at hjd
   omega
 ·intro hS
  have hSl:=Nat.mod_lt (Vs p v x L) hm
  refine rw_lt (i:=Vs p v x L % m) m hSl ?_
  rw [nwB_iff h.hq h.nq (idx_lt hx hSl)]
  intro hall
  refine hall (m * x + 0) (by omega) ⟨L,?_⟩
  rw [h.it hx (by omega),hL.ret,Nat.zero_add]
theorem Cov.row0 (h:Cov p q N m v) {x:Nat} (hx:x < N) (hn:¬ nwB p x = true):rw_ q (m * x) m = 0:=rw_zero m fun i hi=>h.nw_no hx hi hn
theorem Cov.le (h:Cov p q N m v):∀ k,k <= N -> cN q (m * k) <= m * cN p k
 | 0,_=>Nat.le_refl _
 | k + 1,hk=>by
  have ih:=Cov.le h k (by omega)
  rw [Nat.mul_succ,cN_row]
  simp only [cN]
  by_cases hn:nwB p k = true
  ·rw [if_pos hn,Nat.mul_add]
   have:=rw_le (q:=q) (a:=m * k) m
   omega
  ·rw [if_neg hn,h.row0 (by omega) hn]; omega
theorem Cov.eq (h:Cov p q N m v) (hS:∀ x,x < N -> nwB p x = true -> ∀ L,Per p x L -> Vs p v x L % m = 0):∀ k,k <= N -> cN q (m * k) = m * cN p k
 | 0,_=>rfl
 | k + 1,hk=>by
  have ih:=Cov.eq h hS k (by omega)
  rw [Nat.mul_succ,cN_row]
  simp only [cN]
  by_cases hn:nwB p k = true
  ·obtain ⟨L,hL,_⟩:=cyF_orb h.hp h.np (x:=k) (by omega) hn
   rw [if_pos hn,Nat.mul_add,(h.row (by omega) hn hL).1 (hS k (by omega) hn L hL),ih]; omega
  ·rw [if_neg hn,h.row0 (by omega) hn,ih,Nat.add_zero,Nat.add_zero]
theorem Cov.lt (h:Cov p q N m v) {x L:Nat} (hx:x < N) (hn:nwB p x = true) (hL:Per p x L) (hS:Vs p v x L % m ≠ 0):∀ k,x < k -> k <= N -> cN q (m * k) < m * cN p k
 | 0,hk,_=>absurd hk (Nat.not_lt_zero x)
 | k + 1,hk,hkN=>by
  rw [Nat.mul_succ,cN_row]
  simp only [cN]
  by_cases hxk:x = k
  ·subst hxk
   have ih:=Cov.le h x (by omega)
   have:=(h.row hx hn hL).2 hS
   rw [if_pos hn,Nat.mul_add]; omega
  ·have ih:=Cov.lt h hx hn hL hS k (by omega) (by omega)
   by_cases hn':nwB p k = true
   ·rw [if_pos hn',Nat.mul_add]
    have:=rw_le (q:=q) (a:=m * k) m
    omega
   ·rw [if_neg hn',h.row0 (by omega) hn']; omega
end
section
set_option maxHeartbeats 1000000
theorem smE_sub {f g:Nat -> Int} (n:Nat):smE n (fun e=>f e - g e) = smE n f - smE n g:=by
 have:=smE_add (f:=f) (g:=fun e=>- g e) n
 rw [smE_neg] at this
 rw [Int.sub_eq_add_neg,<-this]
 exact smE_congr n fun e _=>Int.sub_eq_add_neg
theorem smE_mul {c:Int} {f:Nat -> Int}:∀ n,smE n (fun e=>c * f e) = c * smE n f
 | 0=>by simp [smE]
 | n + 1=>by simp only [smE]; rw [smE_mul n,Int.mul_add]
theorem smE_swap {f:Nat -> Nat -> Int} {n:Nat}:∀ m,smE m (fun i=>smE n (f i)) = smE n (fun j=>smE m fun i=>f i j)
 | 0=>(smE_zero n).symm
 | m + 1=>by simp only [smE]; rw [smE_swap m,<-smE_add]
theorem smE_pick {f:Nat -> Int} {x:Nat} {n:Nat} (hx:x < n):smE n (fun e=>if e = x then f e else 0) = f x:=by
 have:smE n (fun e=>if e = x then f e else 0) = smE n (fun e=>if e = x then f x else 0):=smE_congr n fun e _=>by
  by_cases h:e = x
  ·subst h; rfl
  ·rw [if_neg h,if_neg h]
 rw [this,smE_one,if_pos hx]
variable {p q:List Int} {N:Nat}
theorem Pf.onto (h:Pf p N) {y:Nat} (hy:y < N):∃ x,x < N /\ fp p x = y:=by
 obtain ⟨k,h1,h2⟩:=it_ret h hy
 refine ⟨it p (k - 1) y,it_lt h hy _,?_⟩
 have:it p (k - 1 + 1) y = y:=by rw [Nat.sub_add_cancel h1]; exact h2
 exact this
theorem smE_perm (h:Pf p N) {g:Nat -> Int}:smE N (fun x=>g (fp p x)) = smE N g:=by
 have e1:smE N (fun x=>g (fp p x)) = smE N (fun x=>smE N fun y=>if y = fp p x then g y else 0):=smE_congr N fun x hx=>(smE_pick (h.lt x hx)).symm
 rw [e1,smE_swap]
 refine smE_congr N fun y hy=>?_
 obtain ⟨x0,h1,h2⟩:=h.onto hy
 have e2:smE N (fun x=>if y = fp p x then g y else 0) = smE N (fun x=>if x = x0 then g y else 0):=smE_congr N fun x hx=>by
  by_cases e:x = x0
  ·subst e; rw [if_pos h2.symm,if_pos rfl]
  ·rw [if_neg e,if_neg fun e'=>e (h.inj x x0 hx h1 (by rw [h2]; exact e'.symm))]
 rw [e2,smE_one,if_pos h1]
theorem Pf.off {p:List Int} {n:Int} (ho:okP p) (h:isPm p n):Pf p n.toNat:=by
 have hn:=h.1
 have hl:=h.ltP ho
 refine ⟨fun x hx=>?_,fun x y hx hy e=>?_,by omega⟩
 ·have:=hl x (by omega); unfold fp; omega
 ·have h1:=hl x (by omega)
  have h2:=hl y (by omega)
  unfold fp at e
  have e':gi p x = gi p y:=by omega
  rcases Nat.lt_trichotomy x y with hl | hl | hl
  ·exact absurd e' (((h.2 y (by omega)).1 (by omega)).2 x hl)
  ·exact hl
  ·exact absurd e'.symm (((h.2 x (by omega)).1 (by omega)).2 y hl)
theorem Per.same {x L L':Nat} (h:Per p x L) (h':Per p x L'):L = L':=by
 rcases Nat.lt_trichotomy L L' with e | e | e
 ·exact absurd h.ret (h'.min L h.pos e)
 ·exact e
 ·exact absurd h'.ret (h.min L' h'.pos e)
theorem Per.inj (hp:Pf p N) {x L:Nat} (hx:x < N) (h:Per p x L) {i j:Nat} (hi:i < L) (hj:j < L) (e:it p i x = it p j x):i = j:=by
 have key:∀ i j,i < j -> j < L -> it p i x = it p j x -> False:=fun i j hij hj e=>by
  have e2:it p i x = it p i (it p (j - i) x):=by rw [<-it_add,show i + (j - i) = j by omega]; exact e
  exact h.min (j - i) (by omega) (by omega) (it_inj hp hx (it_lt hp hx _) i e2).symm
 rcases Nat.lt_trichotomy i j with h1 | h1 | h1
 ·exact (key i j h1 hj e).elim
 ·exact h1
 ·exact (key j i h1 hi e.symm).elim
theorem orb_len {x L:Nat}:(orb p x L).length = L:=by simp [orb]
theorem orb_at {x L j:Nat} (hj:j < L):gi (orb p x L) j = (it p j x:Int):=by
 rw [gi_of (by rw [orb_len]; exact hj)]; simp [orb]
theorem orb_mem {x L y:Nat}:(y:Int) ∈ orb p x L ↔ ∃ j,j < L /\ it p j x = y:=by
 unfold orb
 simp only [List.mem_map,List.mem_range]
 constructor
 ·rintro ⟨j,a,b⟩; exact ⟨j,a,by omega⟩
 ·rintro ⟨j,a,b⟩; exact ⟨j,a,by omega⟩
theorem cyc_orb {n:Int} (hp:Pf p n.toNat) (np:∀ x:Nat,0 <= gi p x) {v:Nat} (hv:v < (cyc p n).length):∃ r L,r < n.toNat /\ nwB p r = true /\ Per p r L /\ gl (cyc p n) v = orb p r L:=by
 have h:gl (cyc p n) v ∈ cyc p n:=gl_mem hv
 unfold cyc at h
 rw [cycO_list] at h
 obtain ⟨r,h1,h2⟩:=List.mem_map.1 h
 obtain ⟨h3,h4⟩:=List.mem_filter.1 h1
 have h3:=List.mem_range.1 h3
 obtain ⟨L,h5,h6⟩:=cyF_orb hp np h3 h4
 refine ⟨r,L,h3,h4,h5,?_⟩
 rw [<-h6,h2]; unfold cyc; rw [cycO_list]
structure Pd (p:List Int) (n:Int):Prop where
 lo:lo16 p
 lt:ltP p n
 hn:1 <= n /\ n <= 16
 pf:Pf p n.toNat
section
variable {n:Int}
theorem Pd.nn (h:Pd p n):∀ x:Nat,0 <= gi p x:=lo16_nn h.lo
theorem isPm.pd (h:isPm p n) (ho:okP p):Pd p n:=⟨h.lo ho,h.ltP ho,h.1,Pf.off ho h⟩
def wh (p:List Int) (n:Int) (x:Nat):Nat:=(gi (whichL p n) x).toNat
theorem Pd.wh_lt (h:Pd p n) {x:Nat}:wh p n x < (cyc p n).length:=by
 have:=whichL_lim (x:=x) h.hn h.lt
 unfold wh; omega
theorem Pd.wh_iff (h:Pd p n) {x v:Nat} (hx:x < n.toNat) (hv:v < (cyc p n).length):(x:Int) ∈ gl (cyc p n) v ↔ v = wh p n x:=by
 have h1:=which_iff h.lo h.lt h.hn (x:=x) (v:=v) (by omega) hv
 have h2:=whichL_lim (x:=x) h.hn h.lt
 rw [h1]; unfold wh; omega
theorem Pd.all (h:Pd p n) {g:Nat -> Int}:smE (cyc p n).length (fun v=>smE n.toNat fun e=>if (e:Int) ∈ gl (cyc p n) v then g e else 0) = smE n.toNat g:=by
 rw [smE_swap]
 refine smE_congr _ fun e he=>?_
 have:smE (cyc p n).length (fun v=>if (e:Int) ∈ gl (cyc p n) v then g e else 0) = smE (cyc p n).length (fun v=>if v = wh p n e then g e else 0):=smE_congr _ fun v hv=>by
  have:=h.wh_iff he hv
  by_cases q:v = wh p n e
  ·rw [if_pos q,if_pos (this.2 q)]
  ·rw [if_neg q,if_neg fun q'=>q (this.1 q')]
 rw [this,smE_one,if_pos h.wh_lt]
def tab (n:Int) (g:Nat -> Int):List Int:=(List.range n.toNat).map g
theorem tab_at {g:Nat -> Int} {e:Nat} (he:e < n.toNat):gi (tab n g) e = g e:=by
 unfold tab; rw [gi_of (by simpa using he)]; simp
theorem Pd.nd (h:Pd p n) {v:Nat} (hv:v < (cyc p n).length):(gl (cyc p n) v).Nodup:=(flat_at (cyc_nd (n:=n) h.lo)).1 v hv
theorem Pd.sumT (h:Pd p n) {a:List Int} {v:Nat} (hv:v < (cyc p n).length):sumT a (gl (cyc p n) v) (gl (cyc p n) v).length = smE n.toNat fun e=>if (e:Int) ∈ gl (cyc p n) v then gi a e else 0:=by
 have:=sumT_sm (a:=a) (n:=n.toNat) (h.nd hv) (fun y hy=>by have:=(cyc_at h.lt h.hn _ (gl_mem hv)).1 y hy; omega) (gl (cyc p n) v).length (Nat.le_refl _)
 rw [List.take_length] at this
 exact this
def Pot (p:List Int) (N:Nat) (a:Nat -> Int) (P:Nat -> Int):Prop:=∀ x,x < N -> P (fp p x) = P x + a x
theorem mtI_eq {a b c:List Int} {y s:Int}:∀ i,mtI a b c y i s = s + Sep.sumT a c i * gi b y.toNat - gi a y.toNat * Sep.sumT b c i
 | 0=>by simp [mtI,Sep.sumT]
 | i + 1=>by
  simp only [mtI,Sep.sumT]; rw [mtI_eq i]; grind
theorem mtJ_pot {a b:List Int} {P:Nat -> Int} (hp:Pf p N) {r L:Nat} (hr:r < N) (hP:Pot p N (gi b) P) {s:Int}:∀ j,j <= L ->
  mtJ a b (orb p r L) j s = s + Sep.sumT a (orb p r L) j * (P (it p j r) + P r) - smE j (fun t=>gi a (it p t r) * (P (it p t r) + P (fp p (it p t r)))) /\ Sep.sumT b (orb p r L) j = P (it p j r) - P r
 | 0,_=>by simp [mtJ,Sep.sumT,smE,it]
 | j + 1,hj=>by
  obtain ⟨h1,h2⟩:=mtJ_pot hp hr hP (L:=L) (s:=s) j (by omega)
  have h3:=hP _ (it_lt hp hr j)
  have h4:=orb_at (p:=p) (x:=r) (show j < L by omega)
  simp only [mtJ,Sep.sumT,smE,it]
  rw [mtI_eq,h1,h2,h4,Int.toNat_natCast,h3]
  generalize it p j r = x at *
  constructor <;> grind
theorem Pd.mtJ (h:Pd p n) {a b:List Int} {P:Nat -> Int} (hP:Pot p n.toNat (gi b) P) {v:Nat} (hv:v < (cyc p n).length) (hz:Sep.sumT a (gl (cyc p n) v) (gl (cyc p n) v).length = 0) {s:Int} :
  Sep.mtJ a b (gl (cyc p n) v) (gl (cyc p n) v).length s = s - smE n.toNat fun e=>if (e:Int) ∈ gl (cyc p n) v then gi a e * (P e + P (fp p e)) else 0:=by
 obtain ⟨r,L,h2,h3,h4,h5⟩:=cyc_orb h.pf h.nn hv
 have h6:=h.sumT (a:=tab n fun e=>gi a e * (P e + P (fp p e))) hv
 have h7:smE n.toNat (fun e=>if (e:Int) ∈ gl (cyc p n) v then gi (tab n fun e=>gi a e * (P e + P (fp p e))) e else 0) = smE n.toNat (fun e=>if (e:Int) ∈ gl (cyc p n) v then gi a e * (P e + P (fp p e)) else 0):=smE_congr _ fun e he=>by rw [tab_at he]
 rw [<-h7,<-h6]
 rw [h5,orb_len] at hz ⊢
 rw [(mtJ_pot h.pf h2 hP L (Nat.le_refl _)).1,hz,Int.zero_mul,Int.add_zero]
 congr 1
 have:∀ j,j <= L -> Sep.sumT (tab n fun e=>gi a e * (P e + P (fp p e))) (orb p r L) j = smE j fun t=>gi a (it p t r) * (P (it p t r) + P (fp p (it p t r))):=by
  intro j
  induction j with
  | zero=>intro _; rfl
  | succ j ih =>
   intro hj
   simp only [Sep.sumT,smE]
   rw [ih (by omega),orb_at (by omega),Int.toNat_natCast,tab_at (it_lt h.pf h2 j)]
 exact (this L (Nat.le_refl _)).symm
end
end
section
theorem isD.lo {n:Int} {b w:List Int} (hb:okP b) (hw:okP w) (h:isD n b w):lo16 b /\ lo16 w /\ (1 <= n /\ n <= 16):=⟨h.pb.lo hb,h.pw.lo hw,h.pb.1⟩
end
section
set_option maxHeartbeats 1000000
theorem putL_atH {f:Nat -> Nat × Int}:∀ k:Nat,(∀ i,i < k -> (f i).1 < 16) -> (∀ i j,i < j -> j < k -> (f i).1 ≠ (f j).1) -> ∀ i,i < k -> gi (putL f k) (f i).1 = (f i).2
 | 0,_,_,i,hi=>absurd hi (Nat.not_lt_zero i)
 | k + 1,h1,h2,i,hi=>by
  simp only [putL]
  rw [gi_set]
  by_cases h:(f k).1 = (f i).1
  ·rw [if_pos ⟨h,by rw [putL_len]; exact h1 i hi⟩]
   by_cases hk:i = k
   ·rw [hk]
   ·exact absurd h.symm (h2 i k (by omega) (by omega))
  ·rw [if_neg fun h'=>h h'.1]
   refine putL_atH k (fun i hi=>h1 i (by omega)) (fun i j a b=>h2 i j a (by omega)) i ?_
   by_cases hk:i = k
   ·exact absurd (by rw [hk]) h
   ·omega
section
variable {p q b w:List Int} {n:Int}
theorem then_fp (hn:1 <= n /\ n <= 16) {x:Nat} (hx:x < n.toNat):fp (thenP p q n) x = fp q (fp p x):=by
 unfold fp
 have:=putL_atH (f:=thenF p q) n.toNat (fun i hi=>by simp only [thenF]; omega) (fun i j a b=>by simp only [thenF]; omega) x hx
 simp only [thenF] at this
 unfold thenP; rw [this]
theorem back_fp (h:Pf p n.toNat) {x:Nat} (hx:x < n.toNat):fp (backP p n) (fp p x) = x:=by
 have hle:=h.le
 have:=putL_atH (f:=backF p) n.toNat (fun i hi=>by have:=h.lt i hi; simp only [backF]; unfold fp at this; omega) (fun i j a b=>by
  simp only [backF]
  intro e
  have:=h.inj i j (by omega) b e
  omega) x hx
 simp only [backF] at this
 unfold backP fp; rw [this]; rfl
theorem back_fp' (h:Pf p n.toNat) {y:Nat} (hy:y < n.toNat):fp p (fp (backP p n) y) = y:=by
 obtain ⟨x,hx,rfl⟩:=h.onto hy
 rw [back_fp h hx]
theorem then_pf (hn:1 <= n /\ n <= 16) (h1:Pf p n.toNat) (h2:Pf q n.toNat):Pf (thenP p q n) n.toNat:=by
 refine ⟨fun x hx=>?_,fun x y hx hy e=>?_,h1.le⟩
 ·rw [then_fp hn hx]; exact h2.lt _ (h1.lt _ hx)
 ·rw [then_fp hn hx,then_fp hn hy] at e
  exact h1.inj _ _ hx hy (h2.inj _ _ (h1.lt _ hx) (h1.lt _ hy) e)
theorem back_pf (hn:1 <= n /\ n <= 16) (h:Pf p n.toNat):Pf (backP p n) n.toNat:=by
 refine ⟨fun x hx=>?_,fun x y hx hy e=>?_,h.le⟩
 ·have:=backP_lt (p:=p) hn x (by omega); unfold fp; omega
 ·rw [<-back_fp' h hx,<-back_fp' h hy,e]
structure Dz (n:Int) (b w:List Int):Prop where
 D:isD n b w
 B:Pd b n
 W:Pd w n
 F:Pd (faceP b w n) n
theorem isD.dz (D:isD n b w) (hb:okP b) (hw:okP w):Dz n b w:=by
 have B:=D.pb.pd hb
 have W:=D.pw.pd hw
 exact ⟨D,B,W,backP_lo B.hn,backP_lt B.hn,B.hn,back_pf B.hn (then_pf B.hn B.pf W.pf)⟩
def fc (b w:List Int) (n:Int) (x:Nat):Nat:=wh (faceP b w n) n x
theorem Dz.face (h:Dz n b w) {x:Nat} (hx:x < n.toNat):fp (faceP b w n) (fp w (fp b x)) = x:=by
 have:=back_fp (then_pf h.B.hn h.B.pf h.W.pf) hx
 rw [then_fp h.B.hn hx] at this
 exact this
theorem Dz.face' (h:Dz n b w) {x:Nat} (hx:x < n.toNat):fp w (fp b (fp (faceP b w n) x)) = x:=by
 have h1:fp (thenP b w n) (fp (faceP b w n) x) = x:=back_fp' (then_pf h.B.hn h.B.pf h.W.pf) hx
 rw [then_fp (x:=fp (faceP b w n) x) h.B.hn (h.F.pf.lt x hx)] at h1
 exact h1
theorem Pd.sums (h:Pd p n) {a:List Int} {v:Nat} (hv:v < (cyc p n).length):Sep.sumT a (gl (cyc p n) v) (gl (cyc p n) v).length = smE n.toNat fun e=>gi a e * (if v = wh p n e then 1 else 0):=by
 rw [h.sumT hv]
 refine smE_congr _ fun e he=>?_
 have:=h.wh_iff he hv
 by_cases q:v = wh p n e
 ·rw [if_pos q,if_pos (this.2 q),Int.mul_one]
 ·rw [if_neg q,if_neg (fun q'=>q (this.1 q')),Int.mul_zero]
theorem cyc_zero {a:List Int} (h:cycB a (allV b w n) = true):(∀ v,v < (cyc b n).length -> sumT a (gl (cyc b n) v) (gl (cyc b n) v).length = 0) /\ ∀ v,v < (cyc w n).length -> sumT a (gl (cyc w n) v) (gl (cyc w n) v).length = 0:=by
 have h1:∀ v,v < (allV b w n).length -> sumT a (gl (allV b w n) v) (gl (allV b w n) v).length = 0:=fun v hv=>by
  refine Classical.byContradiction fun hne=>?_
  rw [cycB_no hv hne] at h; cases h
 have hl:(allV b w n).length = (cyc b n).length + (cyc w n).length:=by unfold allV; simp
 refine ⟨fun v hv=>?_,fun v hv=>?_⟩
 ·have:=h1 v (by omega)
  have e:gl (allV b w n) v = gl (cyc b n) v:=by unfold allV; rw [gl_app,if_pos hv]
  rwa [e] at this
 ·have:=h1 ((cyc b n).length + v) (by omega)
  have e:gl (allV b w n) ((cyc b n).length + v) = gl (cyc w n) v:=by unfold allV; rw [gl_app,if_neg (by omega),Nat.add_sub_cancel_left]
  rwa [e] at this
theorem Dz.mt (h:Dz n b w) {x y:List Int} {P Q:Nat -> Int} (hx:cycB x (allV b w n) = true) (hP:Pot b n.toNat (gi y) P) (hQ:Pot w n.toNat (gi y) Q) :
  mtV x y (allV b w n) (allV b w n).length = - smE n.toNat fun e=>gi x e * ((P e + P (fp b e)) + (Q e + Q (fp w e))):=by
 have hl:(allV b w n).length = (cyc b n).length + (cyc w n).length:=by unfold allV; simp
 obtain ⟨z1,z2⟩:=cyc_zero hx
 have m1:∀ k,k <= (cyc b n).length -> mtV x y (allV b w n) k = - smE k fun v=>smE n.toNat fun e=>if (e:Int) ∈ gl (cyc b n) v then gi x e * (P e + P (fp b e)) else 0:=fun k=>by
  induction k with
  | zero=>intro _; rfl
  | succ k ih =>
   intro hk
   have e:gl (allV b w n) k = gl (cyc b n) k:=by unfold allV; rw [gl_app,if_pos (by omega)]
   simp only [mtV,smE]
   rw [e,h.B.mtJ hP (by omega) (z1 k (by omega)),ih (by omega)]; omega
 have m2:∀ k,k <= (cyc w n).length -> mtV x y (allV b w n) ((cyc b n).length + k) = mtV x y (allV b w n) (cyc b n).length - smE k fun v=>smE n.toNat fun e=>if (e:Int) ∈ gl (cyc w n) v then gi x e * (Q e + Q (fp w e)) else 0:=fun k=>by
  induction k with
  | zero=>intro _; simp [smE]
  | succ k ih =>
   intro hk
   have e:gl (allV b w n) ((cyc b n).length + k) = gl (cyc w n) k:=by unfold allV; rw [gl_app,if_neg (by omega),Nat.add_sub_cancel_left]
   rw [<-Nat.add_assoc]
   simp only [mtV,smE]
   rw [e,h.W.mtJ hQ (by omega) (z2 k (by omega)),ih (by omega)]; omega
 rw [hl,m2 _ (Nat.le_refl _),m1 _ (Nat.le_refl _),h.B.all (g:=fun e=>gi x e * (P e + P (fp b e))),h.W.all (g:=fun e=>gi x e * (Q e + Q (fp w e)))]
 have e1:smE n.toNat (fun e=>gi x e * ((P e + P (fp b e)) + (Q e + Q (fp w e)))) = smE n.toNat (fun e=>gi x e * (P e + P (fp b e)) + gi x e * (Q e + Q (fp w e))):=smE_congr _ fun e _=>by rw [Int.mul_add]
 rw [e1,smE_add]; omega
end
end
section
structure Hide {α:Type} (a:α):Type where mk ::
def blk {α:Type} (a:α) (u:Hide a):α:=a
structure blkP (a:Prop) (u:Hide a):Prop where
 out:a
theorem blkP_iff {a:Prop} {u:Hide a}:blkP a u = a:=propext ⟨fun h=>h.out,fun h=>⟨h⟩⟩
theorem blk_eq {K:V -> Hp -> Prop} {u:Hide K} {v:V} {h:Hp}:blk K u v h = K v h:=by simp only [blk]
theorem SplitB_t {A B:Prop} {u:Hide A}:Split true (blkP A u) B = A:=by rw [Split_true,blkP_iff]
theorem SplitB_f {A B:Prop} {u:Hide B}:Split false A (blkP B u) = B:=by rw [Split_false,blkP_iff]
theorem Split.mB {b:Bool} {A B:Prop} {u:Hide A} {v:Hide B} (h1:b = true -> A) (h2:b = false -> B):Split b (blkP A u) (blkP B v):=⟨fun h=>⟨h1 h⟩,fun h=>⟨h2 h⟩⟩
section
variable {P:Program} {h:Hp} {f:FuncId} {d:Nat} {vs:List V} {K:V -> Hp -> Prop}
def pcalB (P:Program) (f:FuncId) (d:Nat) (h:Hp) (K:V -> Hp -> Prop) (vs:List V):Prop:=pcal P f d h K vs
def pcalpB (P:Program) (f:FuncId) (d:Nat) (h:Hp) (K:V -> Hp -> Prop) (vs:List V):Prop:=pcalp P f d h K vs
def pcalaB (P:Program) (f:FuncId) (d:Nat) (h:Hp) (K:V -> Hp -> Prop) (avs vs:List V):Prop:=pcala P f d h K avs vs
def pcondB (A B:Prop) (v:V):Prop:=pcond A B v
def pgkB (w:Bool) (h:Hp) (op:V -> (V -> Hp -> Prop) -> Prop) (k:V -> V -> Hp -> Prop) (v:V):Prop:=pgk w h op k v
def JNx (F:(List V -> Hp -> Prop) -> Prop) (G:List V -> Hp -> Prop) (u:Hide F) (v:Hide G):Prop:=F G
theorem pcal_B:pcal P f d h K vs = pcalB P f d h K vs:=rfl
theorem pcalp_B:pcalp P f d h K vs = pcalpB P f d h K vs:=rfl
theorem pcala_B {avs:List V}:pcala P f d h K avs vs = pcalaB P f d h K avs vs:=rfl
theorem pcond_B {A B:Prop} {v:V}:pcond A B v = pcondB A B v:=rfl
theorem pgk_B {w:Bool} {op:V -> (V -> Hp -> Prop) -> Prop} {k:V -> V -> Hp -> Prop} {v:V}:pgk w h op k v = pgkB w h op k v:=rfl
theorem JN_B {F:(List V -> Hp -> Prop) -> Prop} {G:List V -> Hp -> Prop}:JN F G = JNx F G ⟨⟩ ⟨⟩:=rfl
theorem pcalB_eq:pcalB P f d h K vs = pcd P f d h (blk K ⟨⟩) (dvs h vs) true vs:=pcal_def
theorem pcalpB_eq:pcalpB P f d h K vs = pcd P f d h (blk K ⟨⟩) (dvs h vs) false vs:=pcalp_def
theorem pcalaB_eq {avs:List V}:pcalaB P f d h K avs vs = pcda P f d h (blk K ⟨⟩) (dvs h vs) vs avs:=pcala_def
theorem pcondB_eq {A B:Prop} {b:Bool}:pcondB A B (.bool b) = Split b (blkP A ⟨⟩) (blkP B ⟨⟩):=by simp only [pcondB,pcond_sym,blkP_iff]
theorem pgkB_eq {w:Bool} {op:V -> (V -> Hp -> Prop) -> Prop} {k:V -> V -> Hp -> Prop} {b:Bool}:pgkB w h op k (.bool b) =
  Split b (blkP (cond w (op (.bool true) (k (.bool true))) (k (.bool true) (.tup []) h)) ⟨⟩) (blkP (cond w (k (.bool false) (.tup []) h) (op (.bool false) (k (.bool false)))) ⟨⟩):=by simp only [pgkB,pgk_sym,blkP_iff]
theorem pgkB_skip {w:Bool} {op:V -> (V -> Hp -> Prop) -> Prop} {k:V -> V -> Hp -> Prop}:pgkB w h op k (.tup []) = k (.tup []) (.tup []) h:=by simp only [pgkB,pgk_skip]
theorem JNx_un {F:(List V -> Hp -> Prop) -> Prop} {G:List V -> Hp -> Prop} {u:Hide F} {v:Hide G} (h:F G):JNx F G u v:=h
def LPx (vs ls:List Nat) (B:List V -> List V -> Hp -> (List V -> List V -> Hp -> Prop) -> Prop) (u:Hide B) (wv lv:List V) (h:Hp):Prop:=LP vs ls B wv lv h
theorem LP_B {vs ls:List Nat} {B:List V -> List V -> Hp -> (List V -> List V -> Hp -> Prop) -> Prop} {wv lv:List V}:LP vs ls B wv lv h = LPx vs ls B ⟨⟩ wv lv h:=rfl
theorem LPx_ofE {σ:Type} (ss:List Nat) (c0:Nat) (bx:List (Nat × TypeId × Nat)) (vals:σ -> List V) (cells:σ -> List (List V)) (J:σ -> Prop) (μ:σ -> Nat) (s0:σ) {vs ls:List Nat}
  {B:List V -> List V -> Hp -> (List V -> List V -> Hp -> Prop) -> Prop} {u:Hide B} {wv lv:List V} (hf:frameOk c0 (lpz ls lv) bx = true) (h0:J s0)
  (he:ColV bx wv lv lv h fun v c=>rts ss v = vals s0 /\ c = cells s0)
  (hr:∀ s,J s -> B (mats (vals s) c0).1 lv (lheap c0 bx (vals s) (cells s)) fun wv' lv' h'=>ColV bx wv' lv' lv h' fun v c=>∃ s',v = vals s' /\ c = cells s' /\ J s' /\ μ s' < μ s) :
  LPx vs ls B u wv lv h:=LP_ofE ss c0 bx vals cells J μ s0 hf h0 he hr
theorem LPx_of {σ:Type} (c0:Nat) (bx:List (Nat × TypeId × Nat)) (vals:σ -> List V) (cells:σ -> List (List V)) (J:σ -> Prop) (μ:σ -> Nat) (s0:σ) {vs ls:List Nat}
  {B:List V -> List V -> Hp -> (List V -> List V -> Hp -> Prop) -> Prop} {u:Hide B} {wv lv:List V} (hf:frameOk c0 (lpz ls lv) bx = true) (h0:J s0)
  (he:ColV bx wv lv lv h fun v c=>v = vals s0 /\ c = cells s0)
  (hr:∀ s,J s -> B (mats (vals s) c0).1 lv (lheap c0 bx (vals s) (cells s)) fun wv' lv' h'=>ColV bx wv' lv' lv h' fun v c=>∃ s',v = vals s' /\ c = cells s' /\ J s' /\ μ s' < μ s) :
  LPx vs ls B u wv lv h:=LP_of c0 bx vals cells J μ s0 hf h0 he hr
end
set_option linter.defProp false in
def ED:=And.intro @pcalB_eq <| And.intro @pcalpB_eq <| And.intro @pcalaB_eq <| And.intro @pcondB_eq <| And.intro @pgkB_eq <| And.intro @pgkB_skip <| And.intro @blk_eq <| And.intro @SplitB_t @SplitB_f
set_option linter.defProp false in
def EE:=And.intro @bne_self_eq_false.{0} <| And.intro @beq_self_eq_true.{0} <| And.intro Bool.and_self <| And.intro Bool.not_true Bool.not_false
theorem bni {a:Prop} (h:blkP a ⟨⟩):a:=h.out
theorem bnk {a:Prop} {u:Hide a} (h:a):blkP a u:=⟨h⟩
end
end Go.Proofs.YtbjbpmicnmjbfaaGreat.Sep
section
namespace Go.Proofs.YtbjbpmicnmjbfaaGreat.Sep.Q
open Go.RowKit
open Go.Proofs.YtbjbpmicnmjbfaaGreat.Sep
set_option linter.unusedVariables false
set_option linter.unusedSimpArgs false
set_option maxRecDepth 20000
set_option maxHeartbeats 4000000
def srT (p q:List Int):Nat -> Sr
 | 0=>sr0
 | k + 1=>srStep p q k (srT p q k)
structure Sx (n:Int) (s:Sr):Prop where
 l2:s.2.length = 16
 nd:s.1.Nodup
 has:∀ y:Nat,y < 16 -> (gb s.2 y = true ↔ (y:Int) ∈ s.1)
 lt:∀ y ∈ s.1,0 <= y /\ y < n
variable {n:Int} {b w:List Int}
theorem Sx.zero (hn:1 <= n /\ n <= 16):Sx n sr0:=by
 refine ⟨by simp [sr0],by simp [sr0],fun y hy=>?_,fun y hy=>?_⟩
 ·simp only [sr0,List.mem_singleton]
  rw [gb_set,gb_rep]
  simp
  omega
 ·simp only [sr0,List.mem_singleton] at hy; omega
theorem Sx.visit (hn:1 <= n /\ n <= 16) {s:Sr} (h:Sx n s) {y:Int} (hy:0 <= y /\ y < n):Sx n (visit y s):=by
 unfold Sep.visit
 split
 ·exact h
 ·rename_i hv
  have hno:y ∉ s.1:=fun hm=>hv ((h.has y.toNat (by omega)).2 (by rw [show ((y.toNat:Nat):Int) = y from by omega]; exact hm))
  refine ⟨by simp [h.l2],?_,fun x hx=>?_,fun x hx=>?_⟩
  ·refine List.nodup_append.2 ⟨h.nd,by simp,fun a ha c hc e=>?_⟩
   rw [List.mem_singleton.1 hc] at e
   exact hno (e ▸ ha)
  ·simp only [List.mem_append,List.mem_singleton]
   rw [gb_set,h.l2]
   by_cases e:y.toNat = x
   ·rw [if_pos ⟨e,hx⟩]
    exact ⟨fun _=>.inr (by omega),fun _=>rfl⟩
   ·rw [if_neg fun h'=>e h'.1,h.has x hx]
    exact ⟨fun h=>.inl h,fun h=>h.elim id fun h'=>absurd (by omega) e⟩
  ·rcases List.mem_append.1 hx with hx | hx
   ·exact h.lt x hx
   ·rw [List.mem_singleton.1 hx]; exact hy
structure Srch (n:Int) (b w:List Int):Prop where
 len:(srT b w n.toNat).1.length = n.toNat
 at_:∀ j,j < n.toNat -> j < (srT b w j).1.length
 sx:∀ k,k <= n.toNat -> Sx n (srT b w k)
 all:∀ y:Nat,(y:Int) < n -> (y:Int) ∈ (srT b w n.toNat).1
end Go.Proofs.YtbjbpmicnmjbfaaGreat.Sep.Q
namespace Go.Proofs.YtbjbpmicnmjbfaaGreat.Sep
open Go.RowKit
set_option linter.unusedVariables false
set_option linter.unusedSimpArgs false
set_option maxRecDepth 20000
set_option maxHeartbeats 4000000
end Go.Proofs.YtbjbpmicnmjbfaaGreat.Sep
end
namespace Go.Proofs.YtbjbpmicnmjbfaaGreat.Sep
open Go.RowKit
set_option linter.unusedVariables false
set_option linter.unusedSimpArgs false
set_option maxRecDepth 20000
section

end
section

end
section

end
section

end
section
set_option maxHeartbeats 1000000
theorem c_isNaN {x:Int}:PSpec Tryz.prog 149 [.int .i64 x] fun v=>v = .bool false:=by
 refine cmp_isNaN_int64_f.f ?_
 simp (disch:=first|omega|(simp only [LN];omega)) only [↓EC,EW,seval,↓reduceIte,cmp_isNaN_int64_F]
 simp
theorem c_less {x y:Int}:PSpec Tryz.prog 139 [.int .i64 x,.int .i64 y] fun v=>v = .bool (decide (x < y)):=by
 refine cmp_Less_int64_f.f ?_
 simp (disch:=first|omega|(simp only [LN];omega)) only [↓EC,EW,seval,↓reduceIte,cmp_Less_int64_F]
 refine pcd_v c_isNaN ?_
 (try simp (disch:=first|omega|(simp only [LN];omega)) only [↓EC,EW,seval,↓reduceIte])
end
section
set_option maxHeartbeats 1000000
theorem callM_d {P:Program} {f:FuncId} {d:Nat} {h:Hp} {K:V -> Hp -> Prop} {bs:List Nat} {bx:List (Nat × TypeId × Nat)} {cells:List (List V)} {ws:List V} {Φ:V -> List (List V) -> Prop}
  (hs:PSpecM P f ws bx cells Φ) (hK:∀ v cs,Φ v cs -> K (vw v) (hputs2 h bs bx cs)):CallM P f d h K bs bx cells ws:=⟨Φ,hs,.inl hK⟩
theorem pcn_q {P:Program} {f:FuncId} {d:Nat} {h:Hp} {K:V -> Hp -> Prop} {ws vs:List V} {Φ:TypeId -> List V -> Prop} (hs:PSpecB P f vs Φ) (hn:nrfs vs = true) (hK:∀ e c,Φ e c -> Rq (h d = .free) (K (.ptr d 0) (hput h d (.row e 1 c)))):pcd P f d h K ws true vs :=
 .inr ⟨rfl,.inr (.inl ⟨hn,_,hs,hK⟩)⟩
def okB (l:List Int):Prop:=l.length <= 5000 /\ ∀ a ∈ l,0 <= a /\ a <= 255
def srcC (x:Value) (l:List Int) (a h:Int):List V:=[.fz x l,.int .i64 a,.int .u64 h]
def okS (l:List Int) (a:Int):Prop:=okB l /\ 0 <= a /\ a <= 5000
theorem okS_0 {l:List Int} (h:okB l):okS l 0:=⟨h,by omega,by omega⟩
theorem and24 (A:BitVec IntKind.u64.bits):∃ q:Nat,q <= 16777215 /\ IntKind.i64.wrap (IntKind.u64.wrap ((A &&& BitVec.ofInt IntKind.u64.bits 16777215).toNat:Int)) = (q:Int):=by
 refine ⟨(A &&& BitVec.ofInt IntKind.u64.bits 16777215).toNat,?_,?_⟩
 ·rw [BitVec.toNat_and]
  exact Nat.le_trans Nat.and_le_right (by decide)
 ·have h:(A &&& BitVec.ofInt IntKind.u64.bits 16777215).toNat <= 16777215:=by
   rw [BitVec.toNat_and]
   exact Nat.le_trans Nat.and_le_right (by decide)
  generalize (A &&& BitVec.ofInt IntKind.u64.bits 16777215).toNat = q at *
  simp [IntKind.wrap,IntKind.signed,IntKind.bits]
  omega
theorem map_u8 {l:List Int} {i:Nat} (h:i < l.length):(l.map (V.int .u8)).getD i .und = .int .u8 (gi l i):=by simp [List.getD,gi,h]
theorem okB_gi {l:List Int} (h:okB l) {i:Nat} (hi:i < l.length):0 <= gi l i /\ gi l i <= 255:=by
 apply h.2
 rw [gi,List.getD,List.getElem?_eq_getElem hi]; exact List.getElem_mem hi
theorem c_spec_l01Next {x:Value} {l:List Int} {a z n:Int} (hs:okS l a) (hn:n <= 2000000000):PSpecM Tryz.prog 51 [.ptr 0 0,.int .i64 n] [(0,96,1)] [srcC x l a z] fun v c =>
  ∃ r a' h',v = .int .i64 r /\ c = [srcC x l a' h'] /\ okS l a' /\ (0 <= r /\ (r < n ∨ r = 0)):=by
 refine spec_l01Next_f.m rfl rfl ?_
 unfold srcC
 obtain ⟨hB,ha1,ha2⟩:=hs
 simp (disch:=first|omega|(simp only [LN];omega)) only [↓EC,EW,seval,↓reduceIte,spec_l01Next_F]
 (refine Split.mk (fun h=>?_) (fun h=>?_) <;> (try simp only [SD]at h))
 ·exact ⟨0,a,z,rfl,rfl,⟨hB,ha1,ha2⟩,by omega,.inr rfl⟩
 ·generalize IntKind.u64.wrap (IntKind.u64.wrap (z * 6364136223846793005) + 1442695040888963407) = hh
  obtain ⟨q,hq,e⟩:=and24 (BitVec.ofInt IntKind.u64.bits (hh.fdiv (2 ^ Nat.min 33 IntKind.u64.bits)))
  rw [e]
  have m0:∀ y:Int,0 <= y -> 0 <= y.tmod n /\ (y.tmod n < n ∨ y.tmod n = 0):=fun y hy=>⟨Int.tmod_nonneg _ hy,.inl (Int.tmod_lt_of_pos _ (by omega))⟩
  (try simp (disch:=first|omega|(simp only [LN];omega)) only [↓EC,EW,seval,↓reduceIte])
  (refine Split.mk (fun h=>?_) (fun h=>?_) <;> (try simp only [SD]at h))
  ·have hB1:=hB.1
   have hlt:a.toNat < l.length:=by omega
   have hg:=okB_gi hB hlt
   (try simp (disch:=first|omega|(simp only [LN];omega)) only [↓EC,EW,seval,↓reduceIte,map_u8 hlt])
   have:=m0 (q + gi l a.toNat) (by omega)
   exact ⟨by simpa using hlt,_,a + 1,hh,rfl,rfl,⟨hB,by omega,by omega⟩,this⟩
  ·have:=m0 q (by omega)
   exact ⟨_,a,hh,rfl,rfl,⟨hB,ha1,ha2⟩,this⟩
theorem c_spec_l01Pick {x:Value} {l m:List Int} {a z:Int} (hs:okS l a) (h0:0 < m.length) (hn:m.length <= 1000):PSpecM Tryz.prog 103 [.ptr 0 0,.sl m.length (vi .i64 m)] [(0,96,1)] [srcC x l a z] fun v c =>
  ∃ y a' z',y ∈ m /\ v = .int .i64 y /\ c = [srcC x l a' z'] /\ okS l a':=by
 refine spec_l01Pick_f.m rfl rfl ?_
 have hnx:=c_spec_l01Next (x:=x) (z:=z) hs (n:=m.length) (by omega)
 unfold srcC at hnx ⊢
 simp (disch:=first|omega|(simp only [LN];omega)) only [↓EC,EW,seval,↓reduceIte,spec_l01Pick_F]
 refine pcm [0] rfl ?_
 (try simp (disch:=first|omega|(simp only [LN];omega)) only [↓EC,EW,seval,↓reduceIte])
 refine callM_d hnx ?_
 rintro v c ⟨r,a',z',rfl,rfl,hs',hr⟩
 (try simp (disch:=first|omega|(simp only [LN];omega)) only [↓EC,EW,seval,↓reduceIte])
 refine ⟨gi m r.toNat,a',z',?_,rfl,rfl,hs'⟩
 rw [gi,List.getD,List.getElem?_eq_getElem (by omega)]; exact List.getElem_mem _
theorem finB_src {x:Value} {l:List Int} {z:Int}:FINB [.fz x l] (hput hnil 75 (Slot.row 96 1 [.fz x l,.int .i64 0,.int .u64 z])) (fun e c=>e = 96 /\ ∃ z,c = [.fz x l,.int .i64 0,.int .u64 z]) (.ptr 75 0):=by
 simp only [FINB,hput,↓reduceIte]
 refine ⟨?_,trivial,z,rfl⟩
 intro v hv
 simp only [List.mem_cons,List.not_mem_nil,or_false] at hv
 rcases hv with rfl | rfl | rfl
 ·exact .inr ⟨x,l,rfl,by simp⟩
 ·exact .inl ⟨by simp [clo],rfl⟩
 ·exact .inl ⟨by simp [clo],rfl⟩
theorem c_spec_l01From {x:Value} {l:List Int} (hB:okB l):PSpecB Tryz.prog 49 [.fz x l] fun e c=>e = 96 /\ ∃ z,c = srcC x l 0 z:=by
 refine spec_l01From_f.b ?_
 unfold srcC
 simp (disch:=first|omega|(simp only [LN];omega)) only [↓EC,EW,seval,↓reduceIte,spec_l01From_F]
 refine LP_of (σ:=Nat × Int) 100000 [(75,96,1)] (fun s=>[.int .i64 s.1]) (fun s=>[[.fz x l,.int .i64 0,.int .u64 s.2]]) (fun s=>s.1 <= l.length) (fun s=>l.length - s.1) (0,IntKind.u64.wrap (8117 + IntKind.u64.wrap l.length)) (by simp [frameOk,names,lpz,sclp,scv,scvs,nrfs,nrf,FRB]) (Nat.zero_le _) ?_ ?_
 ·simp (disch:=first|omega|(simp only [LN];omega)) only [↓EC,EW,seval,↓reduceIte,CVd]
 ·rintro ⟨i,z⟩ h1
  simp only at h1
  have hB1:=hB.1
  simp (disch:=first|omega|(simp only [LN];omega)) only [↓EC,EW,seval,↓reduceIte,CVd,lhd]
  (refine Split.mk (fun h=>?_) (fun h=>?_) <;> (try simp only [SD]at h))
  ·have hlt:i < l.length:=by omega
   (try simp (disch:=first|omega|(simp only [LN];omega)) only [↓EC,EW,seval,↓reduceIte,map_u8 hlt])
   (refine Split.mk (fun h=>?_) (fun h=>?_) <;> (try simp only [SD]at h))
   ·(try simp (disch:=first|omega|(simp only [LN];omega)) only [↓EC,EW,seval,↓reduceIte])
    exact ⟨by simpa using hlt,(i + 1,_),rfl,rfl,by simp only; omega,by simp only; omega⟩
   ·exact finB_src
  ·exact finB_src
end
section
set_option maxHeartbeats 4000000
def kp (n:Nat) (c:List (List V)):Prop:=∃ m:List Int,c = [vi .i64 m] /\ m.length = n
theorem c_insertionSortN {l:List Int} {n:Nat} {a b:Int} (hn:l.length = n) (h0:0 <= a /\ a <= 1000) (hb:b <= n) (hl:n <= 1000):PSpecM Tryz.prog 133 [.rf 0 0 n,.int .i64 a,.int .i64 b] [(0,2,1)] [vi .i64 l] fun v c=>v = .tup [] /\ kp n c:=by
 refine slices_insertionSortOrdered_int64_f.m rfl rfl ?_
 dsimp only [slices_insertionSortOrdered_int64_F,pcal_B,pcalp_B,pcala_B,pcond_B,pgk_B,JN_B,LP_B]
 (refine bni ?_;repeat (refine bnk ?_;(try simp (disch:=first|omega|(simp only [LN];omega)) only [↓EC,EW,seval,↓reduceIte,↓ED,EE])))
 refine LPx_of (σ:=List Int × Int) 100000 [(0,2,1)] (fun s=>[.int .i64 s.2]) (fun s=>[vi .i64 s.1])
  (fun s=>s.1.length = n /\ a + 1 <= s.2) (fun s=>(b - s.2).toNat) (l,a + 1) (by simp [frameOk,names,lpz,sclp,scv,scvs,nrfs,nrf,FRB]) ⟨hn,Int.le_refl _⟩ ?_ ?_
 ·(refine bni ?_;repeat (refine bnk ?_;simp (disch:=first|omega|(simp only [LN];omega)) only [↓EC,EW,seval,↓reduceIte,↓ED,EE,CVd]))
 ·rintro ⟨m,i⟩ ⟨h1,h2⟩
  simp only at h1 h2
  (refine bni ?_;repeat (refine bnk ?_;simp (disch:=first|omega|(simp only [LN];omega)) only [↓EC,EW,seval,↓reduceIte,↓ED,EE,CVd,lhd]))
  (refine Split.mB (fun h=>?_) (fun h=>?_) <;> (try simp only [SD]at h))
  ·(refine bni ?_;repeat (refine bnk ?_;(try simp (disch:=first|omega|(simp only [LN];omega)) only [↓EC,EW,seval,↓reduceIte,↓ED,EE])))
   refine LPx_of (σ:=List Int × Int) 200000 [(0,2,1)] (fun s=>[.int .i64 s.2]) (fun s=>[vi .i64 s.1])
    (fun s=>s.1.length = n /\ a <= s.2 /\ s.2 <= i) (fun s=>s.2.toNat) (m,i) (by simp [frameOk,names,lpz,sclp,scv,scvs,nrfs,nrf,FRB]) ⟨h1,by simp only; omega,Int.le_refl _⟩ ?_ ?_
   ·(refine bni ?_;repeat (refine bnk ?_;simp (disch:=first|omega|(simp only [LN];omega)) only [↓EC,EW,seval,↓reduceIte,↓ED,EE,CVd]))
   ·rintro ⟨m,j⟩ ⟨h3,h4,h5⟩
    simp only at h3 h4 h5
    (refine bni ?_;repeat (refine bnk ?_;simp (disch:=first|omega|(simp only [LN];omega)) only [↓EC,EW,seval,↓reduceIte,↓ED,EE,CVd,lhd]))
    (refine Split.mB (fun h=>?_) (fun h=>?_) <;> (try simp only [SD]at h))
    ·(refine bni ?_;repeat (refine bnk ?_;(try simp (disch:=first|omega|(simp only [LN];omega)) only [↓EC,EW,seval,↓reduceIte,↓ED,EE])))
     refine pcd_v c_less ?_
     (refine bni ?_;repeat (refine bnk ?_;(try simp (disch:=first|omega|(simp only [LN];omega)) only [↓EC,EW,seval,↓reduceIte,↓ED,EE])))
     (refine Split.mB (fun h=>?_) (fun h=>?_) <;> (try simp only [SD]at h))
     ·(refine bni ?_;repeat (refine bnk ?_;(try simp (disch:=first|omega|(simp only [LN];omega)) only [↓EC,EW,seval,↓reduceIte,↓ED,EE])))
      exact ⟨(_,j - 1),rfl,rfl,⟨by simp [h3],by simp only; omega,by simp only; omega⟩,by simp only; omega⟩
     ·(refine bni ?_;repeat (refine bnk ?_;(try simp (disch:=first|omega|(simp only [LN];omega)) only [↓EC,EW,seval,↓reduceIte,↓ED,EE])))
      exact ⟨(m,i + 1),rfl,rfl,⟨h3,by simp only; omega⟩,by simp only; omega⟩
    ·(refine bni ?_;repeat (refine bnk ?_;(try simp (disch:=first|omega|(simp only [LN];omega)) only [↓EC,EW,seval,↓reduceIte,↓ED,EE])))
     exact ⟨(m,i + 1),rfl,rfl,⟨h3,by simp only; omega⟩,by simp only; omega⟩
  ·(refine bni ?_;repeat (refine bnk ?_;(try simp (disch:=first|omega|(simp only [LN];omega)) only [↓EC,EW,seval,↓reduceIte,↓ED,EE])))
   exact ⟨m,rfl,h1⟩
theorem c_siftDown {l:List Int} {n:Nat} {lo hi f:Int} (hn:l.length = n) (h0:0 <= lo /\ lo <= 1000) (hf:0 <= f) (hh:f + hi <= n) (hl:n <= 1000):PSpecM Tryz.prog 144 [.rf 0 0 n,.int .i64 lo,.int .i64 hi,.int .i64 f] [(0,2,1)] [vi .i64 l] fun v c=>v = .tup [] /\ kp n c:=by
 refine slices_siftDownOrdered_int64_f.m rfl rfl ?_
 dsimp only [slices_siftDownOrdered_int64_F,pcal_B,pcalp_B,pcala_B,pcond_B,pgk_B,JN_B,LP_B]
 (refine bni ?_;repeat (refine bnk ?_;(try simp (disch:=first|omega|(simp only [LN];omega)) only [↓EC,EW,seval,↓reduceIte,↓ED,EE])))
 refine LPx_of (σ:=List Int × Int) 100000 [(0,2,1)] (fun s=>[.int .i64 s.2]) (fun s=>[vi .i64 s.1])
  (fun s=>s.1.length = n /\ 0 <= s.2 /\ s.2 <= 1000) (fun s=>(1000 - s.2).toNat) (l,lo) (by simp [frameOk,names,lpz,sclp,scv,scvs,nrfs,nrf,FRB]) ⟨hn,h0⟩ ?_ ?_
 ·(refine bni ?_;repeat (refine bnk ?_;simp (disch:=first|omega|(simp only [LN];omega)) only [↓EC,EW,seval,↓reduceIte,↓ED,EE,CVd]))
 ·rintro ⟨m,r⟩ ⟨h1,h2,h3⟩
  simp only at h1 h2 h3
  (refine bni ?_;repeat (refine bnk ?_;simp (disch:=first|omega|(simp only [LN];omega)) only [↓EC,EW,seval,↓reduceIte,↓ED,EE,CVd,lhd]))
  (refine Split.mB (fun h=>?_) (fun h=>?_) <;> (try simp only [SD]at h))
  ·(refine bni ?_;repeat (refine bnk ?_;(try simp (disch:=first|omega|(simp only [LN];omega)) only [↓EC,EW,seval,↓reduceIte,↓ED,EE])))
   exact ⟨m,rfl,h1⟩
  ·(refine bni ?_;repeat (refine bnk ?_;(try simp (disch:=first|omega|(simp only [LN];omega)) only [↓EC,EW,seval,↓reduceIte,↓ED,EE])))
   refine JNx_un ?_
   (refine bni ?_;repeat (refine bnk ?_;(try simp (disch:=first|omega|(simp only [LN];omega)) only [↓EC,EW,seval,↓reduceIte,↓ED,EE])))
   (refine Split.mB (fun h=>?_) (fun h=>?_) <;> (try simp only [SD]at h))
   ·(refine bni ?_;repeat (refine bnk ?_;(try simp (disch:=first|omega|(simp only [LN];omega)) only [↓EC,EW,seval,↓reduceIte,↓ED,EE])))
    refine pcd_v c_less ?_
    (refine bni ?_;repeat (refine bnk ?_;(try simp (disch:=first|omega|(simp only [LN];omega)) only [↓EC,EW,seval,↓reduceIte,↓ED,EE])))
    (refine Split.mB (fun h=>?_) (fun h=>?_) <;> (try simp only [SD]at h))
    ·(refine bni ?_;repeat (refine bnk ?_;(try simp (disch:=first|omega|(simp only [LN];omega)) only [↓EC,EW,seval,↓reduceIte,↓ED,EE])))
     refine pcd_v c_less ?_
     (refine bni ?_;repeat (refine bnk ?_;(try simp (disch:=first|omega|(simp only [LN];omega)) only [↓EC,EW,seval,↓reduceIte,↓ED,EE])))
     (refine Split.mB (fun h=>?_) (fun h=>?_) <;> (try simp only [SD]at h))
     ·(refine bni ?_;repeat (refine bnk ?_;(try simp (disch:=first|omega|(simp only [LN];omega)) only [↓EC,EW,seval,↓reduceIte,↓ED,EE])))
      exact ⟨m,rfl,h1⟩
     ·(refine bni ?_;repeat (refine bnk ?_;(try simp (disch:=first|omega|(simp only [LN];omega)) only [↓EC,EW,seval,↓reduceIte,↓ED,EE])))
      exact ⟨(_,2 * r + 1 + 1),rfl,rfl,⟨by simp [h1],by simp only; omega,by simp only; omega⟩,by simp only; omega⟩
    ·(refine bni ?_;repeat (refine bnk ?_;(try simp (disch:=first|omega|(simp only [LN];omega)) only [↓EC,EW,seval,↓reduceIte,↓ED,EE])))
     refine pcd_v c_less ?_
     (refine bni ?_;repeat (refine bnk ?_;(try simp (disch:=first|omega|(simp only [LN];omega)) only [↓EC,EW,seval,↓reduceIte,↓ED,EE])))
     (refine Split.mB (fun h=>?_) (fun h=>?_) <;> (try simp only [SD]at h))
     ·(refine bni ?_;repeat (refine bnk ?_;(try simp (disch:=first|omega|(simp only [LN];omega)) only [↓EC,EW,seval,↓reduceIte,↓ED,EE])))
      exact ⟨m,rfl,h1⟩
     ·(refine bni ?_;repeat (refine bnk ?_;(try simp (disch:=first|omega|(simp only [LN];omega)) only [↓EC,EW,seval,↓reduceIte,↓ED,EE])))
      exact ⟨(_,2 * r + 1),rfl,rfl,⟨by simp [h1],by simp only; omega,by simp only; omega⟩,by simp only; omega⟩
   ·(refine bni ?_;repeat (refine bnk ?_;(try simp (disch:=first|omega|(simp only [LN];omega)) only [↓EC,EW,seval,↓reduceIte,↓ED,EE])))
    refine pcd_v c_less ?_
    (refine bni ?_;repeat (refine bnk ?_;(try simp (disch:=first|omega|(simp only [LN];omega)) only [↓EC,EW,seval,↓reduceIte,↓ED,EE])))
    (refine Split.mB (fun h=>?_) (fun h=>?_) <;> (try simp only [SD]at h))
    ·(refine bni ?_;repeat (refine bnk ?_;(try simp (disch:=first|omega|(simp only [LN];omega)) only [↓EC,EW,seval,↓reduceIte,↓ED,EE])))
     exact ⟨m,rfl,h1⟩
    ·(refine bni ?_;repeat (refine bnk ?_;(try simp (disch:=first|omega|(simp only [LN];omega)) only [↓EC,EW,seval,↓reduceIte,↓ED,EE])))
     exact ⟨(_,2 * r + 1),rfl,rfl,⟨by simp [h1],by simp only; omega,by simp only; omega⟩,by simp only; omega⟩
theorem c_heapSort {l:List Int} {n:Nat} {a b:Int} (hn:l.length = n) (h0:0 <= a) (hab:a <= b) (hb:b <= n) (hl:n <= 1000):PSpecM Tryz.prog 134 [.rf 0 0 n,.int .i64 a,.int .i64 b] [(0,2,1)] [vi .i64 l] fun v c=>v = .tup [] /\ kp n c:=by
 refine slices_heapSortOrdered_int64_f.m rfl rfl ?_
 dsimp only [slices_heapSortOrdered_int64_F,pcal_B,pcalp_B,pcala_B,pcond_B,pgk_B,JN_B,LP_B]
 (refine bni ?_;repeat (refine bnk ?_;(try simp (disch:=first|omega|(simp only [LN];omega)) only [↓EC,EW,seval,↓reduceIte,↓ED,EE])))
 have hd:-1 <= (b - a - 1).tdiv 2 /\ (b - a - 1).tdiv 2 <= 1000:=by
  by_cases h:b - a - 1 < 0
  ·have:b - a - 1 = -1:=by omega
   rw [this]; decide
  ·have h1:=Int.tdiv_nonneg (a:=b - a - 1) (b:=2) (by omega) (by omega)
   have h2:=Int.tdiv_le_self (a:=b - a - 1) 2 (by omega)
   omega
 generalize (b - a - 1).tdiv 2 = d at *
 refine LPx_of (σ:=List Int × Int) 100000 [(0,2,1)] (fun s=>[.int .i64 s.2]) (fun s=>[vi .i64 s.1])
  (fun s=>s.1.length = n /\ -1 <= s.2 /\ s.2 <= 1000) (fun s=>(s.2 + 1).toNat) (l,d) (by simp [frameOk,names,lpz,sclp,scv,scvs,nrfs,nrf,FRB]) ⟨hn,hd⟩ ?_ ?_
 ·(refine bni ?_;repeat (refine bnk ?_;simp (disch:=first|omega|(simp only [LN];omega)) only [↓EC,EW,seval,↓reduceIte,↓ED,EE,CVd]))
 ·rintro ⟨m,i⟩ ⟨h1,h2,h3⟩
  simp only at h1 h2 h3
  (refine bni ?_;repeat (refine bnk ?_;simp (disch:=first|omega|(simp only [LN];omega)) only [↓EC,EW,seval,↓reduceIte,↓ED,EE,CVd,lhd]))
  (refine Split.mB (fun h=>?_) (fun h=>?_) <;> (try simp only [SD]at h))
  ·(refine bni ?_;repeat (refine bnk ?_;(try simp (disch:=first|omega|(simp only [LN];omega)) only [↓EC,EW,seval,↓reduceIte,↓ED,EE])))
   refine pcm [0] rfl ?_
   (refine bni ?_;repeat (refine bnk ?_;(try simp (disch:=first|omega|(simp only [LN];omega)) only [↓EC,EW,seval,↓reduceIte,↓ED,EE])))
   refine callM_d (c_siftDown (l:=m) (lo:=i) (hi:=b - a) (f:=a) h1 (by omega) h0 (by omega) (by omega)) ?_
   rintro _ _ ⟨rfl,m',rfl,hm'⟩
   (refine bni ?_;repeat (refine bnk ?_;(try simp (disch:=first|omega|(simp only [LN];omega)) only [↓EC,EW,seval,↓reduceIte,↓ED,EE])))
   exact ⟨(m',i - 1),rfl,rfl,⟨by simp only; omega,by simp only; omega⟩,by simp only; omega⟩
  ·(refine bni ?_;repeat (refine bnk ?_;(try simp (disch:=first|omega|(simp only [LN];omega)) only [↓EC,EW,seval,↓reduceIte,↓ED,EE])))
   refine LPx_of (σ:=List Int × Int) 200000 [(0,2,1)] (fun s=>[.int .i64 s.2]) (fun s=>[vi .i64 s.1])
    (fun s=>s.1.length = n /\ -1 <= s.2 /\ s.2 <= b - a - 1) (fun s=>(s.2 + 1).toNat) (m,b - a - 1) (by simp [frameOk,names,lpz,sclp,scv,scvs,nrfs,nrf,FRB]) ⟨h1,by simp only; omega⟩ ?_ ?_
   ·(refine bni ?_;repeat (refine bnk ?_;simp (disch:=first|omega|(simp only [LN];omega)) only [↓EC,EW,seval,↓reduceIte,↓ED,EE,CVd]))
   ·rintro ⟨m,i⟩ ⟨h1,h2,h3⟩
    simp only at h1 h2 h3
    (refine bni ?_;repeat (refine bnk ?_;simp (disch:=first|omega|(simp only [LN];omega)) only [↓EC,EW,seval,↓reduceIte,↓ED,EE,CVd,lhd]))
    (refine Split.mB (fun h=>?_) (fun h=>?_) <;> (try simp only [SD]at h))
    ·(refine bni ?_;repeat (refine bnk ?_;(try simp (disch:=first|omega|(simp only [LN];omega)) only [↓EC,EW,seval,↓reduceIte,↓ED,EE])))
     refine pcm [0] rfl ?_
     (refine bni ?_;repeat (refine bnk ?_;(try simp (disch:=first|omega|(simp only [LN];omega)) only [↓EC,EW,seval,↓reduceIte,↓ED,EE])))
     refine callM_d (c_siftDown (lo:=0) (hi:=i) (f:=a) (by simp [h1]) (by omega) h0 (by omega) (by omega)) ?_
     rintro _ _ ⟨rfl,m',rfl,hm'⟩
     (refine bni ?_;repeat (refine bnk ?_;(try simp (disch:=first|omega|(simp only [LN];omega)) only [↓EC,EW,seval,↓reduceIte,↓ED,EE])))
     exact ⟨(m',i - 1),rfl,rfl,⟨by simp only; omega,by simp only; omega⟩,by simp only; omega⟩
    ·(refine bni ?_;repeat (refine bnk ?_;(try simp (disch:=first|omega|(simp only [LN];omega)) only [↓EC,EW,seval,↓reduceIte,↓ED,EE])))
     exact ⟨m,rfl,h1⟩
theorem c_reverseRange {l:List Int} {n:Nat} {a b:Int} (hn:l.length = n) (h0:0 <= a /\ a <= 1000) (hb:0 <= b /\ b <= n) (hl:n <= 1000):PSpecM Tryz.prog 137 [.rf 0 0 n,.int .i64 a,.int .i64 b] [(0,2,1)] [vi .i64 l] fun v c=>v = .tup [] /\ kp n c:=by
 refine slices_reverseRangeOrdered_int64_f.m rfl rfl ?_
 dsimp only [slices_reverseRangeOrdered_int64_F,pcal_B,pcalp_B,pcala_B,pcond_B,pgk_B,JN_B,LP_B]
 (refine bni ?_;repeat (refine bnk ?_;(try simp (disch:=first|omega|(simp only [LN];omega)) only [↓EC,EW,seval,↓reduceIte,↓ED,EE])))
 refine LPx_of (σ:=List Int × Int × Int) 100000 [(0,2,1)] (fun s=>[.int .i64 s.2.1,.int .i64 s.2.2]) (fun s=>[vi .i64 s.1])
  (fun s=>s.1.length = n /\ 0 <= s.2.1 /\ s.2.2 <= b - 1 /\ -1 <= s.2.2 /\ s.2.1 <= 1001) (fun s=>(s.2.2 + 1).toNat) (l,a,b - 1) (by simp [frameOk,names,lpz,sclp,scv,scvs,nrfs,nrf,FRB]) ⟨hn,by simp only; omega⟩ ?_ ?_
 ·(refine bni ?_;repeat (refine bnk ?_;simp (disch:=first|omega|(simp only [LN];omega)) only [↓EC,EW,seval,↓reduceIte,↓ED,EE,CVd]))
 ·rintro ⟨m,i,j⟩ ⟨h1,h2,h3,h4,h5⟩
  simp only at h1 h2 h3 h4 h5
  (refine bni ?_;repeat (refine bnk ?_;simp (disch:=first|omega|(simp only [LN];omega)) only [↓EC,EW,seval,↓reduceIte,↓ED,EE,CVd,lhd]))
  (refine Split.mB (fun h=>?_) (fun h=>?_) <;> (try simp only [SD]at h))
  ·(refine bni ?_;repeat (refine bnk ?_;(try simp (disch:=first|omega|(simp only [LN];omega)) only [↓EC,EW,seval,↓reduceIte,↓ED,EE])))
   exact ⟨(_,i + 1,j - 1),rfl,rfl,⟨by simp [h1],by simp only; omega⟩,by simp only; omega⟩
  ·(refine bni ?_;repeat (refine bnk ?_;(try simp (disch:=first|omega|(simp only [LN];omega)) only [↓EC,EW,seval,↓reduceIte,↓ED,EE])))
   exact ⟨m,rfl,h1⟩
theorem c_order2 {l:List Int} {n:Nat} {a b k:Int} (hn:l.length = n) (h0:0 <= a /\ a < n) (hb:0 <= b /\ b < n) (hk:0 <= k /\ k <= 1000):PSpecM Tryz.prog 150 [.sl n (vi .i64 l),.int .i64 a,.int .i64 b,.ptr 0 0] [(0,3,1)] [[.int .i64 k]] fun v c =>
  ∃ x y k',v = .tup [.int .i64 x,.int .i64 y] /\ (x = a ∨ x = b) /\ (y = a ∨ y = b) /\ c = [[.int .i64 k']] /\ k <= k' /\ k' <= k + 1:=by
 refine slices_order2Ordered_int64_f.m rfl rfl ?_
 dsimp only [slices_order2Ordered_int64_F,pcal_B,pcalp_B,pcala_B,pcond_B,pgk_B,JN_B,LP_B]
 (refine bni ?_;repeat (refine bnk ?_;(try simp (disch:=first|omega|(simp only [LN];omega)) only [↓EC,EW,seval,↓reduceIte,↓ED,EE])))
 refine pcd_v c_less ?_
 (refine bni ?_;repeat (refine bnk ?_;(try simp (disch:=first|omega|(simp only [LN];omega)) only [↓EC,EW,seval,↓reduceIte,↓ED,EE])))
 (refine Split.mB (fun h=>?_) (fun h=>?_) <;> (try simp only [SD]at h))
 ·(refine bni ?_;repeat (refine bnk ?_;(try simp (disch:=first|omega|(simp only [LN];omega)) only [↓EC,EW,seval,↓reduceIte,↓ED,EE])))
  exact ⟨b,a,k + 1,rfl,.inr rfl,.inl rfl,rfl,by omega,by omega⟩
 ·(refine bni ?_;repeat (refine bnk ?_;(try simp (disch:=first|omega|(simp only [LN];omega)) only [↓EC,EW,seval,↓reduceIte,↓ED,EE])))
  exact ⟨a,b,k,rfl,.inl rfl,.inr rfl,rfl,by omega,by omega⟩
theorem c_median {l:List Int} {n:Nat} {a b d k:Int} (hn:l.length = n) (h0:0 <= a /\ a < n) (hb:0 <= b /\ b < n) (hd:0 <= d /\ d < n) (hk:0 <= k /\ k <= 900):PSpecM Tryz.prog 148 [.sl n (vi .i64 l),.int .i64 a,.int .i64 b,.int .i64 d,.ptr 0 0] [(0,3,1)] [[.int .i64 k]] fun v c =>
  ∃ x k',v = .int .i64 x /\ (x = a ∨ x = b ∨ x = d) /\ c = [[.int .i64 k']] /\ k <= k' /\ k' <= k + 3:=by
 refine slices_medianOrdered_int64_f.m rfl rfl ?_
 dsimp only [slices_medianOrdered_int64_F,pcal_B,pcalp_B,pcala_B,pcond_B,pgk_B,JN_B,LP_B]
 (refine bni ?_;repeat (refine bnk ?_;(try simp (disch:=first|omega|(simp only [LN];omega)) only [↓EC,EW,seval,↓reduceIte,↓ED,EE])))
 refine pcm [0] rfl ?_; (refine bni ?_;repeat (refine bnk ?_;(try simp (disch:=first|omega|(simp only [LN];omega)) only [↓EC,EW,seval,↓reduceIte,↓ED,EE])))
 refine callM_d (c_order2 (a:=a) (b:=b) (k:=k) hn h0 hb (by omega)) ?_
 rintro _ _ ⟨x1,y1,k1,rfl,hx1,hy1,rfl,hk1,hk1'⟩
 (refine bni ?_;repeat (refine bnk ?_;(try simp (disch:=first|omega|(simp only [LN];omega)) only [↓EC,EW,seval,↓reduceIte,↓ED,EE])))
 refine pcm [0] rfl ?_; (refine bni ?_;repeat (refine bnk ?_;(try simp (disch:=first|omega|(simp only [LN];omega)) only [↓EC,EW,seval,↓reduceIte,↓ED,EE])))
 refine callM_d (c_order2 (a:=y1) (b:=d) (k:=k1) hn (by omega) hd (by omega)) ?_
 rintro _ _ ⟨x2,y2,k2,rfl,hx2,hy2,rfl,hk2,hk2'⟩
 (refine bni ?_;repeat (refine bnk ?_;(try simp (disch:=first|omega|(simp only [LN];omega)) only [↓EC,EW,seval,↓reduceIte,↓ED,EE])))
 refine pcm [0] rfl ?_; (refine bni ?_;repeat (refine bnk ?_;(try simp (disch:=first|omega|(simp only [LN];omega)) only [↓EC,EW,seval,↓reduceIte,↓ED,EE])))
 refine callM_d (c_order2 (a:=x1) (b:=x2) (k:=k2) hn (by omega) (by omega) (by omega)) ?_
 rintro _ _ ⟨x3,y3,k3,rfl,hx3,hy3,rfl,hk3,hk3'⟩
 (refine bni ?_;repeat (refine bnk ?_;(try simp (disch:=first|omega|(simp only [LN];omega)) only [↓EC,EW,seval,↓reduceIte,↓ED,EE])))
 exact ⟨y3,k3,rfl,by omega,rfl,by omega,by omega⟩
theorem c_choosePivot {l:List Int} {n:Nat} {a b:Int} (hn:l.length = n) (h0:0 <= a) (hab:a + 13 <= b) (hb:b <= n) (hl:n <= 16):PSpec Tryz.prog 136 [.sl n (vi .i64 l),.int .i64 a,.int .i64 b] fun v =>
  ∃ x y,v = .tup [.int .i64 x,.int .i64 y] /\ a <= x /\ x < b /\ 0 <= y /\ y <= 2:=by
 refine slices_choosePivotOrdered_int64_f.f ?_
 dsimp only [slices_choosePivotOrdered_int64_F,pcal_B,pcalp_B,pcala_B,pcond_B,pgk_B,JN_B,LP_B]
 (refine bni ?_;repeat (refine bnk ?_;(try simp (disch:=first|omega|(simp only [LN];omega)) only [↓EC,EW,seval,↓reduceIte,↓ED,EE])))
 have hd:3 <= (b - a).tdiv 4 /\ (b - a).tdiv 4 <= 4:=by
  have h3:=Int.mul_tdiv_add_tmod (b - a) 4
  have h4:=Int.tmod_nonneg 4 (show 0 <= b - a by omega)
  have h5:=Int.tmod_lt_of_pos (b - a) (show (0:Int) < 4 by omega)
  omega
 have hd4:4 * (b - a).tdiv 4 <= b - a:=by
  have h3:=Int.mul_tdiv_add_tmod (b - a) 4
  have h4:=Int.tmod_nonneg 4 (show 0 <= b - a by omega)
  omega
 generalize (b - a).tdiv 4 = d at *
 (refine bni ?_;repeat (refine bnk ?_;(try simp (disch:=first|omega|(simp only [LN];omega)) only [↓EC,EW,seval,↓reduceIte,↓ED,EE])))
 refine JNx_un ?_
 (refine bni ?_;repeat (refine bnk ?_;(try simp (disch:=first|omega|(simp only [LN];omega)) only [↓EC,EW,seval,↓reduceIte,↓ED,EE])))
 (refine Split.mB (fun h=>?_) (fun h=>?_) <;> (try simp only [SD]at h))
 rotate_left
 ·omega
 (refine bni ?_;repeat (refine bnk ?_;(try simp (disch:=first|omega|(simp only [LN];omega)) only [↓EC,EW,seval,↓reduceIte,↓ED,EE])))
 refine JNx_un ?_
 (refine bni ?_;repeat (refine bnk ?_;(try simp (disch:=first|omega|(simp only [LN];omega)) only [↓EC,EW,seval,↓reduceIte,↓ED,EE])))
 (refine Split.mB (fun h=>?_) (fun h=>?_) <;> (try simp only [SD]at h))
 ·omega
 (refine bni ?_;repeat (refine bnk ?_;(try simp (disch:=first|omega|(simp only [LN];omega)) only [↓EC,EW,seval,↓reduceIte,↓ED,EE])))
 refine pcm [73] rfl ?_; (refine bni ?_;repeat (refine bnk ?_;(try simp (disch:=first|omega|(simp only [LN];omega)) only [↓EC,EW,seval,↓reduceIte,↓ED,EE])))
 refine callM_d (c_median (a:=a + d * 1) (b:=a + d * 2) (d:=a + d * 3) (k:=0) hn (by omega) (by omega) (by omega) (by omega)) ?_
 rintro _ _ ⟨x,k,rfl,hx,rfl,hk,hk'⟩
 (refine bni ?_;repeat (refine bnk ?_;(try simp (disch:=first|omega|(simp only [LN];omega)) only [↓EC,EW,seval,↓reduceIte,↓ED,EE])))
 (refine Split.mB (fun h=>?_) (fun h=>?_) <;> (try simp only [SD]at h))
 ·(refine bni ?_;repeat (refine bnk ?_;(try simp (disch:=first|omega|(simp only [LN];omega)) only [↓EC,EW,seval,↓reduceIte,↓ED,EE])))
  exact ⟨x,1,rfl,by omega,by omega,by omega,by omega⟩
 ·(refine bni ?_;repeat (refine bnk ?_;(try simp (disch:=first|omega|(simp only [LN];omega)) only [↓EC,EW,seval,↓reduceIte,↓ED,EE])))
  (refine Split.mB (fun h=>?_) (fun h=>?_) <;> (try simp only [SD]at h))
  ·omega
  ·(refine bni ?_;repeat (refine bnk ?_;(try simp (disch:=first|omega|(simp only [LN];omega)) only [↓EC,EW,seval,↓reduceIte,↓ED,EE])))
   exact ⟨x,0,rfl,by omega,by omega,by omega,by omega⟩
theorem c_partialInsertion {l:List Int} {n:Nat} {a b:Int} (hn:l.length = n) (h0:0 <= a) (hab:a + 13 <= b) (hb:b <= n) (hl:n <= 16):PSpec Tryz.prog 138 [.sl n (vi .i64 l),.int .i64 a,.int .i64 b] fun v=>∃ r,v = .bool r:=by
 refine slices_partialInsertionSortOrdered_int64_f.f ?_
 dsimp only [slices_partialInsertionSortOrdered_int64_F,pcal_B,pcalp_B,pcala_B,pcond_B,pgk_B,JN_B,LP_B]
 (refine bni ?_;repeat (refine bnk ?_;(try simp (disch:=first|omega|(simp only [LN];omega)) only [↓EC,EW,seval,↓reduceIte,↓ED,EE])))
 refine LPx_of (σ:=Unit) 100000 [] (fun s=>[.int .i64 (a + 1),.int .i64 0]) (fun s=>[]) (fun s=>True) (fun s=>0) () (by simp [frameOk,names,lpz,sclp,scv,scvs,nrfs,nrf,FRB]) trivial ?_ ?_
 ·(refine bni ?_;repeat (refine bnk ?_;simp (disch:=first|omega|(simp only [LN];omega)) only [↓EC,EW,seval,↓reduceIte,↓ED,EE,CVd]))
 ·intro _ _
  (refine bni ?_;repeat (refine bnk ?_;simp (disch:=first|omega|(simp only [LN];omega)) only [↓EC,EW,seval,↓reduceIte,↓ED,EE,CVd,lhd]))
  (refine bni ?_;repeat (refine bnk ?_;(try simp (disch:=first|omega|(simp only [LN];omega)) only [↓EC,EW,seval,↓reduceIte,↓ED,EE])))
  refine JNx_un ?_
  (refine bni ?_;repeat (refine bnk ?_;(try simp (disch:=first|omega|(simp only [LN];omega)) only [↓EC,EW,seval,↓reduceIte,↓ED,EE])))
  refine LPx_of (σ:=Int) 200000 [] (fun s=>[.int .i64 s]) (fun s=>[]) (fun s=>a + 1 <= s /\ s <= b) (fun s=>(b - s).toNat) (a + 1) (by simp [frameOk,names,lpz,sclp,scv,scvs,nrfs,nrf,FRB]) (by omega) ?_ ?_
  ·(refine bni ?_;repeat (refine bnk ?_;simp (disch:=first|omega|(simp only [LN];omega)) only [↓EC,EW,seval,↓reduceIte,↓ED,EE,CVd]))
  ·rintro i ⟨h1,h2⟩
   (refine bni ?_;repeat (refine bnk ?_;simp (disch:=first|omega|(simp only [LN];omega)) only [↓EC,EW,seval,↓reduceIte,↓ED,EE,CVd,lhd]))
   (refine Split.mB (fun h=>?_) (fun h=>?_) <;> (try simp only [SD]at h))
   ·(refine bni ?_;repeat (refine bnk ?_;(try simp (disch:=first|omega|(simp only [LN];omega)) only [↓EC,EW,seval,↓reduceIte,↓ED,EE])))
    refine pcd_v c_less ?_
    (refine bni ?_;repeat (refine bnk ?_;(try simp (disch:=first|omega|(simp only [LN];omega)) only [↓EC,EW,seval,↓reduceIte,↓ED,EE])))
    (refine Split.mB (fun h=>?_) (fun h=>?_) <;> (try simp only [SD]at h))
    ·(refine bni ?_;repeat (refine bnk ?_;(try simp (disch:=first|omega|(simp only [LN];omega)) only [↓EC,EW,seval,↓reduceIte,↓ED,EE])))
     exact ⟨i + 1,rfl,by omega,by omega⟩
    ·(refine bni ?_;repeat (refine bnk ?_;(try simp (disch:=first|omega|(simp only [LN];omega)) only [↓EC,EW,seval,↓reduceIte,↓ED,EE])))
     (refine Split.mB (fun h=>?_) (fun h=>?_) <;> (try simp only [SD]at h))
     ·(refine bni ?_;repeat (refine bnk ?_;(try simp (disch:=first|omega|(simp only [LN];omega)) only [↓EC,EW,seval,↓reduceIte,↓ED,EE])))
      exact ⟨_,rfl⟩
     ·(refine bni ?_;repeat (refine bnk ?_;(try simp (disch:=first|omega|(simp only [LN];omega)) only [↓EC,EW,seval,↓reduceIte,↓ED,EE])))
      (refine Split.mB (fun h=>?_) (fun h=>?_) <;> (try simp only [SD]at h))
      ·(refine bni ?_;repeat (refine bnk ?_;(try simp (disch:=first|omega|(simp only [LN];omega)) only [↓EC,EW,seval,↓reduceIte,↓ED,EE])))
       exact ⟨_,rfl⟩
      ·omega
   ·(refine bni ?_;repeat (refine bnk ?_;(try simp (disch:=first|omega|(simp only [LN];omega)) only [↓EC,EW,seval,↓reduceIte,↓ED,EE])))
    (refine Split.mB (fun h=>?_) (fun h=>?_) <;> (try simp only [SD]at h))
    ·(refine bni ?_;repeat (refine bnk ?_;(try simp (disch:=first|omega|(simp only [LN];omega)) only [↓EC,EW,seval,↓reduceIte,↓ED,EE])))
     exact ⟨_,rfl⟩
    ·omega
theorem c_partitionEqual {l:List Int} {n:Nat} {a b p:Int} (hn:l.length = n) (h0:0 <= a) (hab:a + 1 <= b) (hb:b <= n) (hp:a <= p /\ p < b) (hl:n <= 1000):PSpecM Tryz.prog 140 [.rf 0 0 n,.int .i64 a,.int .i64 b,.int .i64 p] [(0,2,1)] [vi .i64 l] fun v c =>
  ∃ x,v = .int .i64 x /\ a < x /\ x <= b /\ kp n c:=by
 refine slices_partitionEqualOrdered_int64_f.m rfl rfl ?_
 dsimp only [slices_partitionEqualOrdered_int64_F,pcal_B,pcalp_B,pcala_B,pcond_B,pgk_B,JN_B,LP_B]
 (refine bni ?_;repeat (refine bnk ?_;(try simp (disch:=first|omega|(simp only [LN];omega)) only [↓EC,EW,seval,↓reduceIte,↓ED,EE])))
 generalize hM:(l.set a.toNat (gi l p.toNat)).set p.toNat (gi l a.toNat) = m
 have h1:m.length = n:=by rw [<-hM]; simp [hn]
 refine LPx_of (σ:=List Int × Int × Int) 100000 [(0,2,1)] (fun s=>[.int .i64 s.2.1,.int .i64 s.2.2]) (fun s=>[vi .i64 s.1])
  (fun s=>s.1.length = n /\ a + 1 <= s.2.1 /\ s.2.1 <= s.2.2 + 2 /\ s.2.2 <= b - 1 /\ s.2.1 <= b /\ a <= s.2.2) (fun s=>(s.2.2 + 2 - s.2.1).toNat) (m,a + 1,b - 1) (by simp [frameOk,names,lpz,sclp,scv,scvs,nrfs,nrf,FRB]) ⟨h1,by simp only; omega⟩ ?_ ?_
 ·(refine bni ?_;repeat (refine bnk ?_;simp (disch:=first|omega|(simp only [LN];omega)) only [↓EC,EW,seval,↓reduceIte,↓ED,EE,CVd]))
 ·rintro ⟨m,i,j⟩ ⟨h1,h2,h3,h4,h9,h10⟩
  simp only at h1 h2 h3 h4 h9 h10
  (refine bni ?_;repeat (refine bnk ?_;simp (disch:=first|omega|(simp only [LN];omega)) only [↓EC,EW,seval,↓reduceIte,↓ED,EE,CVd,lhd]))
  (refine bni ?_;repeat (refine bnk ?_;(try simp (disch:=first|omega|(simp only [LN];omega)) only [↓EC,EW,seval,↓reduceIte,↓ED,EE])))
  refine LPx_of (σ:=Int) 200000 [(0,2,1)] (fun s=>[.int .i64 s]) (fun s=>[vi .i64 m]) (fun s=>i <= s /\ (s <= j + 1 ∨ s = i)) (fun s=>(j + 1 - s).toNat) (i) (by simp [frameOk,names,lpz,sclp,scv,scvs,nrfs,nrf,FRB]) (by omega) ?_ ?_
  ·(refine bni ?_;repeat (refine bnk ?_;simp (disch:=first|omega|(simp only [LN];omega)) only [↓EC,EW,seval,↓reduceIte,↓ED,EE,CVd]))
  ·rintro i' ⟨h5,h6⟩
   (refine bni ?_;repeat (refine bnk ?_;simp (disch:=first|omega|(simp only [LN];omega)) only [↓EC,EW,seval,↓reduceIte,↓ED,EE,CVd,lhd]))
   (refine Split.mB (fun h=>?_) (fun h=>?_) <;> (try simp only [SD]at h))
   ·(refine bni ?_;repeat (refine bnk ?_;(try simp (disch:=first|omega|(simp only [LN];omega)) only [↓EC,EW,seval,↓reduceIte,↓ED,EE])))
    refine pcd_v c_less ?_
    (refine bni ?_;repeat (refine bnk ?_;(try simp (disch:=first|omega|(simp only [LN];omega)) only [↓EC,EW,seval,↓reduceIte,↓ED,EE])))
    (refine Split.mB (fun h=>?_) (fun h=>?_) <;> (try simp only [SD]at h))
    ·(refine bni ?_;repeat (refine bnk ?_;(try simp (disch:=first|omega|(simp only [LN];omega)) only [↓EC,EW,seval,↓reduceIte,↓ED,EE])))
     exact ⟨i' + 1,rfl,by omega,by omega⟩
    ·(refine bni ?_;repeat (refine bnk ?_;(try simp (disch:=first|omega|(simp only [LN];omega)) only [↓EC,EW,seval,↓reduceIte,↓ED,EE])))
     refine LPx_of (σ:=Int) 300000 [(0,2,1)] (fun s=>[.int .i64 s]) (fun s=>[vi .i64 m]) (fun s=>s <= j /\ (i' <= s + 1 ∨ s = j)) (fun s=>(s + 1 - i').toNat) (j) (by simp [frameOk,names,lpz,sclp,scv,scvs,nrfs,nrf,FRB]) (by omega) ?_ ?_
     ·(refine bni ?_;repeat (refine bnk ?_;simp (disch:=first|omega|(simp only [LN];omega)) only [↓EC,EW,seval,↓reduceIte,↓ED,EE,CVd]))
     ·rintro j' ⟨h7,h8⟩
      (refine bni ?_;repeat (refine bnk ?_;simp (disch:=first|omega|(simp only [LN];omega)) only [↓EC,EW,seval,↓reduceIte,↓ED,EE,CVd,lhd]))
      (refine Split.mB (fun h=>?_) (fun h=>?_) <;> (try simp only [SD]at h))
      ·(refine bni ?_;repeat (refine bnk ?_;(try simp (disch:=first|omega|(simp only [LN];omega)) only [↓EC,EW,seval,↓reduceIte,↓ED,EE])))
       refine pcd_v c_less ?_
       (refine bni ?_;repeat (refine bnk ?_;(try simp (disch:=first|omega|(simp only [LN];omega)) only [↓EC,EW,seval,↓reduceIte,↓ED,EE])))
       (refine Split.mB (fun h=>?_) (fun h=>?_) <;> (try simp only [SD]at h))
       ·(refine bni ?_;repeat (refine bnk ?_;(try simp (disch:=first|omega|(simp only [LN];omega)) only [↓EC,EW,seval,↓reduceIte,↓ED,EE])))
        exact ⟨j' - 1,rfl,by omega,by omega⟩
       ·(refine bni ?_;repeat (refine bnk ?_;(try simp (disch:=first|omega|(simp only [LN];omega)) only [↓EC,EW,seval,↓reduceIte,↓ED,EE])))
        (refine Split.mB (fun h=>?_) (fun h=>?_) <;> (try simp only [SD]at h))
        ·first
         | omega
         | ((refine bni ?_;repeat (refine bnk ?_;(try simp (disch:=first|omega|(simp only [LN];omega)) only [↓EC,EW,seval,↓reduceIte,↓ED,EE]))); exact ⟨_,rfl,by omega,by omega,m,rfl,h1⟩)
        ·first
         | omega
         | ((refine bni ?_;repeat (refine bnk ?_;(try simp (disch:=first|omega|(simp only [LN];omega)) only [↓EC,EW,seval,↓reduceIte,↓ED,EE]))); exact ⟨(_,i' + 1,j' - 1),rfl,rfl,⟨by simp [h1],by simp only; omega⟩,by simp only; omega⟩)
      ·(refine bni ?_;repeat (refine bnk ?_;(try simp (disch:=first|omega|(simp only [LN];omega)) only [↓EC,EW,seval,↓reduceIte,↓ED,EE])))
       (refine Split.mB (fun h=>?_) (fun h=>?_) <;> (try simp only [SD]at h))
       ·first
        | omega
        | ((refine bni ?_;repeat (refine bnk ?_;(try simp (disch:=first|omega|(simp only [LN];omega)) only [↓EC,EW,seval,↓reduceIte,↓ED,EE]))); exact ⟨_,rfl,by omega,by omega,m,rfl,h1⟩)
       ·first
        | omega
        | ((refine bni ?_;repeat (refine bnk ?_;(try simp (disch:=first|omega|(simp only [LN];omega)) only [↓EC,EW,seval,↓reduceIte,↓ED,EE]))); exact ⟨(_,i' + 1,j' - 1),rfl,rfl,⟨by simp [h1],by simp only; omega⟩,by simp only; omega⟩)
   ·(refine bni ?_;repeat (refine bnk ?_;(try simp (disch:=first|omega|(simp only [LN];omega)) only [↓EC,EW,seval,↓reduceIte,↓ED,EE])))
    refine LPx_of (σ:=Int) 300000 [(0,2,1)] (fun s=>[.int .i64 s]) (fun s=>[vi .i64 m]) (fun s=>s <= j /\ (i' <= s + 1 ∨ s = j)) (fun s=>(s + 1 - i').toNat) (j) (by simp [frameOk,names,lpz,sclp,scv,scvs,nrfs,nrf,FRB]) (by omega) ?_ ?_
    ·(refine bni ?_;repeat (refine bnk ?_;simp (disch:=first|omega|(simp only [LN];omega)) only [↓EC,EW,seval,↓reduceIte,↓ED,EE,CVd]))
    ·rintro j' ⟨h7,h8⟩
     (refine bni ?_;repeat (refine bnk ?_;simp (disch:=first|omega|(simp only [LN];omega)) only [↓EC,EW,seval,↓reduceIte,↓ED,EE,CVd,lhd]))
     (refine Split.mB (fun h=>?_) (fun h=>?_) <;> (try simp only [SD]at h))
     ·(refine bni ?_;repeat (refine bnk ?_;(try simp (disch:=first|omega|(simp only [LN];omega)) only [↓EC,EW,seval,↓reduceIte,↓ED,EE])))
      refine pcd_v c_less ?_
      (refine bni ?_;repeat (refine bnk ?_;(try simp (disch:=first|omega|(simp only [LN];omega)) only [↓EC,EW,seval,↓reduceIte,↓ED,EE])))
      (refine Split.mB (fun h=>?_) (fun h=>?_) <;> (try simp only [SD]at h))
      ·(refine bni ?_;repeat (refine bnk ?_;(try simp (disch:=first|omega|(simp only [LN];omega)) only [↓EC,EW,seval,↓reduceIte,↓ED,EE])))
       exact ⟨j' - 1,rfl,by omega,by omega⟩
      ·(refine bni ?_;repeat (refine bnk ?_;(try simp (disch:=first|omega|(simp only [LN];omega)) only [↓EC,EW,seval,↓reduceIte,↓ED,EE])))
       (refine Split.mB (fun h=>?_) (fun h=>?_) <;> (try simp only [SD]at h))
       ·first
        | omega
        | ((refine bni ?_;repeat (refine bnk ?_;(try simp (disch:=first|omega|(simp only [LN];omega)) only [↓EC,EW,seval,↓reduceIte,↓ED,EE]))); exact ⟨_,rfl,by omega,by omega,m,rfl,h1⟩)
       ·first
        | omega
        | ((refine bni ?_;repeat (refine bnk ?_;(try simp (disch:=first|omega|(simp only [LN];omega)) only [↓EC,EW,seval,↓reduceIte,↓ED,EE]))); exact ⟨(_,i' + 1,j' - 1),rfl,rfl,⟨by simp [h1],by simp only; omega⟩,by simp only; omega⟩)
     ·(refine bni ?_;repeat (refine bnk ?_;(try simp (disch:=first|omega|(simp only [LN];omega)) only [↓EC,EW,seval,↓reduceIte,↓ED,EE])))
      (refine Split.mB (fun h=>?_) (fun h=>?_) <;> (try simp only [SD]at h))
      ·first
       | omega
       | ((refine bni ?_;repeat (refine bnk ?_;(try simp (disch:=first|omega|(simp only [LN];omega)) only [↓EC,EW,seval,↓reduceIte,↓ED,EE]))); exact ⟨_,rfl,by omega,by omega,m,rfl,h1⟩)
      ·first
       | omega
       | ((refine bni ?_;repeat (refine bnk ?_;(try simp (disch:=first|omega|(simp only [LN];omega)) only [↓EC,EW,seval,↓reduceIte,↓ED,EE]))); exact ⟨(_,i' + 1,j' - 1),rfl,rfl,⟨by simp [h1],by simp only; omega⟩,by simp only; omega⟩)
theorem c_partition {l : List Int} {n : Nat} {a b p : Int} (hn : l.length = n) (h0 : 0 ≤ a) (hab : a + 1 ≤ b) (hb : b ≤ n) (hp : a ≤ p ∧ p < b) (hl : n ≤ 1000) : PSpecM Tryz.prog 141 [.rf 0 0 n, .int .i64 a, .int .i64 b, .int .i64 p] [(0, 2, 1)] [vi .i64 l] fun v c =>
    ∃ x r, v = .tup [.int .i64 x, .bool r] ∧ a ≤ x ∧ x < b ∧ kp n c := by
  refine slices_partitionOrdered_int64_f.m rfl rfl ?_
  dsimp only [slices_partitionOrdered_int64_F, pcal_B, pcalp_B, pcala_B, pcond_B, pgk_B, JN_B, LP_B]
  (refine bni ?_;repeat (refine bnk ?_;(try simp (disch:=first|omega|(simp only [LN];omega)) only [↓EC,EW,seval,↓reduceIte,↓ED,EE])))
  generalize hM : (l.set a.toNat (gi l p.toNat)).set p.toNat (gi l a.toNat) = m
  have h1 : m.length = n := by rw [← hM]; simp [hn]
  refine LPx_of (σ := Int) 200000 [(0, 2, 1)] (fun s => [.int .i64 s]) (fun s => [vi .i64 m]) (fun s => a + 1 ≤ s ∧ (s ≤ b - 1 + 1 ∨ s = a + 1)) (fun s => (b - 1 + 1 - s).toNat) (a + 1) (by simp [frameOk, names, lpz, sclp, scv, scvs, nrfs, nrf, FRB]) (by omega) ?_ ?_
  · (refine bni ?_;repeat (refine bnk ?_;simp (disch:=first|omega|(simp only [LN];omega)) only [↓EC,EW,seval,↓reduceIte,↓ED,EE, CVd]))
  · rintro i' ⟨h5, h6⟩
    (refine bni ?_;repeat (refine bnk ?_;simp (disch:=first|omega|(simp only [LN];omega)) only [↓EC,EW,seval,↓reduceIte,↓ED,EE, CVd, lhd]))
    (refine Split.mB (fun h => ?_) (fun h => ?_) <;> (try simp only [SD]at h))
    · (refine bni ?_;repeat (refine bnk ?_;(try simp (disch:=first|omega|(simp only [LN];omega)) only [↓EC,EW,seval,↓reduceIte,↓ED,EE])))
      refine pcd_v c_less ?_
      (refine bni ?_;repeat (refine bnk ?_;(try simp (disch:=first|omega|(simp only [LN];omega)) only [↓EC,EW,seval,↓reduceIte,↓ED,EE])))
      (refine Split.mB (fun h => ?_) (fun h => ?_) <;> (try simp only [SD]at h))
      · (refine bni ?_;repeat (refine bnk ?_;(try simp (disch:=first|omega|(simp only [LN];omega)) only [↓EC,EW,seval,↓reduceIte,↓ED,EE])))
        exact ⟨i' + 1, rfl, by omega, by omega⟩
      · (refine bni ?_;repeat (refine bnk ?_;(try simp (disch:=first|omega|(simp only [LN];omega)) only [↓EC,EW,seval,↓reduceIte,↓ED,EE])))
        refine LPx_of (σ := Int) 300000 [(0, 2, 1)] (fun s => [.int .i64 s]) (fun s => [vi .i64 m]) (fun s => s ≤ b - 1 ∧ (i' ≤ s + 1 ∨ s = b - 1)) (fun s => (s + 1 - i').toNat) (b - 1) (by simp [frameOk, names, lpz, sclp, scv, scvs, nrfs, nrf, FRB]) (by omega) ?_ ?_
        · (refine bni ?_;repeat (refine bnk ?_;simp (disch:=first|omega|(simp only [LN];omega)) only [↓EC,EW,seval,↓reduceIte,↓ED,EE, CVd]))
        · rintro j' ⟨h7, h8⟩
          (refine bni ?_;repeat (refine bnk ?_;simp (disch:=first|omega|(simp only [LN];omega)) only [↓EC,EW,seval,↓reduceIte,↓ED,EE, CVd, lhd]))
          (refine Split.mB (fun h => ?_) (fun h => ?_) <;> (try simp only [SD]at h))
          · (refine bni ?_;repeat (refine bnk ?_;(try simp (disch:=first|omega|(simp only [LN];omega)) only [↓EC,EW,seval,↓reduceIte,↓ED,EE])))
            refine pcd_v c_less ?_
            (refine bni ?_;repeat (refine bnk ?_;(try simp (disch:=first|omega|(simp only [LN];omega)) only [↓EC,EW,seval,↓reduceIte,↓ED,EE])))
            (refine Split.mB (fun h => ?_) (fun h => ?_) <;> (try simp only [SD]at h))
            · (refine bni ?_;repeat (refine bnk ?_;(try simp (disch:=first|omega|(simp only [LN];omega)) only [↓EC,EW,seval,↓reduceIte,↓ED,EE])))
              exact ⟨j' - 1, rfl, by omega, by omega⟩
            · (refine bni ?_;repeat (refine bnk ?_;(try simp (disch:=first|omega|(simp only [LN];omega)) only [↓EC,EW,seval,↓reduceIte,↓ED,EE])))
              (refine Split.mB (fun h => ?_) (fun h => ?_) <;> (try simp only [SD]at h))
              · first
                | omega
                | ((refine bni ?_;repeat (refine bnk ?_;(try simp (disch:=first|omega|(simp only [LN];omega)) only [↓EC,EW,seval,↓reduceIte,↓ED,EE]))); exact ⟨_, _, rfl, by omega, by omega, _, rfl, by simp [h1]⟩)
              · first
                | omega
                | (skip
                   (refine bni ?_;repeat (refine bnk ?_;(try simp (disch:=first|omega|(simp only [LN];omega)) only [↓EC,EW,seval,↓reduceIte,↓ED,EE])))
                   refine LPx_of (σ := List Int × Int × Int) 500000 [(0, 2, 1)] (fun s => [.int .i64 s.2.1, .int .i64 s.2.2]) (fun s => [vi .i64 s.1])
                     (fun s => s.1.length = n ∧ a + 1 ≤ s.2.1 ∧ s.2.1 ≤ s.2.2 + 2 ∧ s.2.2 ≤ b - 1 ∧ s.2.1 ≤ b ∧ a ≤ s.2.2) (fun s => (s.2.2 + 2 - s.2.1).toNat) ((m.set i'.toNat (gi m j'.toNat)).set j'.toNat (gi m i'.toNat), i' + 1, j' - 1) (by simp [frameOk, names, lpz, sclp, scv, scvs, nrfs, nrf, FRB]) ⟨by simp [h1], by simp only; omega⟩ ?_ ?_
                   · (refine bni ?_;repeat (refine bnk ?_;simp (disch:=first|omega|(simp only [LN];omega)) only [↓EC,EW,seval,↓reduceIte,↓ED,EE, CVd]))
                   · rintro ⟨m, i, j⟩ ⟨h1, h2, h3, h4, h9, h10⟩
                     simp only at h1 h2 h3 h4 h9 h10
                     (refine bni ?_;repeat (refine bnk ?_;simp (disch:=first|omega|(simp only [LN];omega)) only [↓EC,EW,seval,↓reduceIte,↓ED,EE, CVd, lhd]))
                     (refine bni ?_;repeat (refine bnk ?_;(try simp (disch:=first|omega|(simp only [LN];omega)) only [↓EC,EW,seval,↓reduceIte,↓ED,EE])))
                     refine LPx_of (σ := Int) 600000 [(0, 2, 1)] (fun s => [.int .i64 s]) (fun s => [vi .i64 m]) (fun s => i ≤ s ∧ (s ≤ j + 1 ∨ s = i)) (fun s => (j + 1 - s).toNat) (i) (by simp [frameOk, names, lpz, sclp, scv, scvs, nrfs, nrf, FRB]) (by omega) ?_ ?_
                     · (refine bni ?_;repeat (refine bnk ?_;simp (disch:=first|omega|(simp only [LN];omega)) only [↓EC,EW,seval,↓reduceIte,↓ED,EE, CVd]))
                     · rintro i' ⟨h5, h6⟩
                       (refine bni ?_;repeat (refine bnk ?_;simp (disch:=first|omega|(simp only [LN];omega)) only [↓EC,EW,seval,↓reduceIte,↓ED,EE, CVd, lhd]))
                       (refine Split.mB (fun h => ?_) (fun h => ?_) <;> (try simp only [SD]at h))
                       · (refine bni ?_;repeat (refine bnk ?_;(try simp (disch:=first|omega|(simp only [LN];omega)) only [↓EC,EW,seval,↓reduceIte,↓ED,EE])))
                         refine pcd_v c_less ?_
                         (refine bni ?_;repeat (refine bnk ?_;(try simp (disch:=first|omega|(simp only [LN];omega)) only [↓EC,EW,seval,↓reduceIte,↓ED,EE])))
                         (refine Split.mB (fun h => ?_) (fun h => ?_) <;> (try simp only [SD]at h))
                         · (refine bni ?_;repeat (refine bnk ?_;(try simp (disch:=first|omega|(simp only [LN];omega)) only [↓EC,EW,seval,↓reduceIte,↓ED,EE])))
                           exact ⟨i' + 1, rfl, by omega, by omega⟩
                         · (refine bni ?_;repeat (refine bnk ?_;(try simp (disch:=first|omega|(simp only [LN];omega)) only [↓EC,EW,seval,↓reduceIte,↓ED,EE])))
                           refine LPx_of (σ := Int) 700000 [(0, 2, 1)] (fun s => [.int .i64 s]) (fun s => [vi .i64 m]) (fun s => s ≤ j ∧ (i' ≤ s + 1 ∨ s = j)) (fun s => (s + 1 - i').toNat) (j) (by simp [frameOk, names, lpz, sclp, scv, scvs, nrfs, nrf, FRB]) (by omega) ?_ ?_
                           · (refine bni ?_;repeat (refine bnk ?_;simp (disch:=first|omega|(simp only [LN];omega)) only [↓EC,EW,seval,↓reduceIte,↓ED,EE, CVd]))
                           · rintro j' ⟨h7, h8⟩
                             (refine bni ?_;repeat (refine bnk ?_;simp (disch:=first|omega|(simp only [LN];omega)) only [↓EC,EW,seval,↓reduceIte,↓ED,EE, CVd, lhd]))
                             (refine Split.mB (fun h => ?_) (fun h => ?_) <;> (try simp only [SD]at h))
                             · (refine bni ?_;repeat (refine bnk ?_;(try simp (disch:=first|omega|(simp only [LN];omega)) only [↓EC,EW,seval,↓reduceIte,↓ED,EE])))
                               refine pcd_v c_less ?_
                               (refine bni ?_;repeat (refine bnk ?_;(try simp (disch:=first|omega|(simp only [LN];omega)) only [↓EC,EW,seval,↓reduceIte,↓ED,EE])))
                               (refine Split.mB (fun h => ?_) (fun h => ?_) <;> (try simp only [SD]at h))
                               · (refine bni ?_;repeat (refine bnk ?_;(try simp (disch:=first|omega|(simp only [LN];omega)) only [↓EC,EW,seval,↓reduceIte,↓ED,EE])))
                                 exact ⟨j' - 1, rfl, by omega, by omega⟩
                               · (refine bni ?_;repeat (refine bnk ?_;(try simp (disch:=first|omega|(simp only [LN];omega)) only [↓EC,EW,seval,↓reduceIte,↓ED,EE])))
                                 (refine Split.mB (fun h => ?_) (fun h => ?_) <;> (try simp only [SD]at h))
                                 · first
                                   | omega
                                   | ((refine bni ?_;repeat (refine bnk ?_;(try simp (disch:=first|omega|(simp only [LN];omega)) only [↓EC,EW,seval,↓reduceIte,↓ED,EE]))); exact ⟨_, _, rfl, by omega, by omega, _, rfl, by simp [h1]⟩)
                                 · first
                                   | omega
                                   | ((refine bni ?_;repeat (refine bnk ?_;(try simp (disch:=first|omega|(simp only [LN];omega)) only [↓EC,EW,seval,↓reduceIte,↓ED,EE]))); exact ⟨(_, i' + 1, j' - 1), rfl, rfl, ⟨by simp [h1], by simp only; omega⟩, by simp only; omega⟩)
                             · (refine bni ?_;repeat (refine bnk ?_;(try simp (disch:=first|omega|(simp only [LN];omega)) only [↓EC,EW,seval,↓reduceIte,↓ED,EE])))
                               (refine Split.mB (fun h => ?_) (fun h => ?_) <;> (try simp only [SD]at h))
                               · first
                                 | omega
                                 | ((refine bni ?_;repeat (refine bnk ?_;(try simp (disch:=first|omega|(simp only [LN];omega)) only [↓EC,EW,seval,↓reduceIte,↓ED,EE]))); exact ⟨_, _, rfl, by omega, by omega, _, rfl, by simp [h1]⟩)
                               · first
                                 | omega
                                 | ((refine bni ?_;repeat (refine bnk ?_;(try simp (disch:=first|omega|(simp only [LN];omega)) only [↓EC,EW,seval,↓reduceIte,↓ED,EE]))); exact ⟨(_, i' + 1, j' - 1), rfl, rfl, ⟨by simp [h1], by simp only; omega⟩, by simp only; omega⟩)
                       · (refine bni ?_;repeat (refine bnk ?_;(try simp (disch:=first|omega|(simp only [LN];omega)) only [↓EC,EW,seval,↓reduceIte,↓ED,EE])))
                         refine LPx_of (σ := Int) 700000 [(0, 2, 1)] (fun s => [.int .i64 s]) (fun s => [vi .i64 m]) (fun s => s ≤ j ∧ (i' ≤ s + 1 ∨ s = j)) (fun s => (s + 1 - i').toNat) (j) (by simp [frameOk, names, lpz, sclp, scv, scvs, nrfs, nrf, FRB]) (by omega) ?_ ?_
                         · (refine bni ?_;repeat (refine bnk ?_;simp (disch:=first|omega|(simp only [LN];omega)) only [↓EC,EW,seval,↓reduceIte,↓ED,EE, CVd]))
                         · rintro j' ⟨h7, h8⟩
                           (refine bni ?_;repeat (refine bnk ?_;simp (disch:=first|omega|(simp only [LN];omega)) only [↓EC,EW,seval,↓reduceIte,↓ED,EE, CVd, lhd]))
                           (refine Split.mB (fun h => ?_) (fun h => ?_) <;> (try simp only [SD]at h))
                           · (refine bni ?_;repeat (refine bnk ?_;(try simp (disch:=first|omega|(simp only [LN];omega)) only [↓EC,EW,seval,↓reduceIte,↓ED,EE])))
                             refine pcd_v c_less ?_
                             (refine bni ?_;repeat (refine bnk ?_;(try simp (disch:=first|omega|(simp only [LN];omega)) only [↓EC,EW,seval,↓reduceIte,↓ED,EE])))
                             (refine Split.mB (fun h => ?_) (fun h => ?_) <;> (try simp only [SD]at h))
                             · (refine bni ?_;repeat (refine bnk ?_;(try simp (disch:=first|omega|(simp only [LN];omega)) only [↓EC,EW,seval,↓reduceIte,↓ED,EE])))
                               exact ⟨j' - 1, rfl, by omega, by omega⟩
                             · (refine bni ?_;repeat (refine bnk ?_;(try simp (disch:=first|omega|(simp only [LN];omega)) only [↓EC,EW,seval,↓reduceIte,↓ED,EE])))
                               (refine Split.mB (fun h => ?_) (fun h => ?_) <;> (try simp only [SD]at h))
                               · first
                                 | omega
                                 | ((refine bni ?_;repeat (refine bnk ?_;(try simp (disch:=first|omega|(simp only [LN];omega)) only [↓EC,EW,seval,↓reduceIte,↓ED,EE]))); exact ⟨_, _, rfl, by omega, by omega, _, rfl, by simp [h1]⟩)
                               · first
                                 | omega
                                 | ((refine bni ?_;repeat (refine bnk ?_;(try simp (disch:=first|omega|(simp only [LN];omega)) only [↓EC,EW,seval,↓reduceIte,↓ED,EE]))); exact ⟨(_, i' + 1, j' - 1), rfl, rfl, ⟨by simp [h1], by simp only; omega⟩, by simp only; omega⟩)
                           · (refine bni ?_;repeat (refine bnk ?_;(try simp (disch:=first|omega|(simp only [LN];omega)) only [↓EC,EW,seval,↓reduceIte,↓ED,EE])))
                             (refine Split.mB (fun h => ?_) (fun h => ?_) <;> (try simp only [SD]at h))
                             · first
                               | omega
                               | ((refine bni ?_;repeat (refine bnk ?_;(try simp (disch:=first|omega|(simp only [LN];omega)) only [↓EC,EW,seval,↓reduceIte,↓ED,EE]))); exact ⟨_, _, rfl, by omega, by omega, _, rfl, by simp [h1]⟩)
                             · first
                               | omega
                               | ((refine bni ?_;repeat (refine bnk ?_;(try simp (disch:=first|omega|(simp only [LN];omega)) only [↓EC,EW,seval,↓reduceIte,↓ED,EE]))); exact ⟨(_, i' + 1, j' - 1), rfl, rfl, ⟨by simp [h1], by simp only; omega⟩, by simp only; omega⟩))
          · (refine bni ?_;repeat (refine bnk ?_;(try simp (disch:=first|omega|(simp only [LN];omega)) only [↓EC,EW,seval,↓reduceIte,↓ED,EE])))
            (refine Split.mB (fun h => ?_) (fun h => ?_) <;> (try simp only [SD]at h))
            · first
              | omega
              | ((refine bni ?_;repeat (refine bnk ?_;(try simp (disch:=first|omega|(simp only [LN];omega)) only [↓EC,EW,seval,↓reduceIte,↓ED,EE]))); exact ⟨_, _, rfl, by omega, by omega, _, rfl, by simp [h1]⟩)
            · first
              | omega
              | (skip
                 (refine bni ?_;repeat (refine bnk ?_;(try simp (disch:=first|omega|(simp only [LN];omega)) only [↓EC,EW,seval,↓reduceIte,↓ED,EE])))
                 refine LPx_of (σ := List Int × Int × Int) 500000 [(0, 2, 1)] (fun s => [.int .i64 s.2.1, .int .i64 s.2.2]) (fun s => [vi .i64 s.1])
                   (fun s => s.1.length = n ∧ a + 1 ≤ s.2.1 ∧ s.2.1 ≤ s.2.2 + 2 ∧ s.2.2 ≤ b - 1 ∧ s.2.1 ≤ b ∧ a ≤ s.2.2) (fun s => (s.2.2 + 2 - s.2.1).toNat) ((m.set i'.toNat (gi m j'.toNat)).set j'.toNat (gi m i'.toNat), i' + 1, j' - 1) (by simp [frameOk, names, lpz, sclp, scv, scvs, nrfs, nrf, FRB]) ⟨by simp [h1], by simp only; omega⟩ ?_ ?_
                 · (refine bni ?_;repeat (refine bnk ?_;simp (disch:=first|omega|(simp only [LN];omega)) only [↓EC,EW,seval,↓reduceIte,↓ED,EE, CVd]))
                 · rintro ⟨m, i, j⟩ ⟨h1, h2, h3, h4, h9, h10⟩
                   simp only at h1 h2 h3 h4 h9 h10
                   (refine bni ?_;repeat (refine bnk ?_;simp (disch:=first|omega|(simp only [LN];omega)) only [↓EC,EW,seval,↓reduceIte,↓ED,EE, CVd, lhd]))
                   (refine bni ?_;repeat (refine bnk ?_;(try simp (disch:=first|omega|(simp only [LN];omega)) only [↓EC,EW,seval,↓reduceIte,↓ED,EE])))
                   refine LPx_of (σ := Int) 600000 [(0, 2, 1)] (fun s => [.int .i64 s]) (fun s => [vi .i64 m]) (fun s => i ≤ s ∧ (s ≤ j + 1 ∨ s = i)) (fun s => (j + 1 - s).toNat) (i) (by simp [frameOk, names, lpz, sclp, scv, scvs, nrfs, nrf, FRB]) (by omega) ?_ ?_
                   · (refine bni ?_;repeat (refine bnk ?_;simp (disch:=first|omega|(simp only [LN];omega)) only [↓EC,EW,seval,↓reduceIte,↓ED,EE, CVd]))
                   · rintro i' ⟨h5, h6⟩
                     (refine bni ?_;repeat (refine bnk ?_;simp (disch:=first|omega|(simp only [LN];omega)) only [↓EC,EW,seval,↓reduceIte,↓ED,EE, CVd, lhd]))
                     (refine Split.mB (fun h => ?_) (fun h => ?_) <;> (try simp only [SD]at h))
                     · (refine bni ?_;repeat (refine bnk ?_;(try simp (disch:=first|omega|(simp only [LN];omega)) only [↓EC,EW,seval,↓reduceIte,↓ED,EE])))
                       refine pcd_v c_less ?_
                       (refine bni ?_;repeat (refine bnk ?_;(try simp (disch:=first|omega|(simp only [LN];omega)) only [↓EC,EW,seval,↓reduceIte,↓ED,EE])))
                       (refine Split.mB (fun h => ?_) (fun h => ?_) <;> (try simp only [SD]at h))
                       · (refine bni ?_;repeat (refine bnk ?_;(try simp (disch:=first|omega|(simp only [LN];omega)) only [↓EC,EW,seval,↓reduceIte,↓ED,EE])))
                         exact ⟨i' + 1, rfl, by omega, by omega⟩
                       · (refine bni ?_;repeat (refine bnk ?_;(try simp (disch:=first|omega|(simp only [LN];omega)) only [↓EC,EW,seval,↓reduceIte,↓ED,EE])))
                         refine LPx_of (σ := Int) 700000 [(0, 2, 1)] (fun s => [.int .i64 s]) (fun s => [vi .i64 m]) (fun s => s ≤ j ∧ (i' ≤ s + 1 ∨ s = j)) (fun s => (s + 1 - i').toNat) (j) (by simp [frameOk, names, lpz, sclp, scv, scvs, nrfs, nrf, FRB]) (by omega) ?_ ?_
                         · (refine bni ?_;repeat (refine bnk ?_;simp (disch:=first|omega|(simp only [LN];omega)) only [↓EC,EW,seval,↓reduceIte,↓ED,EE, CVd]))
                         · rintro j' ⟨h7, h8⟩
                           (refine bni ?_;repeat (refine bnk ?_;simp (disch:=first|omega|(simp only [LN];omega)) only [↓EC,EW,seval,↓reduceIte,↓ED,EE, CVd, lhd]))
                           (refine Split.mB (fun h => ?_) (fun h => ?_) <;> (try simp only [SD]at h))
                           · (refine bni ?_;repeat (refine bnk ?_;(try simp (disch:=first|omega|(simp only [LN];omega)) only [↓EC,EW,seval,↓reduceIte,↓ED,EE])))
                             refine pcd_v c_less ?_
                             (refine bni ?_;repeat (refine bnk ?_;(try simp (disch:=first|omega|(simp only [LN];omega)) only [↓EC,EW,seval,↓reduceIte,↓ED,EE])))
                             (refine Split.mB (fun h => ?_) (fun h => ?_) <;> (try simp only [SD]at h))
                             · (refine bni ?_;repeat (refine bnk ?_;(try simp (disch:=first|omega|(simp only [LN];omega)) only [↓EC,EW,seval,↓reduceIte,↓ED,EE])))
                               exact ⟨j' - 1, rfl, by omega, by omega⟩
                             · (refine bni ?_;repeat (refine bnk ?_;(try simp (disch:=first|omega|(simp only [LN];omega)) only [↓EC,EW,seval,↓reduceIte,↓ED,EE])))
                               (refine Split.mB (fun h => ?_) (fun h => ?_) <;> (try simp only [SD]at h))
                               · first
                                 | omega
                                 | ((refine bni ?_;repeat (refine bnk ?_;(try simp (disch:=first|omega|(simp only [LN];omega)) only [↓EC,EW,seval,↓reduceIte,↓ED,EE]))); exact ⟨_, _, rfl, by omega, by omega, _, rfl, by simp [h1]⟩)
                               · first
                                 | omega
                                 | ((refine bni ?_;repeat (refine bnk ?_;(try simp (disch:=first|omega|(simp only [LN];omega)) only [↓EC,EW,seval,↓reduceIte,↓ED,EE]))); exact ⟨(_, i' + 1, j' - 1), rfl, rfl, ⟨by simp [h1], by simp only; omega⟩, by simp only; omega⟩)
                           · (refine bni ?_;repeat (refine bnk ?_;(try simp (disch:=first|omega|(simp only [LN];omega)) only [↓EC,EW,seval,↓reduceIte,↓ED,EE])))
                             (refine Split.mB (fun h => ?_) (fun h => ?_) <;> (try simp only [SD]at h))
                             · first
                               | omega
                               | ((refine bni ?_;repeat (refine bnk ?_;(try simp (disch:=first|omega|(simp only [LN];omega)) only [↓EC,EW,seval,↓reduceIte,↓ED,EE]))); exact ⟨_, _, rfl, by omega, by omega, _, rfl, by simp [h1]⟩)
                             · first
                               | omega
                               | ((refine bni ?_;repeat (refine bnk ?_;(try simp (disch:=first|omega|(simp only [LN];omega)) only [↓EC,EW,seval,↓reduceIte,↓ED,EE]))); exact ⟨(_, i' + 1, j' - 1), rfl, rfl, ⟨by simp [h1], by simp only; omega⟩, by simp only; omega⟩)
                     · (refine bni ?_;repeat (refine bnk ?_;(try simp (disch:=first|omega|(simp only [LN];omega)) only [↓EC,EW,seval,↓reduceIte,↓ED,EE])))
                       refine LPx_of (σ := Int) 700000 [(0, 2, 1)] (fun s => [.int .i64 s]) (fun s => [vi .i64 m]) (fun s => s ≤ j ∧ (i' ≤ s + 1 ∨ s = j)) (fun s => (s + 1 - i').toNat) (j) (by simp [frameOk, names, lpz, sclp, scv, scvs, nrfs, nrf, FRB]) (by omega) ?_ ?_
                       · (refine bni ?_;repeat (refine bnk ?_;simp (disch:=first|omega|(simp only [LN];omega)) only [↓EC,EW,seval,↓reduceIte,↓ED,EE, CVd]))
                       · rintro j' ⟨h7, h8⟩
                         (refine bni ?_;repeat (refine bnk ?_;simp (disch:=first|omega|(simp only [LN];omega)) only [↓EC,EW,seval,↓reduceIte,↓ED,EE, CVd, lhd]))
                         (refine Split.mB (fun h => ?_) (fun h => ?_) <;> (try simp only [SD]at h))
                         · (refine bni ?_;repeat (refine bnk ?_;(try simp (disch:=first|omega|(simp only [LN];omega)) only [↓EC,EW,seval,↓reduceIte,↓ED,EE])))
                           refine pcd_v c_less ?_
                           (refine bni ?_;repeat (refine bnk ?_;(try simp (disch:=first|omega|(simp only [LN];omega)) only [↓EC,EW,seval,↓reduceIte,↓ED,EE])))
                           (refine Split.mB (fun h => ?_) (fun h => ?_) <;> (try simp only [SD]at h))
                           · (refine bni ?_;repeat (refine bnk ?_;(try simp (disch:=first|omega|(simp only [LN];omega)) only [↓EC,EW,seval,↓reduceIte,↓ED,EE])))
                             exact ⟨j' - 1, rfl, by omega, by omega⟩
                           · (refine bni ?_;repeat (refine bnk ?_;(try simp (disch:=first|omega|(simp only [LN];omega)) only [↓EC,EW,seval,↓reduceIte,↓ED,EE])))
                             (refine Split.mB (fun h => ?_) (fun h => ?_) <;> (try simp only [SD]at h))
                             · first
                               | omega
                               | ((refine bni ?_;repeat (refine bnk ?_;(try simp (disch:=first|omega|(simp only [LN];omega)) only [↓EC,EW,seval,↓reduceIte,↓ED,EE]))); exact ⟨_, _, rfl, by omega, by omega, _, rfl, by simp [h1]⟩)
                             · first
                               | omega
                               | ((refine bni ?_;repeat (refine bnk ?_;(try simp (disch:=first|omega|(simp only [LN];omega)) only [↓EC,EW,seval,↓reduceIte,↓ED,EE]))); exact ⟨(_, i' + 1, j' - 1), rfl, rfl, ⟨by simp [h1], by simp only; omega⟩, by simp only; omega⟩)
                         · (refine bni ?_;repeat (refine bnk ?_;(try simp (disch:=first|omega|(simp only [LN];omega)) only [↓EC,EW,seval,↓reduceIte,↓ED,EE])))
                           (refine Split.mB (fun h => ?_) (fun h => ?_) <;> (try simp only [SD]at h))
                           · first
                             | omega
                             | ((refine bni ?_;repeat (refine bnk ?_;(try simp (disch:=first|omega|(simp only [LN];omega)) only [↓EC,EW,seval,↓reduceIte,↓ED,EE]))); exact ⟨_, _, rfl, by omega, by omega, _, rfl, by simp [h1]⟩)
                           · first
                             | omega
                             | ((refine bni ?_;repeat (refine bnk ?_;(try simp (disch:=first|omega|(simp only [LN];omega)) only [↓EC,EW,seval,↓reduceIte,↓ED,EE]))); exact ⟨(_, i' + 1, j' - 1), rfl, rfl, ⟨by simp [h1], by simp only; omega⟩, by simp only; omega⟩))
    · (refine bni ?_;repeat (refine bnk ?_;(try simp (disch:=first|omega|(simp only [LN];omega)) only [↓EC,EW,seval,↓reduceIte,↓ED,EE])))
      refine LPx_of (σ := Int) 300000 [(0, 2, 1)] (fun s => [.int .i64 s]) (fun s => [vi .i64 m]) (fun s => s ≤ b - 1 ∧ (i' ≤ s + 1 ∨ s = b - 1)) (fun s => (s + 1 - i').toNat) (b - 1) (by simp [frameOk, names, lpz, sclp, scv, scvs, nrfs, nrf, FRB]) (by omega) ?_ ?_
      · (refine bni ?_;repeat (refine bnk ?_;simp (disch:=first|omega|(simp only [LN];omega)) only [↓EC,EW,seval,↓reduceIte,↓ED,EE, CVd]))
      · rintro j' ⟨h7, h8⟩
        (refine bni ?_;repeat (refine bnk ?_;simp (disch:=first|omega|(simp only [LN];omega)) only [↓EC,EW,seval,↓reduceIte,↓ED,EE, CVd, lhd]))
        (refine Split.mB (fun h => ?_) (fun h => ?_) <;> (try simp only [SD]at h))
        · (refine bni ?_;repeat (refine bnk ?_;(try simp (disch:=first|omega|(simp only [LN];omega)) only [↓EC,EW,seval,↓reduceIte,↓ED,EE])))
          refine pcd_v c_less ?_
          (refine bni ?_;repeat (refine bnk ?_;(try simp (disch:=first|omega|(simp only [LN];omega)) only [↓EC,EW,seval,↓reduceIte,↓ED,EE])))
          (refine Split.mB (fun h => ?_) (fun h => ?_) <;> (try simp only [SD]at h))
          · (refine bni ?_;repeat (refine bnk ?_;(try simp (disch:=first|omega|(simp only [LN];omega)) only [↓EC,EW,seval,↓reduceIte,↓ED,EE])))
            exact ⟨j' - 1, rfl, by omega, by omega⟩
          · (refine bni ?_;repeat (refine bnk ?_;(try simp (disch:=first|omega|(simp only [LN];omega)) only [↓EC,EW,seval,↓reduceIte,↓ED,EE])))
            (refine Split.mB (fun h => ?_) (fun h => ?_) <;> (try simp only [SD]at h))
            · first
              | omega
              | ((refine bni ?_;repeat (refine bnk ?_;(try simp (disch:=first|omega|(simp only [LN];omega)) only [↓EC,EW,seval,↓reduceIte,↓ED,EE]))); exact ⟨_, _, rfl, by omega, by omega, _, rfl, by simp [h1]⟩)
            · first
              | omega
              | (skip
                 (refine bni ?_;repeat (refine bnk ?_;(try simp (disch:=first|omega|(simp only [LN];omega)) only [↓EC,EW,seval,↓reduceIte,↓ED,EE])))
                 refine LPx_of (σ := List Int × Int × Int) 500000 [(0, 2, 1)] (fun s => [.int .i64 s.2.1, .int .i64 s.2.2]) (fun s => [vi .i64 s.1])
                   (fun s => s.1.length = n ∧ a + 1 ≤ s.2.1 ∧ s.2.1 ≤ s.2.2 + 2 ∧ s.2.2 ≤ b - 1 ∧ s.2.1 ≤ b ∧ a ≤ s.2.2) (fun s => (s.2.2 + 2 - s.2.1).toNat) ((m.set i'.toNat (gi m j'.toNat)).set j'.toNat (gi m i'.toNat), i' + 1, j' - 1) (by simp [frameOk, names, lpz, sclp, scv, scvs, nrfs, nrf, FRB]) ⟨by simp [h1], by simp only; omega⟩ ?_ ?_
                 · (refine bni ?_;repeat (refine bnk ?_;simp (disch:=first|omega|(simp only [LN];omega)) only [↓EC,EW,seval,↓reduceIte,↓ED,EE, CVd]))
                 · rintro ⟨m, i, j⟩ ⟨h1, h2, h3, h4, h9, h10⟩
                   simp only at h1 h2 h3 h4 h9 h10
                   (refine bni ?_;repeat (refine bnk ?_;simp (disch:=first|omega|(simp only [LN];omega)) only [↓EC,EW,seval,↓reduceIte,↓ED,EE, CVd, lhd]))
                   (refine bni ?_;repeat (refine bnk ?_;(try simp (disch:=first|omega|(simp only [LN];omega)) only [↓EC,EW,seval,↓reduceIte,↓ED,EE])))
                   refine LPx_of (σ := Int) 600000 [(0, 2, 1)] (fun s => [.int .i64 s]) (fun s => [vi .i64 m]) (fun s => i ≤ s ∧ (s ≤ j + 1 ∨ s = i)) (fun s => (j + 1 - s).toNat) (i) (by simp [frameOk, names, lpz, sclp, scv, scvs, nrfs, nrf, FRB]) (by omega) ?_ ?_
                   · (refine bni ?_;repeat (refine bnk ?_;simp (disch:=first|omega|(simp only [LN];omega)) only [↓EC,EW,seval,↓reduceIte,↓ED,EE, CVd]))
                   · rintro i' ⟨h5, h6⟩
                     (refine bni ?_;repeat (refine bnk ?_;simp (disch:=first|omega|(simp only [LN];omega)) only [↓EC,EW,seval,↓reduceIte,↓ED,EE, CVd, lhd]))
                     (refine Split.mB (fun h => ?_) (fun h => ?_) <;> (try simp only [SD]at h))
                     · (refine bni ?_;repeat (refine bnk ?_;(try simp (disch:=first|omega|(simp only [LN];omega)) only [↓EC,EW,seval,↓reduceIte,↓ED,EE])))
                       refine pcd_v c_less ?_
                       (refine bni ?_;repeat (refine bnk ?_;(try simp (disch:=first|omega|(simp only [LN];omega)) only [↓EC,EW,seval,↓reduceIte,↓ED,EE])))
                       (refine Split.mB (fun h => ?_) (fun h => ?_) <;> (try simp only [SD]at h))
                       · (refine bni ?_;repeat (refine bnk ?_;(try simp (disch:=first|omega|(simp only [LN];omega)) only [↓EC,EW,seval,↓reduceIte,↓ED,EE])))
                         exact ⟨i' + 1, rfl, by omega, by omega⟩
                       · (refine bni ?_;repeat (refine bnk ?_;(try simp (disch:=first|omega|(simp only [LN];omega)) only [↓EC,EW,seval,↓reduceIte,↓ED,EE])))
                         refine LPx_of (σ := Int) 700000 [(0, 2, 1)] (fun s => [.int .i64 s]) (fun s => [vi .i64 m]) (fun s => s ≤ j ∧ (i' ≤ s + 1 ∨ s = j)) (fun s => (s + 1 - i').toNat) (j) (by simp [frameOk, names, lpz, sclp, scv, scvs, nrfs, nrf, FRB]) (by omega) ?_ ?_
                         · (refine bni ?_;repeat (refine bnk ?_;simp (disch:=first|omega|(simp only [LN];omega)) only [↓EC,EW,seval,↓reduceIte,↓ED,EE, CVd]))
                         · rintro j' ⟨h7, h8⟩
                           (refine bni ?_;repeat (refine bnk ?_;simp (disch:=first|omega|(simp only [LN];omega)) only [↓EC,EW,seval,↓reduceIte,↓ED,EE, CVd, lhd]))
                           (refine Split.mB (fun h => ?_) (fun h => ?_) <;> (try simp only [SD]at h))
                           · (refine bni ?_;repeat (refine bnk ?_;(try simp (disch:=first|omega|(simp only [LN];omega)) only [↓EC,EW,seval,↓reduceIte,↓ED,EE])))
                             refine pcd_v c_less ?_
                             (refine bni ?_;repeat (refine bnk ?_;(try simp (disch:=first|omega|(simp only [LN];omega)) only [↓EC,EW,seval,↓reduceIte,↓ED,EE])))
                             (refine Split.mB (fun h => ?_) (fun h => ?_) <;> (try simp only [SD]at h))
                             · (refine bni ?_;repeat (refine bnk ?_;(try simp (disch:=first|omega|(simp only [LN];omega)) only [↓EC,EW,seval,↓reduceIte,↓ED,EE])))
                               exact ⟨j' - 1, rfl, by omega, by omega⟩
                             · (refine bni ?_;repeat (refine bnk ?_;(try simp (disch:=first|omega|(simp only [LN];omega)) only [↓EC,EW,seval,↓reduceIte,↓ED,EE])))
                               (refine Split.mB (fun h => ?_) (fun h => ?_) <;> (try simp only [SD]at h))
                               · first
                                 | omega
                                 | ((refine bni ?_;repeat (refine bnk ?_;(try simp (disch:=first|omega|(simp only [LN];omega)) only [↓EC,EW,seval,↓reduceIte,↓ED,EE]))); exact ⟨_, _, rfl, by omega, by omega, _, rfl, by simp [h1]⟩)
                               · first
                                 | omega
                                 | ((refine bni ?_;repeat (refine bnk ?_;(try simp (disch:=first|omega|(simp only [LN];omega)) only [↓EC,EW,seval,↓reduceIte,↓ED,EE]))); exact ⟨(_, i' + 1, j' - 1), rfl, rfl, ⟨by simp [h1], by simp only; omega⟩, by simp only; omega⟩)
                           · (refine bni ?_;repeat (refine bnk ?_;(try simp (disch:=first|omega|(simp only [LN];omega)) only [↓EC,EW,seval,↓reduceIte,↓ED,EE])))
                             (refine Split.mB (fun h => ?_) (fun h => ?_) <;> (try simp only [SD]at h))
                             · first
                               | omega
                               | ((refine bni ?_;repeat (refine bnk ?_;(try simp (disch:=first|omega|(simp only [LN];omega)) only [↓EC,EW,seval,↓reduceIte,↓ED,EE]))); exact ⟨_, _, rfl, by omega, by omega, _, rfl, by simp [h1]⟩)
                             · first
                               | omega
                               | ((refine bni ?_;repeat (refine bnk ?_;(try simp (disch:=first|omega|(simp only [LN];omega)) only [↓EC,EW,seval,↓reduceIte,↓ED,EE]))); exact ⟨(_, i' + 1, j' - 1), rfl, rfl, ⟨by simp [h1], by simp only; omega⟩, by simp only; omega⟩)
                     · (refine bni ?_;repeat (refine bnk ?_;(try simp (disch:=first|omega|(simp only [LN];omega)) only [↓EC,EW,seval,↓reduceIte,↓ED,EE])))
                       refine LPx_of (σ := Int) 700000 [(0, 2, 1)] (fun s => [.int .i64 s]) (fun s => [vi .i64 m]) (fun s => s ≤ j ∧ (i' ≤ s + 1 ∨ s = j)) (fun s => (s + 1 - i').toNat) (j) (by simp [frameOk, names, lpz, sclp, scv, scvs, nrfs, nrf, FRB]) (by omega) ?_ ?_
                       · (refine bni ?_;repeat (refine bnk ?_;simp (disch:=first|omega|(simp only [LN];omega)) only [↓EC,EW,seval,↓reduceIte,↓ED,EE, CVd]))
                       · rintro j' ⟨h7, h8⟩
                         (refine bni ?_;repeat (refine bnk ?_;simp (disch:=first|omega|(simp only [LN];omega)) only [↓EC,EW,seval,↓reduceIte,↓ED,EE, CVd, lhd]))
                         (refine Split.mB (fun h => ?_) (fun h => ?_) <;> (try simp only [SD]at h))
                         · (refine bni ?_;repeat (refine bnk ?_;(try simp (disch:=first|omega|(simp only [LN];omega)) only [↓EC,EW,seval,↓reduceIte,↓ED,EE])))
                           refine pcd_v c_less ?_
                           (refine bni ?_;repeat (refine bnk ?_;(try simp (disch:=first|omega|(simp only [LN];omega)) only [↓EC,EW,seval,↓reduceIte,↓ED,EE])))
                           (refine Split.mB (fun h => ?_) (fun h => ?_) <;> (try simp only [SD]at h))
                           · (refine bni ?_;repeat (refine bnk ?_;(try simp (disch:=first|omega|(simp only [LN];omega)) only [↓EC,EW,seval,↓reduceIte,↓ED,EE])))
                             exact ⟨j' - 1, rfl, by omega, by omega⟩
                           · (refine bni ?_;repeat (refine bnk ?_;(try simp (disch:=first|omega|(simp only [LN];omega)) only [↓EC,EW,seval,↓reduceIte,↓ED,EE])))
                             (refine Split.mB (fun h => ?_) (fun h => ?_) <;> (try simp only [SD]at h))
                             · first
                               | omega
                               | ((refine bni ?_;repeat (refine bnk ?_;(try simp (disch:=first|omega|(simp only [LN];omega)) only [↓EC,EW,seval,↓reduceIte,↓ED,EE]))); exact ⟨_, _, rfl, by omega, by omega, _, rfl, by simp [h1]⟩)
                             · first
                               | omega
                               | ((refine bni ?_;repeat (refine bnk ?_;(try simp (disch:=first|omega|(simp only [LN];omega)) only [↓EC,EW,seval,↓reduceIte,↓ED,EE]))); exact ⟨(_, i' + 1, j' - 1), rfl, rfl, ⟨by simp [h1], by simp only; omega⟩, by simp only; omega⟩)
                         · (refine bni ?_;repeat (refine bnk ?_;(try simp (disch:=first|omega|(simp only [LN];omega)) only [↓EC,EW,seval,↓reduceIte,↓ED,EE])))
                           (refine Split.mB (fun h => ?_) (fun h => ?_) <;> (try simp only [SD]at h))
                           · first
                             | omega
                             | ((refine bni ?_;repeat (refine bnk ?_;(try simp (disch:=first|omega|(simp only [LN];omega)) only [↓EC,EW,seval,↓reduceIte,↓ED,EE]))); exact ⟨_, _, rfl, by omega, by omega, _, rfl, by simp [h1]⟩)
                           · first
                             | omega
                             | ((refine bni ?_;repeat (refine bnk ?_;(try simp (disch:=first|omega|(simp only [LN];omega)) only [↓EC,EW,seval,↓reduceIte,↓ED,EE]))); exact ⟨(_, i' + 1, j' - 1), rfl, rfl, ⟨by simp [h1], by simp only; omega⟩, by simp only; omega⟩))
        · (refine bni ?_;repeat (refine bnk ?_;(try simp (disch:=first|omega|(simp only [LN];omega)) only [↓EC,EW,seval,↓reduceIte,↓ED,EE])))
          (refine Split.mB (fun h => ?_) (fun h => ?_) <;> (try simp only [SD]at h))
          · first
            | omega
            | ((refine bni ?_;repeat (refine bnk ?_;(try simp (disch:=first|omega|(simp only [LN];omega)) only [↓EC,EW,seval,↓reduceIte,↓ED,EE]))); exact ⟨_, _, rfl, by omega, by omega, _, rfl, by simp [h1]⟩)
          · first
            | omega
            | (skip
               (refine bni ?_;repeat (refine bnk ?_;(try simp (disch:=first|omega|(simp only [LN];omega)) only [↓EC,EW,seval,↓reduceIte,↓ED,EE])))
               refine LPx_of (σ := List Int × Int × Int) 500000 [(0, 2, 1)] (fun s => [.int .i64 s.2.1, .int .i64 s.2.2]) (fun s => [vi .i64 s.1])
                 (fun s => s.1.length = n ∧ a + 1 ≤ s.2.1 ∧ s.2.1 ≤ s.2.2 + 2 ∧ s.2.2 ≤ b - 1 ∧ s.2.1 ≤ b ∧ a ≤ s.2.2) (fun s => (s.2.2 + 2 - s.2.1).toNat) ((m.set i'.toNat (gi m j'.toNat)).set j'.toNat (gi m i'.toNat), i' + 1, j' - 1) (by simp [frameOk, names, lpz, sclp, scv, scvs, nrfs, nrf, FRB]) ⟨by simp [h1], by simp only; omega⟩ ?_ ?_
               · (refine bni ?_;repeat (refine bnk ?_;simp (disch:=first|omega|(simp only [LN];omega)) only [↓EC,EW,seval,↓reduceIte,↓ED,EE, CVd]))
               · rintro ⟨m, i, j⟩ ⟨h1, h2, h3, h4, h9, h10⟩
                 simp only at h1 h2 h3 h4 h9 h10
                 (refine bni ?_;repeat (refine bnk ?_;simp (disch:=first|omega|(simp only [LN];omega)) only [↓EC,EW,seval,↓reduceIte,↓ED,EE, CVd, lhd]))
                 (refine bni ?_;repeat (refine bnk ?_;(try simp (disch:=first|omega|(simp only [LN];omega)) only [↓EC,EW,seval,↓reduceIte,↓ED,EE])))
                 refine LPx_of (σ := Int) 600000 [(0, 2, 1)] (fun s => [.int .i64 s]) (fun s => [vi .i64 m]) (fun s => i ≤ s ∧ (s ≤ j + 1 ∨ s = i)) (fun s => (j + 1 - s).toNat) (i) (by simp [frameOk, names, lpz, sclp, scv, scvs, nrfs, nrf, FRB]) (by omega) ?_ ?_
                 · (refine bni ?_;repeat (refine bnk ?_;simp (disch:=first|omega|(simp only [LN];omega)) only [↓EC,EW,seval,↓reduceIte,↓ED,EE, CVd]))
                 · rintro i' ⟨h5, h6⟩
                   (refine bni ?_;repeat (refine bnk ?_;simp (disch:=first|omega|(simp only [LN];omega)) only [↓EC,EW,seval,↓reduceIte,↓ED,EE, CVd, lhd]))
                   (refine Split.mB (fun h => ?_) (fun h => ?_) <;> (try simp only [SD]at h))
                   · (refine bni ?_;repeat (refine bnk ?_;(try simp (disch:=first|omega|(simp only [LN];omega)) only [↓EC,EW,seval,↓reduceIte,↓ED,EE])))
                     refine pcd_v c_less ?_
                     (refine bni ?_;repeat (refine bnk ?_;(try simp (disch:=first|omega|(simp only [LN];omega)) only [↓EC,EW,seval,↓reduceIte,↓ED,EE])))
                     (refine Split.mB (fun h => ?_) (fun h => ?_) <;> (try simp only [SD]at h))
                     · (refine bni ?_;repeat (refine bnk ?_;(try simp (disch:=first|omega|(simp only [LN];omega)) only [↓EC,EW,seval,↓reduceIte,↓ED,EE])))
                       exact ⟨i' + 1, rfl, by omega, by omega⟩
                     · (refine bni ?_;repeat (refine bnk ?_;(try simp (disch:=first|omega|(simp only [LN];omega)) only [↓EC,EW,seval,↓reduceIte,↓ED,EE])))
                       refine LPx_of (σ := Int) 700000 [(0, 2, 1)] (fun s => [.int .i64 s]) (fun s => [vi .i64 m]) (fun s => s ≤ j ∧ (i' ≤ s + 1 ∨ s = j)) (fun s => (s + 1 - i').toNat) (j) (by simp [frameOk, names, lpz, sclp, scv, scvs, nrfs, nrf, FRB]) (by omega) ?_ ?_
                       · (refine bni ?_;repeat (refine bnk ?_;simp (disch:=first|omega|(simp only [LN];omega)) only [↓EC,EW,seval,↓reduceIte,↓ED,EE, CVd]))
                       · rintro j' ⟨h7, h8⟩
                         (refine bni ?_;repeat (refine bnk ?_;simp (disch:=first|omega|(simp only [LN];omega)) only [↓EC,EW,seval,↓reduceIte,↓ED,EE, CVd, lhd]))
                         (refine Split.mB (fun h => ?_) (fun h => ?_) <;> (try simp only [SD]at h))
                         · (refine bni ?_;repeat (refine bnk ?_;(try simp (disch:=first|omega|(simp only [LN];omega)) only [↓EC,EW,seval,↓reduceIte,↓ED,EE])))
                           refine pcd_v c_less ?_
                           (refine bni ?_;repeat (refine bnk ?_;(try simp (disch:=first|omega|(simp only [LN];omega)) only [↓EC,EW,seval,↓reduceIte,↓ED,EE])))
                           (refine Split.mB (fun h => ?_) (fun h => ?_) <;> (try simp only [SD]at h))
                           · (refine bni ?_;repeat (refine bnk ?_;(try simp (disch:=first|omega|(simp only [LN];omega)) only [↓EC,EW,seval,↓reduceIte,↓ED,EE])))
                             exact ⟨j' - 1, rfl, by omega, by omega⟩
                           · (refine bni ?_;repeat (refine bnk ?_;(try simp (disch:=first|omega|(simp only [LN];omega)) only [↓EC,EW,seval,↓reduceIte,↓ED,EE])))
                             (refine Split.mB (fun h => ?_) (fun h => ?_) <;> (try simp only [SD]at h))
                             · first
                               | omega
                               | ((refine bni ?_;repeat (refine bnk ?_;(try simp (disch:=first|omega|(simp only [LN];omega)) only [↓EC,EW,seval,↓reduceIte,↓ED,EE]))); exact ⟨_, _, rfl, by omega, by omega, _, rfl, by simp [h1]⟩)
                             · first
                               | omega
                               | ((refine bni ?_;repeat (refine bnk ?_;(try simp (disch:=first|omega|(simp only [LN];omega)) only [↓EC,EW,seval,↓reduceIte,↓ED,EE]))); exact ⟨(_, i' + 1, j' - 1), rfl, rfl, ⟨by simp [h1], by simp only; omega⟩, by simp only; omega⟩)
                         · (refine bni ?_;repeat (refine bnk ?_;(try simp (disch:=first|omega|(simp only [LN];omega)) only [↓EC,EW,seval,↓reduceIte,↓ED,EE])))
                           (refine Split.mB (fun h => ?_) (fun h => ?_) <;> (try simp only [SD]at h))
                           · first
                             | omega
                             | ((refine bni ?_;repeat (refine bnk ?_;(try simp (disch:=first|omega|(simp only [LN];omega)) only [↓EC,EW,seval,↓reduceIte,↓ED,EE]))); exact ⟨_, _, rfl, by omega, by omega, _, rfl, by simp [h1]⟩)
                           · first
                             | omega
                             | ((refine bni ?_;repeat (refine bnk ?_;(try simp (disch:=first|omega|(simp only [LN];omega)) only [↓EC,EW,seval,↓reduceIte,↓ED,EE]))); exact ⟨(_, i' + 1, j' - 1), rfl, rfl, ⟨by simp [h1], by simp only; omega⟩, by simp only; omega⟩)
                   · (refine bni ?_;repeat (refine bnk ?_;(try simp (disch:=first|omega|(simp only [LN];omega)) only [↓EC,EW,seval,↓reduceIte,↓ED,EE])))
                     refine LPx_of (σ := Int) 700000 [(0, 2, 1)] (fun s => [.int .i64 s]) (fun s => [vi .i64 m]) (fun s => s ≤ j ∧ (i' ≤ s + 1 ∨ s = j)) (fun s => (s + 1 - i').toNat) (j) (by simp [frameOk, names, lpz, sclp, scv, scvs, nrfs, nrf, FRB]) (by omega) ?_ ?_
                     · (refine bni ?_;repeat (refine bnk ?_;simp (disch:=first|omega|(simp only [LN];omega)) only [↓EC,EW,seval,↓reduceIte,↓ED,EE, CVd]))
                     · rintro j' ⟨h7, h8⟩
                       (refine bni ?_;repeat (refine bnk ?_;simp (disch:=first|omega|(simp only [LN];omega)) only [↓EC,EW,seval,↓reduceIte,↓ED,EE, CVd, lhd]))
                       (refine Split.mB (fun h => ?_) (fun h => ?_) <;> (try simp only [SD]at h))
                       · (refine bni ?_;repeat (refine bnk ?_;(try simp (disch:=first|omega|(simp only [LN];omega)) only [↓EC,EW,seval,↓reduceIte,↓ED,EE])))
                         refine pcd_v c_less ?_
                         (refine bni ?_;repeat (refine bnk ?_;(try simp (disch:=first|omega|(simp only [LN];omega)) only [↓EC,EW,seval,↓reduceIte,↓ED,EE])))
                         (refine Split.mB (fun h => ?_) (fun h => ?_) <;> (try simp only [SD]at h))
                         · (refine bni ?_;repeat (refine bnk ?_;(try simp (disch:=first|omega|(simp only [LN];omega)) only [↓EC,EW,seval,↓reduceIte,↓ED,EE])))
                           exact ⟨j' - 1, rfl, by omega, by omega⟩
                         · (refine bni ?_;repeat (refine bnk ?_;(try simp (disch:=first|omega|(simp only [LN];omega)) only [↓EC,EW,seval,↓reduceIte,↓ED,EE])))
                           (refine Split.mB (fun h => ?_) (fun h => ?_) <;> (try simp only [SD]at h))
                           · first
                             | omega
                             | ((refine bni ?_;repeat (refine bnk ?_;(try simp (disch:=first|omega|(simp only [LN];omega)) only [↓EC,EW,seval,↓reduceIte,↓ED,EE]))); exact ⟨_, _, rfl, by omega, by omega, _, rfl, by simp [h1]⟩)
                           · first
                             | omega
                             | ((refine bni ?_;repeat (refine bnk ?_;(try simp (disch:=first|omega|(simp only [LN];omega)) only [↓EC,EW,seval,↓reduceIte,↓ED,EE]))); exact ⟨(_, i' + 1, j' - 1), rfl, rfl, ⟨by simp [h1], by simp only; omega⟩, by simp only; omega⟩)
                       · (refine bni ?_;repeat (refine bnk ?_;(try simp (disch:=first|omega|(simp only [LN];omega)) only [↓EC,EW,seval,↓reduceIte,↓ED,EE])))
                         (refine Split.mB (fun h => ?_) (fun h => ?_) <;> (try simp only [SD]at h))
                         · first
                           | omega
                           | ((refine bni ?_;repeat (refine bnk ?_;(try simp (disch:=first|omega|(simp only [LN];omega)) only [↓EC,EW,seval,↓reduceIte,↓ED,EE]))); exact ⟨_, _, rfl, by omega, by omega, _, rfl, by simp [h1]⟩)
                         · first
                           | omega
                           | ((refine bni ?_;repeat (refine bnk ?_;(try simp (disch:=first|omega|(simp only [LN];omega)) only [↓EC,EW,seval,↓reduceIte,↓ED,EE]))); exact ⟨(_, i' + 1, j' - 1), rfl, rfl, ⟨by simp [h1], by simp only; omega⟩, by simp only; omega⟩))
end
section
set_option maxHeartbeats 8000000
theorem and15 (A:BitVec IntKind.u64.bits):∃ q:Nat,q <= 15 /\ IntKind.i64.wrap (IntKind.u64.wrap ((A &&& BitVec.ofInt IntKind.u64.bits 15).toNat:Int)) = (q:Int):=by
 refine ⟨(A &&& BitVec.ofInt IntKind.u64.bits 15).toNat,?_,?_⟩
 ·rw [BitVec.toNat_and]
  exact Nat.le_trans Nat.and_le_right (by decide)
 ·have h:(A &&& BitVec.ofInt IntKind.u64.bits 15).toNat <= 15:=by
   rw [BitVec.toNat_and]
   exact Nat.le_trans Nat.and_le_right (by decide)
  generalize (A &&& BitVec.ofInt IntKind.u64.bits 15).toNat = q at *
  simp [IntKind.wrap,IntKind.signed,IntKind.bits]
  omega
theorem and31 (A:BitVec IntKind.u64.bits):∃ q:Nat,q <= 31 /\ IntKind.i64.wrap (IntKind.u64.wrap ((A &&& BitVec.ofInt IntKind.u64.bits 31).toNat:Int)) = (q:Int):=by
 refine ⟨(A &&& BitVec.ofInt IntKind.u64.bits 31).toNat,?_,?_⟩
 ·rw [BitVec.toNat_and]
  exact Nat.le_trans Nat.and_le_right (by decide)
 ·have h:(A &&& BitVec.ofInt IntKind.u64.bits 31).toNat <= 31:=by
   rw [BitVec.toNat_and]
   exact Nat.le_trans Nat.and_le_right (by decide)
  generalize (A &&& BitVec.ofInt IntKind.u64.bits 31).toNat = q at *
  simp [IntKind.wrap,IntKind.signed,IntKind.bits]
  omega
theorem c_Next {h:Int}:PSpecM Tryz.prog 146 [.ptr 0 0] [(0,148,1)] [[.int .u64 h]] fun v c=>∃ r h',v = .int .u64 r /\ c = [[.int .u64 h']]:=by
 refine slices_xorshift_Next_f.m rfl rfl ?_
 simp (disch:=first|omega|(simp only [LN];omega)) only [↓EC,EW,seval,↓reduceIte,slices_xorshift_Next_F]
 exact ⟨_,_,rfl,rfl⟩
theorem c_Len64N {k:Nat} (hk:k <= 16):PSpec Tryz.prog 143 [.int .u64 k] fun v=>∃ r,v = .int .i64 r /\ 0 <= r /\ r <= 5 /\ (8 <= k -> (k < 16 /\ r = 4 ∨ k = 16 /\ r = 5)):=by
 refine math_bits_Len64_f.f ?_
 rcases (by omega:k = 0 ∨ k = 1 ∨ k = 2 ∨ k = 3 ∨ k = 4 ∨ k = 5 ∨ k = 6 ∨ k = 7 ∨ k = 8 ∨ k = 9 ∨ k = 10 ∨ k = 11 ∨ k = 12 ∨ k = 13 ∨ k = 14 ∨ k = 15 ∨ k = 16) with
  rfl | rfl | rfl | rfl | rfl | rfl | rfl | rfl | rfl | rfl | rfl | rfl | rfl | rfl | rfl | rfl | rfl
 all_goals
  simp (config:={ maxSteps:=10000000 }) (disch:=first|omega|(simp only [LN];omega)) only [↓EC,EW,seval,↓reduceIte,math_bits_Len64_F]
  first
  | (refine ⟨_,rfl,?_,?_,?_⟩ <;> simp)
  | exact ⟨_,rfl,by decide,by decide⟩
theorem c_LenN {k:Nat} (hk:k <= 16):PSpec Tryz.prog 131 [.int .u64 k] fun v=>∃ r,v = .int .i64 r /\ 0 <= r /\ r <= 5 /\ (8 <= k -> (k < 16 /\ r = 4 ∨ k = 16 /\ r = 5)):=by
 refine math_bits_Len_f.f ?_
 simp (disch:=first|omega|(simp only [LN];omega)) only [↓EC,EW,seval,↓reduceIte,math_bits_Len_F]
 refine pcd_r (c_Len64N hk) ?_
 rintro _ ⟨r,rfl,h⟩
 (try simp (disch:=first|omega|(simp only [LN];omega)) only [↓EC,EW,seval,↓reduceIte])
 exact ⟨r,rfl,h⟩
theorem c_nextPow {k:Nat} (h8:8 <= k) (hk:k <= 16):PSpec Tryz.prog 145 [.int .i64 k] fun v=>k < 16 /\ v = .int .u64 16 ∨ k = 16 /\ v = .int .u64 32:=by
 refine slices_nextPowerOfTwo_f.f ?_
 simp (disch:=first|omega|(simp only [LN];omega)) only [↓EC,EW,seval,↓reduceIte,slices_nextPowerOfTwo_F]
 refine pcd_r (c_LenN hk) ?_
 rintro _ ⟨r,rfl,h1,h2,h3⟩
 rcases h3 h8 with ⟨h4,rfl⟩ | ⟨h4,rfl⟩
 ·(try simp (disch:=first|omega|(simp only [LN];omega)) only [↓EC,EW,seval,↓reduceIte])
  exact .inl ⟨h4,rfl⟩
 ·(try simp (disch:=first|omega|(simp only [LN];omega)) only [↓EC,EW,seval,↓reduceIte])
  exact .inr ⟨h4,rfl⟩
theorem c_breakPatterns {l:List Int} {n:Nat} {a b:Int} (hn:l.length = n) (h0:0 <= a) (hab:a + 13 <= b) (hb:b <= n) (hl:n <= 16):PSpecM Tryz.prog 135 [.rf 0 0 n,.int .i64 a,.int .i64 b] [(0,2,1)] [vi .i64 l] fun v c=>v = .tup [] /\ kp n c:=by
 refine slices_breakPatternsOrdered_int64_f.m rfl rfl ?_
 dsimp only [slices_breakPatternsOrdered_int64_F,pcal_B,pcalp_B,pcala_B,pcond_B,pgk_B,JN_B,LP_B]
 (refine bni ?_;repeat (refine bnk ?_;(try simp (disch:=first|omega|(simp only [LN];omega)) only [↓EC,EW,seval,↓reduceIte,↓ED,EE])))
 have hd:(b - a).tdiv 4 * 2 = 6 ∨ (b - a).tdiv 4 * 2 = 8:=by
  have h3:=Int.mul_tdiv_add_tmod (b - a) 4
  have h4:=Int.tmod_nonneg 4 (show 0 <= b - a by omega)
  have h5:=Int.tmod_lt_of_pos (b - a) (show (0:Int) < 4 by omega)
  omega
 have hd':3 <= (b - a).tdiv 4 /\ (b - a).tdiv 4 <= 4:=by omega
 obtain ⟨d,hdd⟩:∃ d,(b - a).tdiv 4 = d:=⟨_,rfl⟩
 rw [hdd] at hd hd'
 (refine Split.mB (fun h=>?_) (fun h=>?_) <;> (try simp only [SD]at h))
 rotate_left
 ·omega
 (refine bni ?_;repeat (refine bnk ?_;(try simp (disch:=first|omega|(simp only [LN];omega)) only [↓EC,EW,seval,↓reduceIte,↓ED,EE])))
 obtain ⟨k,hk⟩:∃ k:Nat,b - a = (k:Int):=⟨(b - a).toNat,by omega⟩
 have hk2:13 <= k /\ k <= 16:=by omega
 have hdk:(k:Int).tdiv 4 = d:=by rw [<-hk,hdd]
 rw [hk]
 refine pcd_r (c_nextPow (k:=k) (by omega) (by omega)) ?_
 rintro _ (⟨hk1,rfl⟩ | ⟨hk1,rfl⟩)
 ·(refine bni ?_;repeat (refine bnk ?_;(try simp (disch:=first|omega|(simp only [LN];omega)) only [↓EC,EW,seval,↓reduceIte,↓ED,EE,hdk])))
  refine LPx_of (σ:=(List Int × Int) × Int) 100000 [(0,2,1),(71,148,1)] (fun s=>[.int .i64 s.2]) (fun s=>[vi .i64 s.1.1,[.int .u64 s.1.2]])
   (fun s=>s.1.1.length = n /\ a <= s.2) (fun s=>(a + d * 2 + 2 - s.2).toNat) ((l,k),a + d * 2 - 1) (by simp [frameOk,names,lpz,sclp,scv,scvs,nrfs,nrf,FRB]) ⟨hn,by simp only; omega⟩ ?_ ?_
  ·(refine bni ?_;repeat (refine bnk ?_;simp (disch:=first|omega|(simp only [LN];omega)) only [↓EC,EW,seval,↓reduceIte,↓ED,EE,CVd]))
  ·rintro ⟨⟨m,h⟩,i⟩ ⟨h1,h2⟩
   simp only at h1 h2
   (refine bni ?_;repeat (refine bnk ?_;simp (disch:=first|omega|(simp only [LN];omega)) only [↓EC,EW,seval,↓reduceIte,↓ED,EE,CVd,lhd,hdk]))
   (refine Split.mB (fun h=>?_) (fun h=>?_) <;> (try simp only [SD]at h))
   ·(refine bni ?_;repeat (refine bnk ?_;(try simp (disch:=first|omega|(simp only [LN];omega)) only [↓EC,EW,seval,↓reduceIte,↓ED,EE])))
    refine pcm [71] rfl ?_
    (refine bni ?_;repeat (refine bnk ?_;(try simp (disch:=first|omega|(simp only [LN];omega)) only [↓EC,EW,seval,↓reduceIte,↓ED,EE])))
    refine callM_d c_Next ?_
    rintro _ _ ⟨r,h',rfl,rfl⟩
    (refine bni ?_;repeat (refine bnk ?_;(try simp (disch:=first|omega|(simp only [LN];omega)) only [↓EC,EW,seval,↓reduceIte,↓ED,EE])))
    obtain ⟨q,hq,e⟩:=and15 (BitVec.ofInt IntKind.u64.bits r)
    rw [e]
    refine JNx_un ?_
    (refine bni ?_;repeat (refine bnk ?_;(try simp (disch:=first|omega|(simp only [LN];omega)) only [↓EC,EW,seval,↓reduceIte,↓ED,EE])))
    (refine Split.mB (fun h=>?_) (fun h=>?_) <;> (try simp only [SD]at h))
    ·(refine bni ?_;repeat (refine bnk ?_;(try simp (disch:=first|omega|(simp only [LN];omega)) only [↓EC,EW,seval,↓reduceIte,↓ED,EE])))
     exact ⟨((_,h'),i + 1),rfl,rfl,⟨by simp [h1],by simp only; omega⟩,by simp only; omega⟩
    ·(refine bni ?_;repeat (refine bnk ?_;(try simp (disch:=first|omega|(simp only [LN];omega)) only [↓EC,EW,seval,↓reduceIte,↓ED,EE])))
     exact ⟨((_,h'),i + 1),rfl,rfl,⟨by simp [h1],by simp only; omega⟩,by simp only; omega⟩
   ·(refine bni ?_;repeat (refine bnk ?_;(try simp (disch:=first|omega|(simp only [LN];omega)) only [↓EC,EW,seval,↓reduceIte,↓ED,EE])))
    exact ⟨m,rfl,h1⟩
 ·(refine bni ?_;repeat (refine bnk ?_;(try simp (disch:=first|omega|(simp only [LN];omega)) only [↓EC,EW,seval,↓reduceIte,↓ED,EE,hdk])))
  refine LPx_of (σ:=(List Int × Int) × Int) 100000 [(0,2,1),(71,148,1)] (fun s=>[.int .i64 s.2]) (fun s=>[vi .i64 s.1.1,[.int .u64 s.1.2]])
   (fun s=>s.1.1.length = n /\ a <= s.2) (fun s=>(a + d * 2 + 2 - s.2).toNat) ((l,k),a + d * 2 - 1) (by simp [frameOk,names,lpz,sclp,scv,scvs,nrfs,nrf,FRB]) ⟨hn,by simp only; omega⟩ ?_ ?_
  ·(refine bni ?_;repeat (refine bnk ?_;simp (disch:=first|omega|(simp only [LN];omega)) only [↓EC,EW,seval,↓reduceIte,↓ED,EE,CVd]))
  ·rintro ⟨⟨m,h⟩,i⟩ ⟨h1,h2⟩
   simp only at h1 h2
   (refine bni ?_;repeat (refine bnk ?_;simp (disch:=first|omega|(simp only [LN];omega)) only [↓EC,EW,seval,↓reduceIte,↓ED,EE,CVd,lhd,hdk]))
   (refine Split.mB (fun h=>?_) (fun h=>?_) <;> (try simp only [SD]at h))
   ·(refine bni ?_;repeat (refine bnk ?_;(try simp (disch:=first|omega|(simp only [LN];omega)) only [↓EC,EW,seval,↓reduceIte,↓ED,EE])))
    refine pcm [71] rfl ?_
    (refine bni ?_;repeat (refine bnk ?_;(try simp (disch:=first|omega|(simp only [LN];omega)) only [↓EC,EW,seval,↓reduceIte,↓ED,EE])))
    refine callM_d c_Next ?_
    rintro _ _ ⟨r,h',rfl,rfl⟩
    (refine bni ?_;repeat (refine bnk ?_;(try simp (disch:=first|omega|(simp only [LN];omega)) only [↓EC,EW,seval,↓reduceIte,↓ED,EE])))
    obtain ⟨q,hq,e⟩:=and31 (BitVec.ofInt IntKind.u64.bits r)
    rw [e]
    refine JNx_un ?_
    (refine bni ?_;repeat (refine bnk ?_;(try simp (disch:=first|omega|(simp only [LN];omega)) only [↓EC,EW,seval,↓reduceIte,↓ED,EE])))
    (refine Split.mB (fun h=>?_) (fun h=>?_) <;> (try simp only [SD]at h))
    ·(refine bni ?_;repeat (refine bnk ?_;(try simp (disch:=first|omega|(simp only [LN];omega)) only [↓EC,EW,seval,↓reduceIte,↓ED,EE])))
     exact ⟨((_,h'),i + 1),rfl,rfl,⟨by simp [h1],by simp only; omega⟩,by simp only; omega⟩
    ·(refine bni ?_;repeat (refine bnk ?_;(try simp (disch:=first|omega|(simp only [LN];omega)) only [↓EC,EW,seval,↓reduceIte,↓ED,EE])))
     exact ⟨((_,h'),i + 1),rfl,rfl,⟨by simp [h1],by simp only; omega⟩,by simp only; omega⟩
   ·(refine bni ?_;repeat (refine bnk ?_;(try simp (disch:=first|omega|(simp only [LN];omega)) only [↓EC,EW,seval,↓reduceIte,↓ED,EE])))
    exact ⟨m,rfl,h1⟩
theorem JNx_of {F:(List V -> Hp -> Prop) -> Prop} {G:List V -> Hp -> Prop} {u:Hide F} {v:Hide G} (I:List V -> Hp -> Prop) (hF:∀ K:List V -> Hp -> Prop,(∀ o h,I o h -> K o h) -> F K) (hG:∀ o h,I o h -> G o h):JNx F G u v:=hF G hG
theorem c_pdqsortN {n:Nat} (hl:n <= 16):∀ (c:Nat) {l:List Int} {a b k:Int},(b - a).toNat = c -> l.length = n -> 0 <= a -> a <= b -> b <= n -> 0 <= k /\ k <= 5 ->
  PSpecM Tryz.prog 130 [.rf 0 0 n,.int .i64 a,.int .i64 b,.int .i64 k] [(0,2,1)] [vi .i64 l] fun v c=>v = .tup [] /\ kp n c:=by
 intro c
 induction c using Nat.strongRecOn with
 | ind c ih =>
 intro l a0 b0 k0 hc hn h0 hab hb hk
 refine slices_pdqsortOrdered_int64_f.m rfl rfl ?_
 dsimp only [slices_pdqsortOrdered_int64_F,pcal_B,pcalp_B,pcala_B,pcond_B,pgk_B,JN_B,LP_B]
 (refine bni ?_;repeat (refine bnk ?_;(try simp (disch:=first|omega|(simp only [LN];omega)) only [↓EC,EW,seval,↓reduceIte,↓ED,EE])))
 refine LPx_of (σ:=List Int × (Int × Int × Int) × Bool × Bool) 100000 [(0,2,1)] (fun s=>[.int .i64 s.2.1.1,.int .i64 s.2.1.2.1,.int .i64 s.2.1.2.2,.bool s.2.2.1,.bool s.2.2.2]) (fun s=>[vi .i64 s.1])
  (fun s=>s.1.length = n /\ 0 <= s.2.1.1 /\ s.2.1.1 <= s.2.1.2.1 /\ s.2.1.2.1 <= n /\ (s.2.1.2.1 - s.2.1.1).toNat <= c /\ 0 <= s.2.1.2.2 /\ s.2.1.2.2 <= 5) (fun s=>(s.2.1.2.1 - s.2.1.1).toNat) (l,(a0,b0,k0),true,true) (by simp [frameOk,names,lpz,sclp,scv,scvs,nrfs,nrf,FRB]) ⟨hn,h0,hab,hb,by simp only; omega,hk⟩ ?_ ?_
 ·(refine bni ?_;repeat (refine bnk ?_;simp (disch:=first|omega|(simp only [LN];omega)) only [↓EC,EW,seval,↓reduceIte,↓ED,EE,CVd]))
 ·rintro ⟨m,⟨a,b,k⟩,w,p⟩ ⟨h1,h2,h3,h4,h5,h6,h7⟩
  simp only at h1 h2 h3 h4 h5 h6 h7
  (refine bni ?_;repeat (refine bnk ?_;simp (disch:=first|omega|(simp only [LN];omega)) only [↓EC,EW,seval,↓reduceIte,↓ED,EE,CVd,lhd]))
  (refine Split.mB (fun h=>?_) (fun h=>?_) <;> (try simp only [SD]at h))
  ·(refine bni ?_;repeat (refine bnk ?_;(try simp (disch:=first|omega|(simp only [LN];omega)) only [↓EC,EW,seval,↓reduceIte,↓ED,EE])))
   refine pcm [0] rfl ?_; (refine bni ?_;repeat (refine bnk ?_;(try simp (disch:=first|omega|(simp only [LN];omega)) only [↓EC,EW,seval,↓reduceIte,↓ED,EE])))
   refine callM_d (c_insertionSortN (a:=a) (b:=b) h1 (by omega) (by omega) (by omega)) ?_
   rintro _ _ ⟨rfl,m',rfl,hm'⟩
   (refine bni ?_;repeat (refine bnk ?_;(try simp (disch:=first|omega|(simp only [LN];omega)) only [↓EC,EW,seval,↓reduceIte,↓ED,EE])))
   exact ⟨m',rfl,hm'⟩
  ·(refine bni ?_;repeat (refine bnk ?_;(try simp (disch:=first|omega|(simp only [LN];omega)) only [↓EC,EW,seval,↓reduceIte,↓ED,EE])))
   (refine Split.mB (fun h=>?_) (fun h=>?_) <;> (try simp only [SD]at h))
   ·(refine bni ?_;repeat (refine bnk ?_;(try simp (disch:=first|omega|(simp only [LN];omega)) only [↓EC,EW,seval,↓reduceIte,↓ED,EE])))
    refine pcm [0] rfl ?_; (refine bni ?_;repeat (refine bnk ?_;(try simp (disch:=first|omega|(simp only [LN];omega)) only [↓EC,EW,seval,↓reduceIte,↓ED,EE])))
    refine callM_d (c_heapSort (a:=a) (b:=b) h1 (by omega) (by omega) (by omega) (by omega)) ?_
    rintro _ _ ⟨rfl,m',rfl,hm'⟩
    (refine bni ?_;repeat (refine bnk ?_;(try simp (disch:=first|omega|(simp only [LN];omega)) only [↓EC,EW,seval,↓reduceIte,↓ED,EE])))
    exact ⟨m',rfl,hm'⟩
   ·(refine bni ?_;repeat (refine bnk ?_;(try simp (disch:=first|omega|(simp only [LN];omega)) only [↓EC,EW,seval,↓reduceIte,↓ED,EE])))
    refine JNx_of (fun o h=>∃ (m:List Int) (k:Int) (h':Hp),o = [.rf 0 0 n,.int .i64 a,.int .i64 b,.int .i64 k,.bool w,.bool p,.int .i64 (b - a)] /\ h = hput h' 0 (.row 2 1 (vi .i64 m)) /\ m.length = n /\ 0 <= k /\ k <= 5) ?_ ?_
    ·intro K hK
     (refine bni ?_;repeat (refine bnk ?_;(try simp (disch:=first|omega|(simp only [LN];omega)) only [↓EC,EW,seval,↓reduceIte,↓ED,EE])))
     (refine Split.mB (fun h=>?_) (fun h=>?_) <;> (try simp only [SD]at h))
     ·(refine bni ?_;repeat (refine bnk ?_;(try simp (disch:=first|omega|(simp only [LN];omega)) only [↓EC,EW,seval,↓reduceIte,↓ED,EE])))
      refine pcm [0] rfl ?_; (refine bni ?_;repeat (refine bnk ?_;(try simp (disch:=first|omega|(simp only [LN];omega)) only [↓EC,EW,seval,↓reduceIte,↓ED,EE])))
      refine callM_d (c_breakPatterns (a:=a) (b:=b) h1 (by omega) (by omega) (by omega) (by omega)) ?_
      rintro _ _ ⟨rfl,m',rfl,hm'⟩
      (refine bni ?_;repeat (refine bnk ?_;(try simp (disch:=first|omega|(simp only [LN];omega)) only [↓EC,EW,seval,↓reduceIte,↓ED,EE])))
      exact hK _ _ ⟨m',k - 1,_,rfl,rfl,hm',by omega,by omega⟩
     ·(refine bni ?_;repeat (refine bnk ?_;(try simp (disch:=first|omega|(simp only [LN];omega)) only [↓EC,EW,seval,↓reduceIte,↓ED,EE])))
      exact hK _ _ ⟨m,k,_,rfl,rfl,h1,by omega,by omega⟩
    ·rintro _ _ ⟨m,k,h',rfl,rfl,h1,h6,h7⟩
     (refine bni ?_;repeat (refine bnk ?_;(try simp (disch:=first|omega|(simp only [LN];omega)) only [↓EC,EW,seval,↓reduceIte,↓ED,EE])))
     refine pcd_r (c_choosePivot (a:=a) (b:=b) h1 (by omega) (by omega) (by omega) (by omega)) ?_
     rintro _ ⟨x,y,rfl,hx,hx',hy,hy'⟩
     (refine bni ?_;repeat (refine bnk ?_;(try simp (disch:=first|omega|(simp only [LN];omega)) only [↓EC,EW,seval,↓reduceIte,↓ED,EE])))
     refine JNx_of (fun o h=>∃ (m:List Int) (w p:Bool) (x y:Int) (h':Hp),o = [.rf 0 0 n,.int .i64 a,.int .i64 b,.int .i64 k,.bool w,.bool p,.int .i64 (b - a),.int .i64 x,.int .i64 y] /\ h = hput h' 0 (.row 2 1 (vi .i64 m)) /\ m.length = n /\ a <= x /\ x < b) ?_ ?_
     ·intro K hK
      (refine bni ?_;repeat (refine bnk ?_;(try simp (disch:=first|omega|(simp only [LN];omega)) only [↓EC,EW,seval,↓reduceIte,↓ED,EE])))
      (refine Split.mB (fun h=>?_) (fun h=>?_) <;> (try simp only [SD]at h))
      ·(refine bni ?_;repeat (refine bnk ?_;(try simp (disch:=first|omega|(simp only [LN];omega)) only [↓EC,EW,seval,↓reduceIte,↓ED,EE])))
       refine pcm [0] rfl ?_; (refine bni ?_;repeat (refine bnk ?_;(try simp (disch:=first|omega|(simp only [LN];omega)) only [↓EC,EW,seval,↓reduceIte,↓ED,EE])))
       refine callM_d (c_reverseRange (a:=a) (b:=b) h1 (by omega) (by omega) (by omega)) ?_
       rintro _ _ ⟨rfl,m',rfl,hm'⟩
       (refine bni ?_;repeat (refine bnk ?_;(try simp (disch:=first|omega|(simp only [LN];omega)) only [↓EC,EW,seval,↓reduceIte,↓ED,EE])))
       exact hK _ _ ⟨m',w,p,_,_,_,rfl,rfl,hm',by omega,by omega⟩
      ·(refine bni ?_;repeat (refine bnk ?_;(try simp (disch:=first|omega|(simp only [LN];omega)) only [↓EC,EW,seval,↓reduceIte,↓ED,EE])))
       exact hK _ _ ⟨m,w,p,_,_,_,rfl,rfl,h1,by omega,by omega⟩
     ·rintro _ _ ⟨m,w,p,x,y,h',rfl,rfl,h1,hx,hx'⟩
      (refine bni ?_;repeat (refine bnk ?_;(try simp (disch:=first|omega|(simp only [LN];omega)) only [↓EC,EW,seval,↓reduceIte,↓ED,EE])))
      refine JNx_of (fun o h=>∃ (m:List Int) (h':Hp),o = [.rf 0 0 n,.int .i64 a,.int .i64 b,.int .i64 k,.bool w,.bool p,.int .i64 (b - a),.int .i64 x] /\ h = hput h' 0 (.row 2 1 (vi .i64 m)) /\ m.length = n) ?_ ?_
      ·intro K hK
       cases w
       ·(refine bni ?_;repeat (refine bnk ?_;(try simp (disch:=first|omega|(simp only [LN];omega)) only [↓EC,EW,seval,↓reduceIte,↓ED,EE])))
        exact hK _ _ ⟨m,_,rfl,rfl,h1⟩
       ·cases p
        ·(refine bni ?_;repeat (refine bnk ?_;(try simp (disch:=first|omega|(simp only [LN];omega)) only [↓EC,EW,seval,↓reduceIte,↓ED,EE])))
         exact hK _ _ ⟨m,_,rfl,rfl,h1⟩
        ·(refine bni ?_;repeat (refine bnk ?_;(try simp (disch:=first|omega|(simp only [LN];omega)) only [↓EC,EW,seval,↓reduceIte,↓ED,EE])))
         (refine Split.mB (fun h=>?_) (fun h=>?_) <;> (try simp only [SD]at h))
         ·(refine bni ?_;repeat (refine bnk ?_;(try simp (disch:=first|omega|(simp only [LN];omega)) only [↓EC,EW,seval,↓reduceIte,↓ED,EE])))
          refine pcd_r (c_partialInsertion (a:=a) (b:=b) h1 (by omega) (by omega) (by omega) (by omega)) ?_
          rintro _ ⟨r,rfl⟩
          cases r
          ·(refine bni ?_;repeat (refine bnk ?_;(try simp (disch:=first|omega|(simp only [LN];omega)) only [↓EC,EW,seval,↓reduceIte,↓ED,EE])))
           exact hK _ _ ⟨m,_,rfl,rfl,h1⟩
          ·(refine bni ?_;repeat (refine bnk ?_;(try simp (disch:=first|omega|(simp only [LN];omega)) only [↓EC,EW,seval,↓reduceIte,↓ED,EE])))
           exact ⟨m,rfl,h1⟩
         ·(refine bni ?_;repeat (refine bnk ?_;(try simp (disch:=first|omega|(simp only [LN];omega)) only [↓EC,EW,seval,↓reduceIte,↓ED,EE])))
          exact hK _ _ ⟨m,_,rfl,rfl,h1⟩
      ·rintro _ _ ⟨m,h',rfl,rfl,h1⟩
       (refine bni ?_;repeat (refine bnk ?_;(try simp (disch:=first|omega|(simp only [LN];omega)) only [↓EC,EW,seval,↓reduceIte,↓ED,EE])))
       (refine Split.mB (fun h=>?_) (fun h=>?_) <;> (try simp only [SD]at h))
       ·(refine bni ?_;repeat (refine bnk ?_;(try simp (disch:=first|omega|(simp only [LN];omega)) only [↓EC,EW,seval,↓reduceIte,↓ED,EE])))
        refine pcd_v c_less ?_
        (refine bni ?_;repeat (refine bnk ?_;(try simp (disch:=first|omega|(simp only [LN];omega)) only [↓EC,EW,seval,↓reduceIte,↓ED,EE])))
        (refine Split.mB (fun h=>?_) (fun h=>?_) <;> (try simp only [SD]at h))
        ·(refine bni ?_;repeat (refine bnk ?_;(try simp (disch:=first|omega|(simp only [LN];omega)) only [↓EC,EW,seval,↓reduceIte,↓ED,EE])))
         refine pcm [0] rfl ?_; (refine bni ?_;repeat (refine bnk ?_;(try simp (disch:=first|omega|(simp only [LN];omega)) only [↓EC,EW,seval,↓reduceIte,↓ED,EE])))
         refine callM_d (c_partitionEqual (a:=a) (b:=b) (p:=x) h1 (by omega) (by omega) (by omega) (by omega) (by omega)) ?_
         rintro _ _ ⟨x',rfl,hy1,hy2,m',rfl,hm'⟩
         (refine bni ?_;repeat (refine bnk ?_;(try simp (disch:=first|omega|(simp only [LN];omega)) only [↓EC,EW,seval,↓reduceIte,↓ED,EE])))
         exact ⟨(m',(x',b,k),w,p),rfl,rfl,⟨hm',by simp only; omega⟩,by simp only; omega⟩
        ·(refine bni ?_;repeat (refine bnk ?_;(try simp (disch:=first|omega|(simp only [LN];omega)) only [↓EC,EW,seval,↓reduceIte,↓ED,EE])))
         refine pcm [0] rfl ?_; (refine bni ?_;repeat (refine bnk ?_;(try simp (disch:=first|omega|(simp only [LN];omega)) only [↓EC,EW,seval,↓reduceIte,↓ED,EE])))
         refine callM_d (c_partition (a:=a) (b:=b) (p:=x) h1 (by omega) (by omega) (by omega) (by omega) (by omega)) ?_
         rintro _ _ ⟨x',r,rfl,hy1,hy2,m',rfl,hm'⟩
         (refine bni ?_;repeat (refine bnk ?_;(try simp (disch:=first|omega|(simp only [LN];omega)) only [↓EC,EW,seval,↓reduceIte,↓ED,EE])))
         (refine Split.mB (fun h=>?_) (fun h=>?_) <;> (try simp only [SD]at h))
         ·(refine bni ?_;repeat (refine bnk ?_;(try simp (disch:=first|omega|(simp only [LN];omega)) only [↓EC,EW,seval,↓reduceIte,↓ED,EE])))
          refine pcm [0] rfl ?_; (refine bni ?_;repeat (refine bnk ?_;(try simp (disch:=first|omega|(simp only [LN];omega)) only [↓EC,EW,seval,↓reduceIte,↓ED,EE])))
          refine callM_d (ih (x' - a).toNat (by omega) (l:=m') (a:=a) (b:=x') (k:=k) rfl hm' (by omega) (by omega) (by omega) (by omega)) ?_
          rintro _ _ ⟨rfl,m'',rfl,hm''⟩
          (refine bni ?_;repeat (refine bnk ?_;(try simp (disch:=first|omega|(simp only [LN];omega)) only [↓EC,EW,seval,↓reduceIte,↓ED,EE])))
          exact ⟨(m'',(x' + 1,b,k),_,r),rfl,rfl,⟨hm'',by simp only; omega⟩,by simp only; omega⟩
         ·(refine bni ?_;repeat (refine bnk ?_;(try simp (disch:=first|omega|(simp only [LN];omega)) only [↓EC,EW,seval,↓reduceIte,↓ED,EE])))
          refine pcm [0] rfl ?_; (refine bni ?_;repeat (refine bnk ?_;(try simp (disch:=first|omega|(simp only [LN];omega)) only [↓EC,EW,seval,↓reduceIte,↓ED,EE])))
          refine callM_d (ih (b - (x' + 1)).toNat (by omega) (l:=m') (a:=x' + 1) (b:=b) (k:=k) rfl hm' (by omega) (by omega) (by omega) (by omega)) ?_
          rintro _ _ ⟨rfl,m'',rfl,hm''⟩
          (refine bni ?_;repeat (refine bnk ?_;(try simp (disch:=first|omega|(simp only [LN];omega)) only [↓EC,EW,seval,↓reduceIte,↓ED,EE])))
          exact ⟨(m'',(a,x',k),_,r),rfl,rfl,⟨hm'',by simp only; omega⟩,by simp only; omega⟩
       ·(refine bni ?_;repeat (refine bnk ?_;(try simp (disch:=first|omega|(simp only [LN];omega)) only [↓EC,EW,seval,↓reduceIte,↓ED,EE])))
        refine pcm [0] rfl ?_; (refine bni ?_;repeat (refine bnk ?_;(try simp (disch:=first|omega|(simp only [LN];omega)) only [↓EC,EW,seval,↓reduceIte,↓ED,EE])))
        refine callM_d (c_partition (a:=a) (b:=b) (p:=x) h1 (by omega) (by omega) (by omega) (by omega) (by omega)) ?_
        rintro _ _ ⟨x',r,rfl,hy1,hy2,m',rfl,hm'⟩
        (refine bni ?_;repeat (refine bnk ?_;(try simp (disch:=first|omega|(simp only [LN];omega)) only [↓EC,EW,seval,↓reduceIte,↓ED,EE])))
        (refine Split.mB (fun h=>?_) (fun h=>?_) <;> (try simp only [SD]at h))
        ·(refine bni ?_;repeat (refine bnk ?_;(try simp (disch:=first|omega|(simp only [LN];omega)) only [↓EC,EW,seval,↓reduceIte,↓ED,EE])))
         refine pcm [0] rfl ?_; (refine bni ?_;repeat (refine bnk ?_;(try simp (disch:=first|omega|(simp only [LN];omega)) only [↓EC,EW,seval,↓reduceIte,↓ED,EE])))
         refine callM_d (ih (x' - a).toNat (by omega) (l:=m') (a:=a) (b:=x') (k:=k) rfl hm' (by omega) (by omega) (by omega) (by omega)) ?_
         rintro _ _ ⟨rfl,m'',rfl,hm''⟩
         (refine bni ?_;repeat (refine bnk ?_;(try simp (disch:=first|omega|(simp only [LN];omega)) only [↓EC,EW,seval,↓reduceIte,↓ED,EE])))
         exact ⟨(m'',(x' + 1,b,k),_,r),rfl,rfl,⟨hm'',by simp only; omega⟩,by simp only; omega⟩
        ·(refine bni ?_;repeat (refine bnk ?_;(try simp (disch:=first|omega|(simp only [LN];omega)) only [↓EC,EW,seval,↓reduceIte,↓ED,EE])))
         refine pcm [0] rfl ?_; (refine bni ?_;repeat (refine bnk ?_;(try simp (disch:=first|omega|(simp only [LN];omega)) only [↓EC,EW,seval,↓reduceIte,↓ED,EE])))
         refine callM_d (ih (b - (x' + 1)).toNat (by omega) (l:=m') (a:=x' + 1) (b:=b) (k:=k) rfl hm' (by omega) (by omega) (by omega) (by omega)) ?_
         rintro _ _ ⟨rfl,m'',rfl,hm''⟩
         (refine bni ?_;repeat (refine bnk ?_;(try simp (disch:=first|omega|(simp only [LN];omega)) only [↓EC,EW,seval,↓reduceIte,↓ED,EE])))
         exact ⟨(m'',(a,x',k),_,r),rfl,rfl,⟨hm'',by simp only; omega⟩,by simp only; omega⟩
end
section
set_option maxHeartbeats 4000000
def swL (m:List Int) (i j:Nat):List Int:=(m.set i (gi m j)).set j (gi m i)
theorem swL_len {m:List Int} {i j:Nat}:(swL m i j).length = m.length:=by simp [swL]
theorem swL_at {m:List Int} {i j t:Nat} (hi:i < m.length) (hj:j < m.length):gi (swL m i j) t = if t = j then gi m i else if t = i then gi m j else gi m t:=by
 unfold swL
 rw [gi_set,gi_set,List.length_set]
 repeat' split
 all_goals first | rfl | omega
inductive Sw (a b:Int):List Int -> List Int -> Prop
 | refl (l:List Int):Sw a b l l
 | step {l m:List Int} {i j:Nat}:Sw a b l m -> (a <= i /\ (i:Int) < b) -> (a <= j /\ (j:Int) < b) -> i < m.length -> j < m.length -> Sw a b l (swL m i j)
section
variable {a b:Int} {l m k:List Int}
theorem Sw.len (h:Sw a b l m):m.length = l.length:=by
 induction h with
 | refl=>rfl
 | step _ _ _ _ _ ih=>rw [swL_len,ih]
theorem Sw.trans (h:Sw a b l m) (h':Sw a b m k):Sw a b l k:=by
 induction h' with
 | refl=>exact h
 | step _ h1 h2 h3 h4 ih=>exact .step ih h1 h2 h3 h4
theorem Sw.wide {a' b':Int} (h:Sw a b l m) (ha:a' <= a) (hb:b <= b'):Sw a' b' l m:=by
 induction h with
 | refl=>exact .refl _
 | step _ h1 h2 h3 h4 ih=>exact .step ih ⟨by omega,by omega⟩ ⟨by omega,by omega⟩ h3 h4
theorem Sw.out (h:Sw a b l m) {t:Nat} (ht:(t:Int) < a ∨ b <= t):gi m t = gi l t:=by
 induction h with
 | refl=>rfl
 | step _ h1 h2 h3 h4 ih=>rw [swL_at h3 h4,if_neg (by omega),if_neg (by omega),ih]
theorem Sw.all (h:Sw a b l m) {Q:Int -> Prop} (hQ:∀ t:Nat,a <= t -> (t:Int) < b -> Q (gi l t)):∀ t:Nat,a <= t -> (t:Int) < b -> Q (gi m t):=by
 induction h with
 | refl=>exact hQ
 | step _ h1 h2 h3 h4 ih =>
  intro t ha hb
  rw [swL_at h3 h4]
  split
  ·exact ih _ h1.1 h1.2
  ·split
   ·exact ih _ h2.1 h2.2
   ·exact ih t ha hb
theorem count_set {l:List Int} {i:Nat} {x c:Int} (hi:i < l.length):(l.set i x).count c + (if gi l i = c then 1 else 0) = l.count c + if x = c then 1 else 0:=by
 have e:l = l.take i ++ gi l i :: l.drop (i + 1):=by
  conv=>lhs; rw [<-List.take_append_drop i l,drop_getD (d:=0) hi]
  rfl
 have e2:l.set i x = l.take i ++ x :: l.drop (i + 1):=by
  rw [List.set_eq_take_append_cons_drop,if_pos hi]
 rw [e2]
 conv=>rhs; rw [e]
 rw [List.count_append,List.count_append,List.count_cons,List.count_cons]
 simp only [beq_iff_eq]
 omega
theorem Sw.cnt (h:Sw a b l m) (c:Int):m.count c = l.count c:=by
 induction h with
 | refl=>rfl
 | step _ h1 h2 h3 h4 ih =>
  rename_i m' i j _
  unfold swL
  have k1:=count_set (l:=m') (i:=i) (x:=gi m' j) (c:=c) h3
  have k2:=count_set (l:=m'.set i (gi m' j)) (i:=j) (x:=gi m' i) (c:=c) (by simpa using h4)
  rw [gi_set] at k2
  have e:(if i = j /\ j < m'.length then gi m' j else gi m' j) = gi m' j:=ite_self _
  rw [e] at k2
  omega
def Srt (a b:Int) (l:List Int):Prop:=∀ i j:Nat,a <= i -> i <= j -> (j:Int) < b -> gi l i <= gi l j
theorem Srt.step {s:Int} (h:Srt a s l) (hl:∀ i:Nat,a <= i -> (i:Int) < s -> gi l i <= gi l s.toNat) (hs:0 <= s):Srt a (s + 1) l:=fun i j h1 h2 h3=>by
 by_cases e:(j:Int) < s
 ·exact h i j h1 h2 e
 ·have e1:j = s.toNat:=by omega
  by_cases e2:i = j
  ·rw [e2]; exact Int.le_refl _
  ·rw [e1]; exact hl i h1 (by omega)
theorem Srt.adj (h:∀ t:Nat,a < t -> (t:Int) < b -> gi l (t - 1) <= gi l t) (ha:0 <= a):Srt a b l:=fun i j h1 h2 h3=>by
 induction j with
 | zero=>rw [show i = 0 by omega]; exact Int.le_refl _
 | succ j ih =>
  by_cases e:i = j + 1
  ·rw [e]; exact Int.le_refl _
  ·have h4:=ih (by omega) (by omega)
   have h5:=h (j + 1) (by omega) h3
   rw [Nat.add_sub_cancel] at h5
   omega
end
theorem c_insS {l:List Int} {n:Nat} {a b:Int} (hn:l.length = n) (h0:0 <= a /\ a <= 1000) (hb:b <= n) (hl:n <= 1000):PSpecM Tryz.prog 133 [.rf 0 0 n,.int .i64 a,.int .i64 b] [(0,2,1)] [vi .i64 l] fun v c=>v = .tup [] /\ ∃ m,c = [vi .i64 m] /\ Sw a b l m /\ Srt a b m:=by
 refine slices_insertionSortOrdered_int64_f.m rfl rfl ?_
 dsimp only [slices_insertionSortOrdered_int64_F,pcal_B,pcalp_B,pcala_B,pcond_B,pgk_B,JN_B,LP_B]
 (refine bni ?_;repeat (refine bnk ?_;(try simp (disch:=first|omega|(simp only [LN];omega)) only [↓EC,EW,seval,↓reduceIte,↓ED,EE])))
 refine LPx_of (σ:=List Int × Int) 100000 [(0,2,1)] (fun s=>[.int .i64 s.2]) (fun s=>[vi .i64 s.1])
  (fun s=>Sw a b l s.1 /\ a + 1 <= s.2 /\ Srt a s.2 s.1 /\ (s.2 <= b ∨ s.2 = a + 1)) (fun s=>(b - s.2).toNat) (l,a + 1) (by simp [frameOk,names,lpz,sclp,scv,scvs,nrfs,nrf,FRB]) ⟨.refl _,Int.le_refl _,fun i j h1 h2 h3=>by simp only at h3; rw [show i = j by omega]; exact Int.le_refl _,.inr rfl⟩ ?_ ?_
 ·(refine bni ?_;repeat (refine bnk ?_;simp (disch:=first|omega|(simp only [LN];omega)) only [↓EC,EW,seval,↓reduceIte,↓ED,EE,CVd]))
 ·rintro ⟨m,i⟩ ⟨hs,h2,hst,hib⟩
  simp only at hs h2 hst hib
  have h1:m.length = n:=by rw [hs.len,hn]
  (refine bni ?_;repeat (refine bnk ?_;simp (disch:=first|omega|(simp only [LN];omega)) only [↓EC,EW,seval,↓reduceIte,↓ED,EE,CVd,lhd]))
  (refine Split.mB (fun h=>?_) (fun h=>?_) <;> (try simp only [SD]at h))
  ·(refine bni ?_;repeat (refine bnk ?_;(try simp (disch:=first|omega|(simp only [LN];omega)) only [↓EC,EW,seval,↓reduceIte,↓ED,EE])))
   refine LPx_of (σ:=List Int × Int) 200000 [(0,2,1)] (fun s=>[.int .i64 s.2]) (fun s=>[vi .i64 s.1])
    (fun s=>Sw a b l s.1 /\ a <= s.2 /\ s.2 <= i /\ (∀ x y:Nat,a <= x -> x <= y -> (y:Int) <= i -> (y:Int) ≠ s.2 -> gi s.1 x <= gi s.1 y ∨ (x:Int) = s.2) /\ ∀ y:Nat,s.2 < y -> (y:Int) <= i -> gi s.1 s.2.toNat <= gi s.1 y) (fun s=>s.2.toNat) (m,i) (by simp [frameOk,names,lpz,sclp,scv,scvs,nrfs,nrf,FRB])
    ⟨hs,by simp only; omega,Int.le_refl _,fun x y p1 p2 p3 p4=>.inl (hst x y p1 p2 (by simp only at p4; omega)),fun y p1 p2=>absurd p1 (by simp only; omega)⟩ ?_ ?_
   ·(refine bni ?_;repeat (refine bnk ?_;simp (disch:=first|omega|(simp only [LN];omega)) only [↓EC,EW,seval,↓reduceIte,↓ED,EE,CVd]))
   ·rintro ⟨m,j⟩ ⟨hs,h4,h5,h6,h7⟩
    simp only at hs h4 h5 h6 h7
    have h3:m.length = n:=by rw [hs.len,hn]
    (refine bni ?_;repeat (refine bnk ?_;simp (disch:=first|omega|(simp only [LN];omega)) only [↓EC,EW,seval,↓reduceIte,↓ED,EE,CVd,lhd]))
    (refine Split.mB (fun h=>?_) (fun h=>?_) <;> (try simp only [SD]at h))
    ·(refine bni ?_;repeat (refine bnk ?_;(try simp (disch:=first|omega|(simp only [LN];omega)) only [↓EC,EW,seval,↓reduceIte,↓ED,EE])))
     refine pcd_v c_less ?_
     (refine bni ?_;repeat (refine bnk ?_;(try simp (disch:=first|omega|(simp only [LN];omega)) only [↓EC,EW,seval,↓reduceIte,↓ED,EE])))
     (refine Split.mB (fun h=>?_) (fun h=>?_) <;> (try simp only [SD]at h))
     ·(refine bni ?_;repeat (refine bnk ?_;(try simp (disch:=first|omega|(simp only [LN];omega)) only [↓EC,EW,seval,↓reduceIte,↓ED,EE])))
      have e1:(j - 1).toNat = j.toNat - 1:=by omega
      have hj1:j.toNat < m.length:=by omega
      have hj2:(j - 1).toNat < m.length:=by omega
      refine ⟨(swL m j.toNat (j - 1).toNat,j - 1),rfl,rfl,⟨.step hs (by omega) (by omega) hj1 hj2,by simp only; omega,by simp only; omega,fun x y p1 p2 p3 p4=>?_,fun y p1 p2=>?_⟩,by simp only; omega⟩
      ·simp only at p4 ⊢
       rw [swL_at hj1 hj2,swL_at hj1 hj2]
       by_cases ex:(x:Int) = j - 1
       ·exact .inr ex
       ·left
        rw [if_neg (show ¬ x = (j - 1).toNat by omega),if_neg (show ¬ y = (j - 1).toNat by omega)]
        by_cases ey:y = j.toNat
        ·rw [if_pos ey]
         by_cases ex2:x = j.toNat
         ·rw [if_pos ex2]; exact Int.le_refl _
         ·rw [if_neg ex2]
          rcases h6 x (j - 1).toNat p1 (by omega) (by omega) (by omega) with q | q
          ·exact q
          ·omega
        ·rw [if_neg ey]
         by_cases ex2:x = j.toNat
         ·rw [if_pos ex2]
          rcases h6 (j - 1).toNat y (by omega) (by omega) p3 (by omega) with q | q
          ·exact q
          ·omega
         ·rw [if_neg ex2]
          rcases h6 x y p1 p2 p3 (by omega) with q | q
          ·exact q
          ·omega
      ·simp only at p1 ⊢
       rw [swL_at hj1 hj2,swL_at hj1 hj2,if_pos rfl,if_neg (show ¬ y = (j - 1).toNat by omega)]
       by_cases ey:y = j.toNat
       ·rw [if_pos ey]
        grind
       ·rw [if_neg ey]
        exact h7 y (by omega) p2
     ·(refine bni ?_;repeat (refine bnk ?_;(try simp (disch:=first|omega|(simp only [LN];omega)) only [↓EC,EW,seval,↓reduceIte,↓ED,EE])))
      refine ⟨(m,i + 1),rfl,rfl,⟨hs,by simp only; omega,fun x y p1 p2 p3=>?_,.inl (by simp only; omega)⟩,by simp only; omega⟩
      simp only at p3 ⊢
      have hle:gi m (j - 1).toNat <= gi m j.toNat:=by grind
      by_cases ex:(x:Int) = j
      ·by_cases ey:y = x
       ·rw [ey]; exact Int.le_refl _
       ·have:=h7 y (by omega) (by omega)
        rw [show x = j.toNat by omega]; exact this
      ·by_cases ey:(y:Int) = j
       ·have h8:gi m x <= gi m (j - 1).toNat:=by
         rcases h6 x (j - 1).toNat p1 (by omega) (by omega) (by omega) with q | q
         ·exact q
         ·omega
        rw [show y = j.toNat by omega]; omega
       ·rcases h6 x y p1 p2 (by omega) ey with q | q
        ·exact q
        ·omega
    ·(refine bni ?_;repeat (refine bnk ?_;(try simp (disch:=first|omega|(simp only [LN];omega)) only [↓EC,EW,seval,↓reduceIte,↓ED,EE])))
     refine ⟨(m,i + 1),rfl,rfl,⟨hs,by simp only; omega,fun x y p1 p2 p3=>?_,.inl (by simp only; omega)⟩,by simp only; omega⟩
     simp only at p3 ⊢
     have hja:j = a:=by omega
     by_cases ex:(x:Int) = j
     ·by_cases ey:y = x
      ·rw [ey]; exact Int.le_refl _
      ·have:=h7 y (by omega) (by omega)
       rw [show x = j.toNat by omega]; exact this
     ·rcases h6 x y p1 p2 (by omega) (by omega) with q | q
      ·exact q
      ·omega
  ·(refine bni ?_;repeat (refine bnk ?_;(try simp (disch:=first|omega|(simp only [LN];omega)) only [↓EC,EW,seval,↓reduceIte,↓ED,EE])))
   refine ⟨m,rfl,hs,fun x y p1 p2 p3=>hst x y p1 p2 (by omega)⟩
end
section
set_option maxHeartbeats 8000000
theorem c_revS {l:List Int} {n:Nat} {a b:Int} (hn:l.length = n) (h0:0 <= a /\ a <= 1000) (hb:0 <= b /\ b <= n) (hl:n <= 1000):PSpecM Tryz.prog 137 [.rf 0 0 n,.int .i64 a,.int .i64 b] [(0,2,1)] [vi .i64 l] fun v c=>v = .tup [] /\ ∃ m,c = [vi .i64 m] /\ Sw a b l m:=by
 refine slices_reverseRangeOrdered_int64_f.m rfl rfl ?_
 dsimp only [slices_reverseRangeOrdered_int64_F,pcal_B,pcalp_B,pcala_B,pcond_B,pgk_B,JN_B,LP_B]
 (refine bni ?_;repeat (refine bnk ?_;(try simp (disch:=first|omega|(simp only [LN];omega)) only [↓EC,EW,seval,↓reduceIte,↓ED,EE])))
 refine LPx_of (σ:=List Int × Int × Int) 100000 [(0,2,1)] (fun s=>[.int .i64 s.2.1,.int .i64 s.2.2]) (fun s=>[vi .i64 s.1])
  (fun s=>Sw a b l s.1 /\ a <= s.2.1 /\ s.2.2 <= b - 1 /\ -1 <= s.2.2 /\ s.2.1 <= 1001) (fun s=>(s.2.2 + 1).toNat) (l,a,b - 1) (by simp [frameOk,names,lpz,sclp,scv,scvs,nrfs,nrf,FRB]) ⟨.refl _,by simp only; omega⟩ ?_ ?_
 ·(refine bni ?_;repeat (refine bnk ?_;simp (disch:=first|omega|(simp only [LN];omega)) only [↓EC,EW,seval,↓reduceIte,↓ED,EE,CVd]))
 ·rintro ⟨m,i,j⟩ ⟨hs,h2,h3,h4,h5⟩
  simp only at hs h2 h3 h4 h5
  have h1:m.length = n:=by rw [hs.len,hn]
  (refine bni ?_;repeat (refine bnk ?_;simp (disch:=first|omega|(simp only [LN];omega)) only [↓EC,EW,seval,↓reduceIte,↓ED,EE,CVd,lhd]))
  (refine Split.mB (fun h=>?_) (fun h=>?_) <;> (try simp only [SD]at h))
  ·(refine bni ?_;repeat (refine bnk ?_;(try simp (disch:=first|omega|(simp only [LN];omega)) only [↓EC,EW,seval,↓reduceIte,↓ED,EE])))
   exact ⟨(swL m i.toNat j.toNat,i + 1,j - 1),rfl,rfl,⟨.step hs (by omega) (by omega) (by omega) (by omega),by simp only; omega⟩,by simp only; omega⟩
  ·(refine bni ?_;repeat (refine bnk ?_;(try simp (disch:=first|omega|(simp only [LN];omega)) only [↓EC,EW,seval,↓reduceIte,↓ED,EE])))
   exact ⟨m,rfl,hs⟩
theorem c_parS {l:List Int} {n:Nat} {a b:Int} (hn:l.length = n) (h0:0 <= a) (hab:a + 13 <= b) (hb:b <= n) (hl:n <= 16):PSpec Tryz.prog 138 [.sl n (vi .i64 l),.int .i64 a,.int .i64 b] fun v=>∃ r,v = .bool r /\ (r = true -> Srt a b l):=by
 refine slices_partialInsertionSortOrdered_int64_f.f ?_
 dsimp only [slices_partialInsertionSortOrdered_int64_F,pcal_B,pcalp_B,pcala_B,pcond_B,pgk_B,JN_B,LP_B]
 (refine bni ?_;repeat (refine bnk ?_;(try simp (disch:=first|omega|(simp only [LN];omega)) only [↓EC,EW,seval,↓reduceIte,↓ED,EE])))
 refine LPx_of (σ:=Unit) 100000 [] (fun s=>[.int .i64 (a + 1),.int .i64 0]) (fun s=>[]) (fun s=>True) (fun s=>0) () (by simp [frameOk,names,lpz,sclp,scv,scvs,nrfs,nrf,FRB]) trivial ?_ ?_
 ·(refine bni ?_;repeat (refine bnk ?_;simp (disch:=first|omega|(simp only [LN];omega)) only [↓EC,EW,seval,↓reduceIte,↓ED,EE,CVd]))
 ·intro _ _
  (refine bni ?_;repeat (refine bnk ?_;simp (disch:=first|omega|(simp only [LN];omega)) only [↓EC,EW,seval,↓reduceIte,↓ED,EE,CVd,lhd]))
  (refine bni ?_;repeat (refine bnk ?_;(try simp (disch:=first|omega|(simp only [LN];omega)) only [↓EC,EW,seval,↓reduceIte,↓ED,EE])))
  refine JNx_un ?_
  (refine bni ?_;repeat (refine bnk ?_;(try simp (disch:=first|omega|(simp only [LN];omega)) only [↓EC,EW,seval,↓reduceIte,↓ED,EE])))
  refine LPx_of (σ:=Int) 200000 [] (fun s=>[.int .i64 s]) (fun s=>[]) (fun s=>(a + 1 <= s /\ s <= b) /\ ∀ t:Nat,a < t -> (t:Int) < s -> gi l (t - 1) <= gi l t) (fun s=>(b - s).toNat) (a + 1) (by simp [frameOk,names,lpz,sclp,scv,scvs,nrfs,nrf,FRB]) ⟨by omega,fun t h1 h2=>by omega⟩ ?_ ?_
  ·(refine bni ?_;repeat (refine bnk ?_;simp (disch:=first|omega|(simp only [LN];omega)) only [↓EC,EW,seval,↓reduceIte,↓ED,EE,CVd]))
  ·rintro i ⟨⟨h1,h2⟩,h3⟩
   (refine bni ?_;repeat (refine bnk ?_;simp (disch:=first|omega|(simp only [LN];omega)) only [↓EC,EW,seval,↓reduceIte,↓ED,EE,CVd,lhd]))
   (refine Split.mB (fun h=>?_) (fun h=>?_) <;> (try simp only [SD]at h))
   ·(refine bni ?_;repeat (refine bnk ?_;(try simp (disch:=first|omega|(simp only [LN];omega)) only [↓EC,EW,seval,↓reduceIte,↓ED,EE])))
    refine pcd_v c_less ?_
    (refine bni ?_;repeat (refine bnk ?_;(try simp (disch:=first|omega|(simp only [LN];omega)) only [↓EC,EW,seval,↓reduceIte,↓ED,EE])))
    have e1:(i - 1).toNat = i.toNat - 1:=by omega
    (refine Split.mB (fun h=>?_) (fun h=>?_) <;> (try simp only [SD]at h))
    ·(refine bni ?_;repeat (refine bnk ?_;(try simp (disch:=first|omega|(simp only [LN];omega)) only [↓EC,EW,seval,↓reduceIte,↓ED,EE])))
     refine ⟨i + 1,rfl,⟨by omega,fun t p1 p2=>?_⟩,by omega⟩
     by_cases e:(t:Int) < i
     ·exact h3 t p1 e
     ·rw [show t = i.toNat by omega]; grind
    ·(refine bni ?_;repeat (refine bnk ?_;(try simp (disch:=first|omega|(simp only [LN];omega)) only [↓EC,EW,seval,↓reduceIte,↓ED,EE])))
     (refine Split.mB (fun h=>?_) (fun h=>?_) <;> (try simp only [SD]at h))
     ·omega
     ·(refine bni ?_;repeat (refine bnk ?_;(try simp (disch:=first|omega|(simp only [LN];omega)) only [↓EC,EW,seval,↓reduceIte,↓ED,EE])))
      (refine Split.mB (fun h=>?_) (fun h=>?_) <;> (try simp only [SD]at h))
      ·(refine bni ?_;repeat (refine bnk ?_;(try simp (disch:=first|omega|(simp only [LN];omega)) only [↓EC,EW,seval,↓reduceIte,↓ED,EE])))
       exact ⟨_,rfl,fun q=>by cases q⟩
      ·omega
   ·(refine bni ?_;repeat (refine bnk ?_;(try simp (disch:=first|omega|(simp only [LN];omega)) only [↓EC,EW,seval,↓reduceIte,↓ED,EE])))
    (refine Split.mB (fun h=>?_) (fun h=>?_) <;> (try simp only [SD]at h))
    ·(refine bni ?_;repeat (refine bnk ?_;(try simp (disch:=first|omega|(simp only [LN];omega)) only [↓EC,EW,seval,↓reduceIte,↓ED,EE])))
     exact ⟨_,rfl,fun _=>Srt.adj (fun t p1 p2=>h3 t p1 (by omega)) h0⟩
    ·omega
theorem c_brkS {l:List Int} {n:Nat} {a b:Int} (hn:l.length = n) (h0:0 <= a) (hab:a + 13 <= b) (hb:b <= n) (hl:n <= 16):PSpecM Tryz.prog 135 [.rf 0 0 n,.int .i64 a,.int .i64 b] [(0,2,1)] [vi .i64 l] fun v c=>v = .tup [] /\ ∃ m,c = [vi .i64 m] /\ Sw a b l m:=by
 refine slices_breakPatternsOrdered_int64_f.m rfl rfl ?_
 dsimp only [slices_breakPatternsOrdered_int64_F,pcal_B,pcalp_B,pcala_B,pcond_B,pgk_B,JN_B,LP_B]
 (refine bni ?_;repeat (refine bnk ?_;(try simp (disch:=first|omega|(simp only [LN];omega)) only [↓EC,EW,seval,↓reduceIte,↓ED,EE])))
 have hd:(b - a).tdiv 4 * 2 = 6 ∨ (b - a).tdiv 4 * 2 = 8:=by
  have h3:=Int.mul_tdiv_add_tmod (b - a) 4
  have h4:=Int.tmod_nonneg 4 (show 0 <= b - a by omega)
  have h5:=Int.tmod_lt_of_pos (b - a) (show (0:Int) < 4 by omega)
  omega
 have hd':3 <= (b - a).tdiv 4 /\ (b - a).tdiv 4 <= 4:=by omega
 obtain ⟨d,hdd⟩:∃ d,(b - a).tdiv 4 = d:=⟨_,rfl⟩
 rw [hdd] at hd hd'
 (refine Split.mB (fun h=>?_) (fun h=>?_) <;> (try simp only [SD]at h))
 rotate_left
 ·omega
 (refine bni ?_;repeat (refine bnk ?_;(try simp (disch:=first|omega|(simp only [LN];omega)) only [↓EC,EW,seval,↓reduceIte,↓ED,EE])))
 obtain ⟨k,hk⟩:∃ k:Nat,b - a = (k:Int):=⟨(b - a).toNat,by omega⟩
 have hk2:13 <= k /\ k <= 16:=by omega
 have hdk:(k:Int).tdiv 4 = d:=by rw [<-hk,hdd]
 rw [hk]
 refine pcd_r (c_nextPow (k:=k) (by omega) (by omega)) ?_
 rintro _ (⟨hk1,rfl⟩ | ⟨hk1,rfl⟩)
 ·(refine bni ?_;repeat (refine bnk ?_;(try simp (disch:=first|omega|(simp only [LN];omega)) only [↓EC,EW,seval,↓reduceIte,↓ED,EE,hdk])))
  refine LPx_of (σ:=(List Int × Int) × Int) 100000 [(0,2,1),(71,148,1)] (fun s=>[.int .i64 s.2]) (fun s=>[vi .i64 s.1.1,[.int .u64 s.1.2]])
   (fun s=>Sw a b l s.1.1 /\ a <= s.2) (fun s=>(a + d * 2 + 2 - s.2).toNat) ((l,k),a + d * 2 - 1) (by simp [frameOk,names,lpz,sclp,scv,scvs,nrfs,nrf,FRB]) ⟨.refl _,by simp only; omega⟩ ?_ ?_
  ·(refine bni ?_;repeat (refine bnk ?_;simp (disch:=first|omega|(simp only [LN];omega)) only [↓EC,EW,seval,↓reduceIte,↓ED,EE,CVd]))
  ·rintro ⟨⟨m,h⟩,i⟩ ⟨hs,h2⟩
   simp only at hs h2
   have h1:m.length = n:=by rw [hs.len,hn]
   (refine bni ?_;repeat (refine bnk ?_;simp (disch:=first|omega|(simp only [LN];omega)) only [↓EC,EW,seval,↓reduceIte,↓ED,EE,CVd,lhd,hdk]))
   (refine Split.mB (fun h=>?_) (fun h=>?_) <;> (try simp only [SD]at h))
   ·(refine bni ?_;repeat (refine bnk ?_;(try simp (disch:=first|omega|(simp only [LN];omega)) only [↓EC,EW,seval,↓reduceIte,↓ED,EE])))
    refine pcm [71] rfl ?_
    (refine bni ?_;repeat (refine bnk ?_;(try simp (disch:=first|omega|(simp only [LN];omega)) only [↓EC,EW,seval,↓reduceIte,↓ED,EE])))
    refine callM_d c_Next ?_
    rintro _ _ ⟨r,h',rfl,rfl⟩
    (refine bni ?_;repeat (refine bnk ?_;(try simp (disch:=first|omega|(simp only [LN];omega)) only [↓EC,EW,seval,↓reduceIte,↓ED,EE])))
    obtain ⟨q,hq,e⟩:=and15 (BitVec.ofInt IntKind.u64.bits r)
    rw [e]
    refine JNx_un ?_
    (refine bni ?_;repeat (refine bnk ?_;(try simp (disch:=first|omega|(simp only [LN];omega)) only [↓EC,EW,seval,↓reduceIte,↓ED,EE])))
    (refine Split.mB (fun h=>?_) (fun h=>?_) <;> (try simp only [SD]at h))
    ·(refine bni ?_;repeat (refine bnk ?_;(try simp (disch:=first|omega|(simp only [LN];omega)) only [↓EC,EW,seval,↓reduceIte,↓ED,EE])))
     exact ⟨((swL m _ _,h'),i + 1),rfl,rfl,⟨.step hs (by omega) (by omega) (by omega) (by omega),by simp only; omega⟩,by simp only; omega⟩
    ·(refine bni ?_;repeat (refine bnk ?_;(try simp (disch:=first|omega|(simp only [LN];omega)) only [↓EC,EW,seval,↓reduceIte,↓ED,EE])))
     exact ⟨((swL m _ _,h'),i + 1),rfl,rfl,⟨.step hs (by omega) (by omega) (by omega) (by omega),by simp only; omega⟩,by simp only; omega⟩
   ·(refine bni ?_;repeat (refine bnk ?_;(try simp (disch:=first|omega|(simp only [LN];omega)) only [↓EC,EW,seval,↓reduceIte,↓ED,EE])))
    exact ⟨m,rfl,hs⟩
 ·(refine bni ?_;repeat (refine bnk ?_;(try simp (disch:=first|omega|(simp only [LN];omega)) only [↓EC,EW,seval,↓reduceIte,↓ED,EE,hdk])))
  refine LPx_of (σ:=(List Int × Int) × Int) 100000 [(0,2,1),(71,148,1)] (fun s=>[.int .i64 s.2]) (fun s=>[vi .i64 s.1.1,[.int .u64 s.1.2]])
   (fun s=>Sw a b l s.1.1 /\ a <= s.2) (fun s=>(a + d * 2 + 2 - s.2).toNat) ((l,k),a + d * 2 - 1) (by simp [frameOk,names,lpz,sclp,scv,scvs,nrfs,nrf,FRB]) ⟨.refl _,by simp only; omega⟩ ?_ ?_
  ·(refine bni ?_;repeat (refine bnk ?_;simp (disch:=first|omega|(simp only [LN];omega)) only [↓EC,EW,seval,↓reduceIte,↓ED,EE,CVd]))
  ·rintro ⟨⟨m,h⟩,i⟩ ⟨hs,h2⟩
   simp only at hs h2
   have h1:m.length = n:=by rw [hs.len,hn]
   (refine bni ?_;repeat (refine bnk ?_;simp (disch:=first|omega|(simp only [LN];omega)) only [↓EC,EW,seval,↓reduceIte,↓ED,EE,CVd,lhd,hdk]))
   (refine Split.mB (fun h=>?_) (fun h=>?_) <;> (try simp only [SD]at h))
   ·(refine bni ?_;repeat (refine bnk ?_;(try simp (disch:=first|omega|(simp only [LN];omega)) only [↓EC,EW,seval,↓reduceIte,↓ED,EE])))
    refine pcm [71] rfl ?_
    (refine bni ?_;repeat (refine bnk ?_;(try simp (disch:=first|omega|(simp only [LN];omega)) only [↓EC,EW,seval,↓reduceIte,↓ED,EE])))
    refine callM_d c_Next ?_
    rintro _ _ ⟨r,h',rfl,rfl⟩
    (refine bni ?_;repeat (refine bnk ?_;(try simp (disch:=first|omega|(simp only [LN];omega)) only [↓EC,EW,seval,↓reduceIte,↓ED,EE])))
    obtain ⟨q,hq,e⟩:=and31 (BitVec.ofInt IntKind.u64.bits r)
    rw [e]
    refine JNx_un ?_
    (refine bni ?_;repeat (refine bnk ?_;(try simp (disch:=first|omega|(simp only [LN];omega)) only [↓EC,EW,seval,↓reduceIte,↓ED,EE])))
    (refine Split.mB (fun h=>?_) (fun h=>?_) <;> (try simp only [SD]at h))
    ·(refine bni ?_;repeat (refine bnk ?_;(try simp (disch:=first|omega|(simp only [LN];omega)) only [↓EC,EW,seval,↓reduceIte,↓ED,EE])))
     exact ⟨((swL m _ _,h'),i + 1),rfl,rfl,⟨.step hs (by omega) (by omega) (by omega) (by omega),by simp only; omega⟩,by simp only; omega⟩
    ·(refine bni ?_;repeat (refine bnk ?_;(try simp (disch:=first|omega|(simp only [LN];omega)) only [↓EC,EW,seval,↓reduceIte,↓ED,EE])))
     exact ⟨((swL m _ _,h'),i + 1),rfl,rfl,⟨.step hs (by omega) (by omega) (by omega) (by omega),by simp only; omega⟩,by simp only; omega⟩
   ·(refine bni ?_;repeat (refine bnk ?_;(try simp (disch:=first|omega|(simp only [LN];omega)) only [↓EC,EW,seval,↓reduceIte,↓ED,EE])))
    exact ⟨m,rfl,hs⟩
structure Pt (R1 R2:Int -> Prop) (l:List Int) (a b pv:Int) (m:List Int) (i j:Int):Prop where
 sw:Sw a b l m
 pv:gi m a.toNat = pv
 lo:∀ t:Nat,a < t -> (t:Int) < i -> R1 (gi m t)
 hi:∀ t:Nat,j < t -> (t:Int) < b -> R2 (gi m t)
section
variable {R1 R2:Int -> Prop} {l m:List Int} {a b pv i j:Int}
theorem Pt.up (h:Pt R1 R2 l a b pv m i j) (hr:R1 (gi m i.toNat)) (h0:0 <= a /\ a < i):Pt R1 R2 l a b pv m (i + 1) j :=
 ⟨h.sw,h.pv,fun t p1 p2=>by
  by_cases e:(t:Int) < i
  ·exact h.lo t p1 e
  ·rw [show t = i.toNat by omega]; exact hr,h.hi⟩
theorem Pt.dn (h:Pt R1 R2 l a b pv m i j) (hr:R2 (gi m j.toNat)) (h0:0 <= j):Pt R1 R2 l a b pv m i (j - 1) :=
 ⟨h.sw,h.pv,h.lo,fun t p1 p2=>by
  by_cases e:j < (t:Int)
  ·exact h.hi t e p2
  ·rw [show t = j.toNat by omega]; exact hr⟩
theorem Pt.swp (h:Pt R1 R2 l a b pv m i j) (h2:R2 (gi m i.toNat)) (h1:R1 (gi m j.toNat)) (h0:0 <= a /\ a < i /\ i < j /\ j < b) (hm:b <= m.length):Pt R1 R2 l a b pv (swL m i.toNat j.toNat) (i + 1) (j - 1):=by
 have q1:i.toNat < m.length:=by omega
 have q2:j.toNat < m.length:=by omega
 refine ⟨.step h.sw (by omega) (by omega) q1 q2,?_,fun t p1 p2=>?_,fun t p1 p2=>?_⟩
 ·rw [swL_at q1 q2,if_neg (by omega),if_neg (by omega),h.pv]
 ·rw [swL_at q1 q2,if_neg (by omega)]
  split
  ·exact h1
  ·exact h.lo t p1 (by omega)
 ·rw [swL_at q1 q2]
  split
  ·exact h2
  ·rw [if_neg (by omega)]
   exact h.hi t (by omega) p2
theorem Pt.ini {p:Int} (h0:0 <= a) (hp:a <= p /\ p < b) (hm:b <= l.length):Pt R1 R2 l a b (gi l p.toNat) (swL l a.toNat p.toNat) (a + 1) (b - 1):=by
 have q1:a.toNat < l.length:=by omega
 have q2:p.toNat < l.length:=by omega
 refine ⟨.step (.refl _) (by omega) (by omega) q1 q2,?_,fun t p1 p2=>by omega,fun t p1 p2=>by omega⟩
 rw [swL_at q1 q2]
 split
 ·rename_i h; rw [h]
 ·rw [if_pos rfl]
theorem Pt.fin (h:Pt (· < pv) (pv <= ·) l a b pv m i j) (h0:0 <= a /\ a <= j /\ j < b) (hij:i = j + 1) (hm:b <= m.length) :
  Sw a b l (swL m j.toNat a.toNat) /\ (∀ t:Nat,a <= t -> (t:Int) < j -> gi (swL m j.toNat a.toNat) t <= gi (swL m j.toNat a.toNat) j.toNat) /\ ∀ t:Nat,j < t -> (t:Int) < b -> gi (swL m j.toNat a.toNat) j.toNat <= gi (swL m j.toNat a.toNat) t:=by
 have q1:j.toNat < m.length:=by omega
 have q2:a.toNat < m.length:=by omega
 have e:gi (swL m j.toNat a.toNat) j.toNat = pv:=by
  rw [swL_at q1 q2]
  split
  ·rename_i e; rw [e]; exact h.pv
  ·rw [if_pos rfl]; exact h.pv
 refine ⟨.step h.sw (by omega) (by omega) q1 q2,fun t p1 p2=>?_,fun t p1 p2=>?_⟩
 ·rw [e,swL_at q1 q2]
  split
  ·have:=h.lo j.toNat (by omega) (by omega); omega
  ·rw [if_neg (by omega)]
   have:=h.lo t (by omega) (by omega); omega
 ·rw [e,swL_at q1 q2,if_neg (by omega),if_neg (by omega)]
  exact h.hi t p1 p2
end
theorem c_pteS {l:List Int} {n:Nat} {a b p:Int} (hn:l.length = n) (h0:0 <= a) (hab:a + 1 <= b) (hb:b <= n) (hp:a <= p /\ p < b) (hl:n <= 1000):PSpecM Tryz.prog 140 [.rf 0 0 n,.int .i64 a,.int .i64 b,.int .i64 p] [(0,2,1)] [vi .i64 l] fun v c =>
  ∃ x m,v = .int .i64 x /\ c = [vi .i64 m] /\ Sw a b l m /\ a < x /\ x <= b /\ (∀ t:Nat,a <= t -> (t:Int) < x -> gi m t <= gi l p.toNat) /\ ∀ t:Nat,x <= t -> (t:Int) < b -> gi l p.toNat < gi m t:=by
 refine slices_partitionEqualOrdered_int64_f.m rfl rfl ?_
 dsimp only [slices_partitionEqualOrdered_int64_F,pcal_B,pcalp_B,pcala_B,pcond_B,pgk_B,JN_B,LP_B]
 (refine bni ?_;repeat (refine bnk ?_;(try simp (disch:=first|omega|(simp only [LN];omega)) only [↓EC,EW,seval,↓reduceIte,↓ED,EE])))
 have hP0:=Pt.ini (R1:=(· <= gi l p.toNat)) (R2:=(gi l p.toNat < ·)) (l:=l) h0 hp (by omega)
 generalize hM:(l.set a.toNat (gi l p.toNat)).set p.toNat (gi l a.toNat) = m
 have hM':swL l a.toNat p.toNat = m:=hM
 rw [hM'] at hP0
 obtain ⟨pv,hpv⟩:∃ pv,gi l p.toNat = pv:=⟨_,rfl⟩
 rw [hpv] at hP0
 have hP:=hP0
 have h1:m.length = n:=by rw [<-hM]; simp [hn]
 refine LPx_of (σ:=List Int × Int × Int) 100000 [(0,2,1)] (fun s=>[.int .i64 s.2.1,.int .i64 s.2.2]) (fun s=>[vi .i64 s.1])
  (fun s=>Pt (· <= pv) (pv < ·) l a b pv s.1 s.2.1 s.2.2 /\ a + 1 <= s.2.1 /\ s.2.1 <= s.2.2 + 1 /\ s.2.2 <= b - 1 /\ s.2.1 <= b /\ a <= s.2.2) (fun s=>(s.2.2 + 2 - s.2.1).toNat) (m,a + 1,b - 1) (by simp [frameOk,names,lpz,sclp,scv,scvs,nrfs,nrf,FRB]) ⟨hP,by simp only; omega⟩ ?_ ?_
 ·(refine bni ?_;repeat (refine bnk ?_;simp (disch:=first|omega|(simp only [LN];omega)) only [↓EC,EW,seval,↓reduceIte,↓ED,EE,CVd]))
 ·rintro ⟨m,i,j⟩ ⟨hP,h2,h3,h4,h9,h10⟩
  simp only at hP h2 h3 h4 h9 h10
  have h1:m.length = n:=by rw [hP.sw.len,hn]
  (refine bni ?_;repeat (refine bnk ?_;simp (disch:=first|omega|(simp only [LN];omega)) only [↓EC,EW,seval,↓reduceIte,↓ED,EE,CVd,lhd]))
  (refine bni ?_;repeat (refine bnk ?_;(try simp (disch:=first|omega|(simp only [LN];omega)) only [↓EC,EW,seval,↓reduceIte,↓ED,EE])))
  refine LPx_of (σ:=Int) 200000 [(0,2,1)] (fun s=>[.int .i64 s]) (fun s=>[vi .i64 m]) (fun s=>(i <= s /\ s <= j + 1) /\ Pt (· <= pv) (pv < ·) l a b pv m s (j)) (fun s=>(j + 1 - s).toNat) (i) (by simp [frameOk,names,lpz,sclp,scv,scvs,nrfs,nrf,FRB]) ⟨by omega,hP⟩ ?_ ?_
  ·(refine bni ?_;repeat (refine bnk ?_;simp (disch:=first|omega|(simp only [LN];omega)) only [↓EC,EW,seval,↓reduceIte,↓ED,EE,CVd]))
  ·rintro i' ⟨⟨h5,h6⟩,hP'⟩
   (refine bni ?_;repeat (refine bnk ?_;simp (disch:=first|omega|(simp only [LN];omega)) only [↓EC,EW,seval,↓reduceIte,↓ED,EE,CVd,lhd]))
   (refine Split.mB (fun h=>?_) (fun h=>?_) <;> (try simp only [SD]at h))
   ·(refine bni ?_;repeat (refine bnk ?_;(try simp (disch:=first|omega|(simp only [LN];omega)) only [↓EC,EW,seval,↓reduceIte,↓ED,EE])))
    refine pcd_v c_less ?_
    (refine bni ?_;repeat (refine bnk ?_;(try simp (disch:=first|omega|(simp only [LN];omega)) only [↓EC,EW,seval,↓reduceIte,↓ED,EE])))
    (refine Split.mB (fun h=>?_) (fun h=>?_) <;> (try simp only [SD]at h))
    ·(refine bni ?_;repeat (refine bnk ?_;(try simp (disch:=first|omega|(simp only [LN];omega)) only [↓EC,EW,seval,↓reduceIte,↓ED,EE])))
     have hr:gi m i'.toNat <= pv:=by have:=hP'.pv; grind
     exact ⟨i' + 1,rfl,⟨by omega,hP'.up hr (by omega)⟩,by omega⟩
    ·(refine bni ?_;repeat (refine bnk ?_;(try simp (disch:=first|omega|(simp only [LN];omega)) only [↓EC,EW,seval,↓reduceIte,↓ED,EE])))
     have hq:pv < gi m i'.toNat:=by have:=hP'.pv; grind
     refine LPx_of (σ:=Int) 300000 [(0,2,1)] (fun s=>[.int .i64 s]) (fun s=>[vi .i64 m]) (fun s=>(s <= j /\ (i' <= s + 1)) /\ Pt (· <= pv) (pv < ·) l a b pv m i' s) (fun s=>(s + 1 - i').toNat) (j) (by simp [frameOk,names,lpz,sclp,scv,scvs,nrfs,nrf,FRB]) ⟨by omega,hP'⟩ ?_ ?_
     ·(refine bni ?_;repeat (refine bnk ?_;simp (disch:=first|omega|(simp only [LN];omega)) only [↓EC,EW,seval,↓reduceIte,↓ED,EE,CVd]))
     ·rintro j' ⟨⟨h7,h8⟩,hP''⟩
      (refine bni ?_;repeat (refine bnk ?_;simp (disch:=first|omega|(simp only [LN];omega)) only [↓EC,EW,seval,↓reduceIte,↓ED,EE,CVd,lhd]))
      (refine Split.mB (fun h=>?_) (fun h=>?_) <;> (try simp only [SD]at h))
      ·(refine bni ?_;repeat (refine bnk ?_;(try simp (disch:=first|omega|(simp only [LN];omega)) only [↓EC,EW,seval,↓reduceIte,↓ED,EE])))
       refine pcd_v c_less ?_
       (refine bni ?_;repeat (refine bnk ?_;(try simp (disch:=first|omega|(simp only [LN];omega)) only [↓EC,EW,seval,↓reduceIte,↓ED,EE])))
       (refine Split.mB (fun h=>?_) (fun h=>?_) <;> (try simp only [SD]at h))
       ·(refine bni ?_;repeat (refine bnk ?_;(try simp (disch:=first|omega|(simp only [LN];omega)) only [↓EC,EW,seval,↓reduceIte,↓ED,EE])))
        have hr:pv < gi m j'.toNat:=by have:=hP''.pv; grind
        exact ⟨j' - 1,rfl,⟨by omega,hP''.dn hr (by omega)⟩,by omega⟩
       ·(refine bni ?_;repeat (refine bnk ?_;(try simp (disch:=first|omega|(simp only [LN];omega)) only [↓EC,EW,seval,↓reduceIte,↓ED,EE])))
        (refine Split.mB (fun h=>?_) (fun h=>?_) <;> (try simp only [SD]at h))
        ·omega
        ·(refine bni ?_;repeat (refine bnk ?_;(try simp (disch:=first|omega|(simp only [LN];omega)) only [↓EC,EW,seval,↓reduceIte,↓ED,EE])))
         have hr:gi m j'.toNat <= pv:=by have:=hP''.pv; grind
         have hne:i' ≠ j':=by rintro rfl; omega
         exact ⟨(swL m i'.toNat j'.toNat,i' + 1,j' - 1),rfl,rfl,⟨hP''.swp hq hr (by omega) (by omega),by simp only; omega⟩,by simp only; omega⟩
      ·(refine bni ?_;repeat (refine bnk ?_;(try simp (disch:=first|omega|(simp only [LN];omega)) only [↓EC,EW,seval,↓reduceIte,↓ED,EE])))
       (refine Split.mB (fun h=>?_) (fun h=>?_) <;> (try simp only [SD]at h))
       ·(refine bni ?_;repeat (refine bnk ?_;(try simp (disch:=first|omega|(simp only [LN];omega)) only [↓EC,EW,seval,↓reduceIte,↓ED,EE])))
        refine ⟨_,m,rfl,rfl,hP''.sw,by omega,by omega,fun t p1 p2=>?_,fun t p1 p2=>?_⟩
        ·rw [hpv]
         by_cases e:(t:Int) = a
         ·have:=hP''.pv
          rw [show t = a.toNat by omega,this]; exact Int.le_refl _
         ·exact hP''.lo t (by omega) p2
        ·rw [hpv]; exact hP''.hi t (by omega) p2
       ·omega
   ·(refine bni ?_;repeat (refine bnk ?_;(try simp (disch:=first|omega|(simp only [LN];omega)) only [↓EC,EW,seval,↓reduceIte,↓ED,EE])))
    refine LPx_of (σ:=Int) 300000 [(0,2,1)] (fun s=>[.int .i64 s]) (fun s=>[vi .i64 m]) (fun s=>(s <= j /\ (i' <= s + 1)) /\ Pt (· <= pv) (pv < ·) l a b pv m i' s) (fun s=>(s + 1 - i').toNat) (j) (by simp [frameOk,names,lpz,sclp,scv,scvs,nrfs,nrf,FRB]) ⟨by omega,hP'⟩ ?_ ?_
    ·(refine bni ?_;repeat (refine bnk ?_;simp (disch:=first|omega|(simp only [LN];omega)) only [↓EC,EW,seval,↓reduceIte,↓ED,EE,CVd]))
    ·rintro j' ⟨⟨h7,h8⟩,hP''⟩
     (refine bni ?_;repeat (refine bnk ?_;simp (disch:=first|omega|(simp only [LN];omega)) only [↓EC,EW,seval,↓reduceIte,↓ED,EE,CVd,lhd]))
     (refine Split.mB (fun h=>?_) (fun h=>?_) <;> (try simp only [SD]at h))
     ·(refine bni ?_;repeat (refine bnk ?_;(try simp (disch:=first|omega|(simp only [LN];omega)) only [↓EC,EW,seval,↓reduceIte,↓ED,EE])))
      refine pcd_v c_less ?_
      (refine bni ?_;repeat (refine bnk ?_;(try simp (disch:=first|omega|(simp only [LN];omega)) only [↓EC,EW,seval,↓reduceIte,↓ED,EE])))
      (refine Split.mB (fun h=>?_) (fun h=>?_) <;> (try simp only [SD]at h))
      ·(refine bni ?_;repeat (refine bnk ?_;(try simp (disch:=first|omega|(simp only [LN];omega)) only [↓EC,EW,seval,↓reduceIte,↓ED,EE])))
       have hr:pv < gi m j'.toNat:=by have:=hP''.pv; grind
       exact ⟨j' - 1,rfl,⟨by omega,hP''.dn hr (by omega)⟩,by omega⟩
      ·(refine bni ?_;repeat (refine bnk ?_;(try simp (disch:=first|omega|(simp only [LN];omega)) only [↓EC,EW,seval,↓reduceIte,↓ED,EE])))
       (refine Split.mB (fun h=>?_) (fun h=>?_) <;> (try simp only [SD]at h))
       ·omega
       ·(refine bni ?_;repeat (refine bnk ?_;(try simp (disch:=first|omega|(simp only [LN];omega)) only [↓EC,EW,seval,↓reduceIte,↓ED,EE])))
        have hr:gi m j'.toNat <= pv:=by have:=hP''.pv; grind
        omega
     ·(refine bni ?_;repeat (refine bnk ?_;(try simp (disch:=first|omega|(simp only [LN];omega)) only [↓EC,EW,seval,↓reduceIte,↓ED,EE])))
      (refine Split.mB (fun h=>?_) (fun h=>?_) <;> (try simp only [SD]at h))
      ·(refine bni ?_;repeat (refine bnk ?_;(try simp (disch:=first|omega|(simp only [LN];omega)) only [↓EC,EW,seval,↓reduceIte,↓ED,EE])))
       refine ⟨_,m,rfl,rfl,hP''.sw,by omega,by omega,fun t p1 p2=>?_,fun t p1 p2=>?_⟩
       ·rw [hpv]
        by_cases e:(t:Int) = a
        ·have:=hP''.pv
         rw [show t = a.toNat by omega,this]; exact Int.le_refl _
        ·exact hP''.lo t (by omega) p2
       ·rw [hpv]; exact hP''.hi t (by omega) p2
      ·omega
theorem c_ptS {l:List Int} {n:Nat} {a b p:Int} (hn:l.length = n) (h0:0 <= a) (hab:a + 1 <= b) (hb:b <= n) (hp:a <= p /\ p < b) (hl:n <= 1000):PSpecM Tryz.prog 141 [.rf 0 0 n,.int .i64 a,.int .i64 b,.int .i64 p] [(0,2,1)] [vi .i64 l] fun v c =>
  ∃ x r m,v = .tup [.int .i64 x,.bool r] /\ c = [vi .i64 m] /\ Sw a b l m /\ a <= x /\ x < b /\ (∀ t:Nat,a <= t -> (t:Int) < x -> gi m t <= gi m x.toNat) /\ ∀ t:Nat,x < t -> (t:Int) < b -> gi m x.toNat <= gi m t:=by
 refine slices_partitionOrdered_int64_f.m rfl rfl ?_
 dsimp only [slices_partitionOrdered_int64_F,pcal_B,pcalp_B,pcala_B,pcond_B,pgk_B,JN_B,LP_B]
 (refine bni ?_;repeat (refine bnk ?_;(try simp (disch:=first|omega|(simp only [LN];omega)) only [↓EC,EW,seval,↓reduceIte,↓ED,EE])))
 have hP0:=Pt.ini (R1:=(· < gi l p.toNat)) (R2:=(gi l p.toNat <= ·)) (l:=l) h0 hp (by omega)
 generalize hM:(l.set a.toNat (gi l p.toNat)).set p.toNat (gi l a.toNat) = m
 have hM':swL l a.toNat p.toNat = m:=hM
 rw [hM'] at hP0
 obtain ⟨pv,hpv⟩:∃ pv,gi l p.toNat = pv:=⟨_,rfl⟩
 rw [hpv] at hP0
 have hP:=hP0
 have h1:m.length = n:=by rw [<-hM]; simp [hn]
 refine LPx_of (σ:=Int) 200000 [(0,2,1)] (fun s=>[.int .i64 s]) (fun s=>[vi .i64 m]) (fun s=>(a + 1 <= s /\ s <= b - 1 + 1) /\ Pt (· < pv) (pv <= ·) l a b pv m s (b - 1)) (fun s=>(b - 1 + 1 - s).toNat) (a + 1) (by simp [frameOk,names,lpz,sclp,scv,scvs,nrfs,nrf,FRB]) ⟨by omega,hP⟩ ?_ ?_
 ·(refine bni ?_;repeat (refine bnk ?_;simp (disch:=first|omega|(simp only [LN];omega)) only [↓EC,EW,seval,↓reduceIte,↓ED,EE,CVd]))
 ·rintro i' ⟨⟨h5,h6⟩,hP'⟩
  (refine bni ?_;repeat (refine bnk ?_;simp (disch:=first|omega|(simp only [LN];omega)) only [↓EC,EW,seval,↓reduceIte,↓ED,EE,CVd,lhd]))
  (refine Split.mB (fun h=>?_) (fun h=>?_) <;> (try simp only [SD]at h))
  ·(refine bni ?_;repeat (refine bnk ?_;(try simp (disch:=first|omega|(simp only [LN];omega)) only [↓EC,EW,seval,↓reduceIte,↓ED,EE])))
   refine pcd_v c_less ?_
   (refine bni ?_;repeat (refine bnk ?_;(try simp (disch:=first|omega|(simp only [LN];omega)) only [↓EC,EW,seval,↓reduceIte,↓ED,EE])))
   (refine Split.mB (fun h=>?_) (fun h=>?_) <;> (try simp only [SD]at h))
   ·(refine bni ?_;repeat (refine bnk ?_;(try simp (disch:=first|omega|(simp only [LN];omega)) only [↓EC,EW,seval,↓reduceIte,↓ED,EE])))
    have hr:gi m i'.toNat < pv:=by have:=hP'.pv; grind
    exact ⟨i' + 1,rfl,⟨by omega,hP'.up hr (by omega)⟩,by omega⟩
   ·(refine bni ?_;repeat (refine bnk ?_;(try simp (disch:=first|omega|(simp only [LN];omega)) only [↓EC,EW,seval,↓reduceIte,↓ED,EE])))
    have hq:pv <= gi m i'.toNat:=by have:=hP'.pv; grind
    refine LPx_of (σ:=Int) 300000 [(0,2,1)] (fun s=>[.int .i64 s]) (fun s=>[vi .i64 m]) (fun s=>(s <= b - 1 /\ (i' <= s + 1)) /\ Pt (· < pv) (pv <= ·) l a b pv m i' s) (fun s=>(s + 1 - i').toNat) (b - 1) (by simp [frameOk,names,lpz,sclp,scv,scvs,nrfs,nrf,FRB]) ⟨by omega,hP'⟩ ?_ ?_
    ·(refine bni ?_;repeat (refine bnk ?_;simp (disch:=first|omega|(simp only [LN];omega)) only [↓EC,EW,seval,↓reduceIte,↓ED,EE,CVd]))
    ·rintro j' ⟨⟨h7,h8⟩,hP''⟩
     (refine bni ?_;repeat (refine bnk ?_;simp (disch:=first|omega|(simp only [LN];omega)) only [↓EC,EW,seval,↓reduceIte,↓ED,EE,CVd,lhd]))
     (refine Split.mB (fun h=>?_) (fun h=>?_) <;> (try simp only [SD]at h))
     ·(refine bni ?_;repeat (refine bnk ?_;(try simp (disch:=first|omega|(simp only [LN];omega)) only [↓EC,EW,seval,↓reduceIte,↓ED,EE])))
      refine pcd_v c_less ?_
      (refine bni ?_;repeat (refine bnk ?_;(try simp (disch:=first|omega|(simp only [LN];omega)) only [↓EC,EW,seval,↓reduceIte,↓ED,EE])))
      (refine Split.mB (fun h=>?_) (fun h=>?_) <;> (try simp only [SD]at h))
      ·(refine bni ?_;repeat (refine bnk ?_;(try simp (disch:=first|omega|(simp only [LN];omega)) only [↓EC,EW,seval,↓reduceIte,↓ED,EE])))
       have hr:pv <= gi m j'.toNat:=by have:=hP''.pv; grind
       exact ⟨j' - 1,rfl,⟨by omega,hP''.dn hr (by omega)⟩,by omega⟩
      ·(refine bni ?_;repeat (refine bnk ?_;(try simp (disch:=first|omega|(simp only [LN];omega)) only [↓EC,EW,seval,↓reduceIte,↓ED,EE])))
       (refine Split.mB (fun h=>?_) (fun h=>?_) <;> (try simp only [SD]at h))
       ·omega
       ·(refine bni ?_;repeat (refine bnk ?_;(try simp (disch:=first|omega|(simp only [LN];omega)) only [↓EC,EW,seval,↓reduceIte,↓ED,EE])))
        have hr:gi m j'.toNat < pv:=by have:=hP''.pv; grind
        have hne:i' ≠ j':=by rintro rfl; omega
        refine LPx_of (σ:=List Int × Int × Int) 500000 [(0,2,1)] (fun s=>[.int .i64 s.2.1,.int .i64 s.2.2]) (fun s=>[vi .i64 s.1])
         (fun s=>Pt (· < pv) (pv <= ·) l a b pv s.1 s.2.1 s.2.2 /\ a + 1 <= s.2.1 /\ s.2.1 <= s.2.2 + 1 /\ s.2.2 <= b - 1 /\ s.2.1 <= b /\ a <= s.2.2) (fun s=>(s.2.2 + 2 - s.2.1).toNat) (swL m i'.toNat j'.toNat,i' + 1,j' - 1) (by simp [frameOk,names,lpz,sclp,scv,scvs,nrfs,nrf,FRB]) ⟨hP''.swp hq hr (by omega) (by omega),by simp only; omega⟩ ?_ ?_
        ·(refine bni ?_;repeat (refine bnk ?_;simp (disch:=first|omega|(simp only [LN];omega)) only [↓EC,EW,seval,↓reduceIte,↓ED,EE,CVd]))
         rfl
        ·rintro ⟨m,i,j⟩ ⟨hP,h2,h3,h4,h9,h10⟩
         simp only at hP h2 h3 h4 h9 h10
         have h1:m.length = n:=by rw [hP.sw.len,hn]
         (refine bni ?_;repeat (refine bnk ?_;simp (disch:=first|omega|(simp only [LN];omega)) only [↓EC,EW,seval,↓reduceIte,↓ED,EE,CVd,lhd]))
         (refine bni ?_;repeat (refine bnk ?_;(try simp (disch:=first|omega|(simp only [LN];omega)) only [↓EC,EW,seval,↓reduceIte,↓ED,EE])))
         refine LPx_of (σ:=Int) 600000 [(0,2,1)] (fun s=>[.int .i64 s]) (fun s=>[vi .i64 m]) (fun s=>(i <= s /\ s <= j + 1) /\ Pt (· < pv) (pv <= ·) l a b pv m s (j)) (fun s=>(j + 1 - s).toNat) (i) (by simp [frameOk,names,lpz,sclp,scv,scvs,nrfs,nrf,FRB]) ⟨by omega,hP⟩ ?_ ?_
         ·(refine bni ?_;repeat (refine bnk ?_;simp (disch:=first|omega|(simp only [LN];omega)) only [↓EC,EW,seval,↓reduceIte,↓ED,EE,CVd]))
         ·rintro i' ⟨⟨h5,h6⟩,hP'⟩
          (refine bni ?_;repeat (refine bnk ?_;simp (disch:=first|omega|(simp only [LN];omega)) only [↓EC,EW,seval,↓reduceIte,↓ED,EE,CVd,lhd]))
          (refine Split.mB (fun h=>?_) (fun h=>?_) <;> (try simp only [SD]at h))
          ·(refine bni ?_;repeat (refine bnk ?_;(try simp (disch:=first|omega|(simp only [LN];omega)) only [↓EC,EW,seval,↓reduceIte,↓ED,EE])))
           refine pcd_v c_less ?_
           (refine bni ?_;repeat (refine bnk ?_;(try simp (disch:=first|omega|(simp only [LN];omega)) only [↓EC,EW,seval,↓reduceIte,↓ED,EE])))
           (refine Split.mB (fun h=>?_) (fun h=>?_) <;> (try simp only [SD]at h))
           ·(refine bni ?_;repeat (refine bnk ?_;(try simp (disch:=first|omega|(simp only [LN];omega)) only [↓EC,EW,seval,↓reduceIte,↓ED,EE])))
            have hr:gi m i'.toNat < pv:=by have:=hP'.pv; grind
            exact ⟨i' + 1,rfl,⟨by omega,hP'.up hr (by omega)⟩,by omega⟩
           ·(refine bni ?_;repeat (refine bnk ?_;(try simp (disch:=first|omega|(simp only [LN];omega)) only [↓EC,EW,seval,↓reduceIte,↓ED,EE])))
            have hq:pv <= gi m i'.toNat:=by have:=hP'.pv; grind
            refine LPx_of (σ:=Int) 700000 [(0,2,1)] (fun s=>[.int .i64 s]) (fun s=>[vi .i64 m]) (fun s=>(s <= j /\ (i' <= s + 1)) /\ Pt (· < pv) (pv <= ·) l a b pv m i' s) (fun s=>(s + 1 - i').toNat) (j) (by simp [frameOk,names,lpz,sclp,scv,scvs,nrfs,nrf,FRB]) ⟨by omega,hP'⟩ ?_ ?_
            ·(refine bni ?_;repeat (refine bnk ?_;simp (disch:=first|omega|(simp only [LN];omega)) only [↓EC,EW,seval,↓reduceIte,↓ED,EE,CVd]))
            ·rintro j' ⟨⟨h7,h8⟩,hP''⟩
             (refine bni ?_;repeat (refine bnk ?_;simp (disch:=first|omega|(simp only [LN];omega)) only [↓EC,EW,seval,↓reduceIte,↓ED,EE,CVd,lhd]))
             (refine Split.mB (fun h=>?_) (fun h=>?_) <;> (try simp only [SD]at h))
             ·(refine bni ?_;repeat (refine bnk ?_;(try simp (disch:=first|omega|(simp only [LN];omega)) only [↓EC,EW,seval,↓reduceIte,↓ED,EE])))
              refine pcd_v c_less ?_
              (refine bni ?_;repeat (refine bnk ?_;(try simp (disch:=first|omega|(simp only [LN];omega)) only [↓EC,EW,seval,↓reduceIte,↓ED,EE])))
              (refine Split.mB (fun h=>?_) (fun h=>?_) <;> (try simp only [SD]at h))
              ·(refine bni ?_;repeat (refine bnk ?_;(try simp (disch:=first|omega|(simp only [LN];omega)) only [↓EC,EW,seval,↓reduceIte,↓ED,EE])))
               have hr:pv <= gi m j'.toNat:=by have:=hP''.pv; grind
               exact ⟨j' - 1,rfl,⟨by omega,hP''.dn hr (by omega)⟩,by omega⟩
              ·(refine bni ?_;repeat (refine bnk ?_;(try simp (disch:=first|omega|(simp only [LN];omega)) only [↓EC,EW,seval,↓reduceIte,↓ED,EE])))
               (refine Split.mB (fun h=>?_) (fun h=>?_) <;> (try simp only [SD]at h))
               ·omega
               ·(refine bni ?_;repeat (refine bnk ?_;(try simp (disch:=first|omega|(simp only [LN];omega)) only [↓EC,EW,seval,↓reduceIte,↓ED,EE])))
                have hr:gi m j'.toNat < pv:=by have:=hP''.pv; grind
                have hne:i' ≠ j':=by rintro rfl; omega
                exact ⟨(swL m i'.toNat j'.toNat,i' + 1,j' - 1),rfl,rfl,⟨hP''.swp hq hr (by omega) (by omega),by simp only; omega⟩,by simp only; omega⟩
             ·(refine bni ?_;repeat (refine bnk ?_;(try simp (disch:=first|omega|(simp only [LN];omega)) only [↓EC,EW,seval,↓reduceIte,↓ED,EE])))
              (refine Split.mB (fun h=>?_) (fun h=>?_) <;> (try simp only [SD]at h))
              ·(refine bni ?_;repeat (refine bnk ?_;(try simp (disch:=first|omega|(simp only [LN];omega)) only [↓EC,EW,seval,↓reduceIte,↓ED,EE])))
               obtain ⟨g1,g2,g3⟩:=hP''.fin (by omega) (by omega) (by omega)
               exact ⟨_,_,swL m j'.toNat a.toNat,rfl,rfl,g1,by omega,by omega,g2,g3⟩
              ·omega
          ·(refine bni ?_;repeat (refine bnk ?_;(try simp (disch:=first|omega|(simp only [LN];omega)) only [↓EC,EW,seval,↓reduceIte,↓ED,EE])))
           refine LPx_of (σ:=Int) 700000 [(0,2,1)] (fun s=>[.int .i64 s]) (fun s=>[vi .i64 m]) (fun s=>(s <= j /\ (i' <= s + 1)) /\ Pt (· < pv) (pv <= ·) l a b pv m i' s) (fun s=>(s + 1 - i').toNat) (j) (by simp [frameOk,names,lpz,sclp,scv,scvs,nrfs,nrf,FRB]) ⟨by omega,hP'⟩ ?_ ?_
           ·(refine bni ?_;repeat (refine bnk ?_;simp (disch:=first|omega|(simp only [LN];omega)) only [↓EC,EW,seval,↓reduceIte,↓ED,EE,CVd]))
           ·rintro j' ⟨⟨h7,h8⟩,hP''⟩
            (refine bni ?_;repeat (refine bnk ?_;simp (disch:=first|omega|(simp only [LN];omega)) only [↓EC,EW,seval,↓reduceIte,↓ED,EE,CVd,lhd]))
            (refine Split.mB (fun h=>?_) (fun h=>?_) <;> (try simp only [SD]at h))
            ·(refine bni ?_;repeat (refine bnk ?_;(try simp (disch:=first|omega|(simp only [LN];omega)) only [↓EC,EW,seval,↓reduceIte,↓ED,EE])))
             refine pcd_v c_less ?_
             (refine bni ?_;repeat (refine bnk ?_;(try simp (disch:=first|omega|(simp only [LN];omega)) only [↓EC,EW,seval,↓reduceIte,↓ED,EE])))
             (refine Split.mB (fun h=>?_) (fun h=>?_) <;> (try simp only [SD]at h))
             ·(refine bni ?_;repeat (refine bnk ?_;(try simp (disch:=first|omega|(simp only [LN];omega)) only [↓EC,EW,seval,↓reduceIte,↓ED,EE])))
              have hr:pv <= gi m j'.toNat:=by have:=hP''.pv; grind
              exact ⟨j' - 1,rfl,⟨by omega,hP''.dn hr (by omega)⟩,by omega⟩
             ·(refine bni ?_;repeat (refine bnk ?_;(try simp (disch:=first|omega|(simp only [LN];omega)) only [↓EC,EW,seval,↓reduceIte,↓ED,EE])))
              (refine Split.mB (fun h=>?_) (fun h=>?_) <;> (try simp only [SD]at h))
              ·omega
              ·(refine bni ?_;repeat (refine bnk ?_;(try simp (disch:=first|omega|(simp only [LN];omega)) only [↓EC,EW,seval,↓reduceIte,↓ED,EE])))
               have hr:gi m j'.toNat < pv:=by have:=hP''.pv; grind
               omega
            ·(refine bni ?_;repeat (refine bnk ?_;(try simp (disch:=first|omega|(simp only [LN];omega)) only [↓EC,EW,seval,↓reduceIte,↓ED,EE])))
             (refine Split.mB (fun h=>?_) (fun h=>?_) <;> (try simp only [SD]at h))
             ·(refine bni ?_;repeat (refine bnk ?_;(try simp (disch:=first|omega|(simp only [LN];omega)) only [↓EC,EW,seval,↓reduceIte,↓ED,EE])))
              obtain ⟨g1,g2,g3⟩:=hP''.fin (by omega) (by omega) (by omega)
              exact ⟨_,_,swL m j'.toNat a.toNat,rfl,rfl,g1,by omega,by omega,g2,g3⟩
             ·omega
     ·(refine bni ?_;repeat (refine bnk ?_;(try simp (disch:=first|omega|(simp only [LN];omega)) only [↓EC,EW,seval,↓reduceIte,↓ED,EE])))
      (refine Split.mB (fun h=>?_) (fun h=>?_) <;> (try simp only [SD]at h))
      ·(refine bni ?_;repeat (refine bnk ?_;(try simp (disch:=first|omega|(simp only [LN];omega)) only [↓EC,EW,seval,↓reduceIte,↓ED,EE])))
       obtain ⟨g1,g2,g3⟩:=hP''.fin (by omega) (by omega) (by omega)
       exact ⟨_,_,swL m j'.toNat a.toNat,rfl,rfl,g1,by omega,by omega,g2,g3⟩
      ·omega
  ·(refine bni ?_;repeat (refine bnk ?_;(try simp (disch:=first|omega|(simp only [LN];omega)) only [↓EC,EW,seval,↓reduceIte,↓ED,EE])))
   refine LPx_of (σ:=Int) 300000 [(0,2,1)] (fun s=>[.int .i64 s]) (fun s=>[vi .i64 m]) (fun s=>(s <= b - 1 /\ (i' <= s + 1)) /\ Pt (· < pv) (pv <= ·) l a b pv m i' s) (fun s=>(s + 1 - i').toNat) (b - 1) (by simp [frameOk,names,lpz,sclp,scv,scvs,nrfs,nrf,FRB]) ⟨by omega,hP'⟩ ?_ ?_
   ·(refine bni ?_;repeat (refine bnk ?_;simp (disch:=first|omega|(simp only [LN];omega)) only [↓EC,EW,seval,↓reduceIte,↓ED,EE,CVd]))
   ·rintro j' ⟨⟨h7,h8⟩,hP''⟩
    (refine bni ?_;repeat (refine bnk ?_;simp (disch:=first|omega|(simp only [LN];omega)) only [↓EC,EW,seval,↓reduceIte,↓ED,EE,CVd,lhd]))
    (refine Split.mB (fun h=>?_) (fun h=>?_) <;> (try simp only [SD]at h))
    ·(refine bni ?_;repeat (refine bnk ?_;(try simp (disch:=first|omega|(simp only [LN];omega)) only [↓EC,EW,seval,↓reduceIte,↓ED,EE])))
     refine pcd_v c_less ?_
     (refine bni ?_;repeat (refine bnk ?_;(try simp (disch:=first|omega|(simp only [LN];omega)) only [↓EC,EW,seval,↓reduceIte,↓ED,EE])))
     (refine Split.mB (fun h=>?_) (fun h=>?_) <;> (try simp only [SD]at h))
     ·(refine bni ?_;repeat (refine bnk ?_;(try simp (disch:=first|omega|(simp only [LN];omega)) only [↓EC,EW,seval,↓reduceIte,↓ED,EE])))
      have hr:pv <= gi m j'.toNat:=by have:=hP''.pv; grind
      exact ⟨j' - 1,rfl,⟨by omega,hP''.dn hr (by omega)⟩,by omega⟩
     ·(refine bni ?_;repeat (refine bnk ?_;(try simp (disch:=first|omega|(simp only [LN];omega)) only [↓EC,EW,seval,↓reduceIte,↓ED,EE])))
      (refine Split.mB (fun h=>?_) (fun h=>?_) <;> (try simp only [SD]at h))
      ·omega
      ·(refine bni ?_;repeat (refine bnk ?_;(try simp (disch:=first|omega|(simp only [LN];omega)) only [↓EC,EW,seval,↓reduceIte,↓ED,EE])))
       have hr:gi m j'.toNat < pv:=by have:=hP''.pv; grind
       omega
    ·(refine bni ?_;repeat (refine bnk ?_;(try simp (disch:=first|omega|(simp only [LN];omega)) only [↓EC,EW,seval,↓reduceIte,↓ED,EE])))
     (refine Split.mB (fun h=>?_) (fun h=>?_) <;> (try simp only [SD]at h))
     ·(refine bni ?_;repeat (refine bnk ?_;(try simp (disch:=first|omega|(simp only [LN];omega)) only [↓EC,EW,seval,↓reduceIte,↓ED,EE])))
      obtain ⟨g1,g2,g3⟩:=hP''.fin (by omega) (by omega) (by omega)
      exact ⟨_,_,swL m j'.toNat a.toNat,rfl,rfl,g1,by omega,by omega,g2,g3⟩
     ·omega
end
section
set_option maxHeartbeats 4000000
theorem callMR_qs {P:Program} {f:FuncId} {h:Hp} {K:V -> Hp -> Prop} {bs:List Nat} {bx:List (Nat × TypeId × Nat)} {cells:List (List V)} {ws:List V} {Φ:Nat -> Nat -> Nat -> List (List V) -> Prop}
  (hs:PSpecMR P f ws bx cells Φ) (hK:∀ j o n cs,Φ j o n cs -> ∀ b,bs[j]? = some b -> K (.rf b o n) (hputs2 h bs bx cs)):CallMR P f h K bs bx cells ws:=⟨Φ,hs,hK⟩
theorem pcd_rq {P:Program} {f:FuncId} {d:Nat} {h:Hp} {K:V -> Hp -> Prop} {ws o:List V} {m:Bool} {Φ:V -> Prop} (hs:PSpec P f ws Φ) (hK:∀ v,Φ v -> Rq (allFree h (mat v d).2.1) (K (mat v d).1 (hputs h (mat v d).2.1))):pcd P f d h K ws m o :=
 .inl (.inl ⟨_,hs,.inr hK⟩)
theorem c_SortN {l:List Int} {n:Nat} (hn:l.length = n) (hl:n <= 16):PSpecM Tryz.prog 124 [.rf 0 0 n] [(0,2,1)] [vi .i64 l] fun v c=>v = .tup [] /\ kp n c:=by
 refine slices_Sort_int64_int64_i_f.m rfl rfl ?_
 dsimp only [slices_Sort_int64_int64_i_F,pcal_B,pcalp_B,pcala_B,pcond_B,pgk_B,JN_B,LP_B]
 (refine bni ?_;repeat (refine bnk ?_;(try simp (disch:=first|omega|(simp only [LN];omega)) only [↓EC,EW,seval,↓reduceIte,↓ED,EE])))
 refine pcd_r (c_LenN (k:=n) (by omega)) ?_
 rintro _ ⟨r,rfl,h1,h2,_⟩
 (refine bni ?_;repeat (refine bnk ?_;(try simp (disch:=first|omega|(simp only [LN];omega)) only [↓EC,EW,seval,↓reduceIte,↓ED,EE])))
 refine pcm [0] rfl ?_; (refine bni ?_;repeat (refine bnk ?_;(try simp (disch:=first|omega|(simp only [LN];omega)) only [↓EC,EW,seval,↓reduceIte,↓ED,EE])))
 refine callM_d (c_pdqsortN hl _ (a:=0) (b:=n) (k:=r) rfl hn (by omega) (by omega) (by omega) ⟨h1,h2⟩) ?_
 rintro _ _ ⟨rfl,m,rfl,hm⟩
 (refine bni ?_;repeat (refine bnk ?_;(try simp (disch:=first|omega|(simp only [LN];omega)) only [↓EC,EW,seval,↓reduceIte,↓ED,EE])))
 exact ⟨m,rfl,hm⟩
theorem c_ReverseN {l:List Int} {n:Nat} (hn:l.length = n) (hl:n <= 1000):PSpecM Tryz.prog 125 [.rf 0 0 n] [(0,2,1)] [vi .i64 l] fun v c=>v = .tup [] /\ kp n c:=by
 refine slices_Reverse_int64_int64_i_f.m rfl rfl ?_
 dsimp only [slices_Reverse_int64_int64_i_F,pcal_B,pcalp_B,pcala_B,pcond_B,pgk_B,JN_B,LP_B]
 (refine bni ?_;repeat (refine bnk ?_;(try simp (disch:=first|omega|(simp only [LN];omega)) only [↓EC,EW,seval,↓reduceIte,↓ED,EE])))
 refine LPx_of (σ:=List Int × Int × Int) 100000 [(0,2,1)] (fun s=>[.int .i64 s.2.1,.int .i64 s.2.2]) (fun s=>[vi .i64 s.1])
  (fun s=>s.1.length = n /\ 0 <= s.2.1 /\ s.2.2 <= (n:Int) - 1 /\ -1 <= s.2.2 /\ s.2.1 <= 1001) (fun s=>(s.2.2 + 1).toNat) (l,0,(n:Int) - 1) (by simp [frameOk,names,lpz,sclp,scv,scvs,nrfs,nrf,FRB]) ⟨hn,by simp only; omega⟩ ?_ ?_
 ·(refine bni ?_;repeat (refine bnk ?_;simp (disch:=first|omega|(simp only [LN];omega)) only [↓EC,EW,seval,↓reduceIte,↓ED,EE,CVd]))
 ·rintro ⟨m,i,j⟩ ⟨h1,h2,h3,h4,h5⟩
  simp only at h1 h2 h3 h4 h5
  (refine bni ?_;repeat (refine bnk ?_;simp (disch:=first|omega|(simp only [LN];omega)) only [↓EC,EW,seval,↓reduceIte,↓ED,EE,CVd,lhd]))
  (refine Split.mB (fun h=>?_) (fun h=>?_) <;> (try simp only [SD]at h))
  ·(refine bni ?_;repeat (refine bnk ?_;(try simp (disch:=first|omega|(simp only [LN];omega)) only [↓EC,EW,seval,↓reduceIte,↓ED,EE])))
   exact ⟨(_,i + 1,j - 1),rfl,rfl,⟨by simp [h1],by simp only; omega⟩,by simp only; omega⟩
  ·(refine bni ?_;repeat (refine bnk ?_;(try simp (disch:=first|omega|(simp only [LN];omega)) only [↓EC,EW,seval,↓reduceIte,↓ED,EE])))
   exact ⟨m,rfl,h1⟩
theorem c_descendingN {l:List Int} {n:Nat} (hn:l.length = n) (hl:n <= 16):PSpecMR Tryz.prog 110 [.rf 0 0 n] [(0,2,1)] [vi .i64 l] fun j o k c=>j = 0 /\ o = 0 /\ k = n /\ kp n c:=by
 refine impl_descending_f.mr rfl rfl ?_
 dsimp only [impl_descending_F,pcal_B,pcalp_B,pcala_B,pcond_B,pgk_B,JN_B,LP_B]
 (refine bni ?_;repeat (refine bnk ?_;(try simp (disch:=first|omega|(simp only [LN];omega)) only [↓EC,EW,seval,↓reduceIte,↓ED,EE])))
 refine pcm [0] rfl ?_; (refine bni ?_;repeat (refine bnk ?_;(try simp (disch:=first|omega|(simp only [LN];omega)) only [↓EC,EW,seval,↓reduceIte,↓ED,EE])))
 refine callM_d (c_SortN hn hl) ?_
 rintro _ _ ⟨rfl,m,rfl,hm⟩
 (refine bni ?_;repeat (refine bnk ?_;(try simp (disch:=first|omega|(simp only [LN];omega)) only [↓EC,EW,seval,↓reduceIte,↓ED,EE])))
 refine pcm [0] rfl ?_; (refine bni ?_;repeat (refine bnk ?_;(try simp (disch:=first|omega|(simp only [LN];omega)) only [↓EC,EW,seval,↓reduceIte,↓ED,EE])))
 refine callM_d (c_ReverseN hm (by omega)) ?_
 rintro _ _ ⟨rfl,m',rfl,hm'⟩
 (refine bni ?_;repeat (refine bnk ?_;(try simp (disch:=first|omega|(simp only [LN];omega)) only [↓EC,EW,seval,↓reduceIte,↓ED,EE])))
 exact ⟨rfl,m',rfl,hm'⟩
def lnT (A:List (List Int)):Nat -> List Int
 | 0=>[]
 | s + 1=>lnT A s ++ [((gl A s).length:Int)]
theorem lnT_len {A:List (List Int)}:∀ s,(lnT A s).length = s
 | 0=>rfl
 | s + 1=>by simp [lnT,lnT_len s]
theorem c_impl_typeOf {p:List Int} {n:Int} (hp:lo16 p) (hn:1 <= n /\ n <= 16):PSpec Tryz.prog 106 [.agg (vi .u8 p),.int .i64 n] fun v=>∃ l:List Int,v = .own 2 1 l.length (vi .i64 l) /\ l.length = (cyc p n).length:=by
 have hpl:=hp.1
 have hcl:(cyc p n).length <= 16:=by have:=(cycO_len (p:=p) n.toNat).2; unfold cyc; omega
 refine impl_typeOf_f.f ?_
 dsimp only [impl_typeOf_F,pcal_B,pcalp_B,pcala_B,pcond_B,pgk_B,JN_B,LP_B]
 (refine bni ?_;repeat (refine bnk ?_;(try simp (disch:=first|omega|(simp only [LN];omega)) only [↓EC,EW,seval,↓reduceIte,↓ED,EE])))
 refine pcd_v (c_impl_cycles hp hn) ?_
 (refine bni ?_;repeat (refine bnk ?_;(try simp (disch:=first|omega|(simp only [LN];omega)) only [↓EC,EW,seval,↓reduceIte,↓ED,EE])))
 generalize cyc p n = A at *
 refine LPx_ofE (σ:=Nat) [1,1] 100000 [] (fun s=>[.own 2 1 s (vi .i64 (lnT A s)),.int .i64 s]) (fun s=>[]) (fun s=>s <= A.length) (fun s=>A.length - s) 0 (by simp [frameOk,names,lpz,sclp,scv,scvs,nrfs,nrf,FRB]) (Nat.zero_le _) ?_ ?_
 ·(refine bni ?_;repeat (refine bnk ?_;simp (disch:=first|omega|(simp only [LN];omega)) only [↓EC,EW,seval,↓reduceIte,↓ED,EE,CVd]))
  exact ⟨fun _=>trivial,rfl⟩
 ·intro s hs
  have hls:=lnT_len (A:=A) s
  (refine bni ?_;repeat (refine bnk ?_;simp (disch:=first|omega|(simp only [LN];omega)) only [↓EC,EW,seval,↓reduceIte,↓ED,EE,CVd,lhd]))
  (refine Split.mB (fun h=>?_) (fun h=>?_) <;> (try simp only [SD]at h))
  ·(refine bni ?_;repeat (refine bnk ?_;(try simp (disch:=first|omega|(simp only [LN];omega)) only [↓EC,EW,seval,↓reduceIte,↓ED,EE])))
   exact ⟨s + 1,rfl,by omega,by omega⟩
  ·obtain rfl:s = A.length:=by omega
   (refine bni ?_;repeat (refine bnk ?_;(try simp (disch:=first|omega|(simp only [LN];omega)) only [↓EC,EW,seval,↓reduceIte,↓ED,EE])))
   refine pcmr [100000] rfl ?_
   (refine bni ?_;repeat (refine bnk ?_;(try simp (disch:=first|omega|(simp only [LN];omega)) only [↓EC,EW,seval,↓reduceIte,↓ED,EE])))
   refine callMR_qs (c_descendingN hls (by omega)) ?_
   rintro j o k c ⟨rfl,rfl,rfl,m,rfl,hm⟩ b hb
   simp at hb
   subst hb
   (refine bni ?_;repeat (refine bnk ?_;(try simp (disch:=first|omega|(simp only [LN];omega)) only [↓EC,EW,seval,↓reduceIte,↓ED,EE])))
   exact ⟨m,by rw [hm],hm⟩
theorem c_impl_eulerOfN {a b c:List Int} {n:Int} (ha:a.length <= 1000) (hb:b.length <= 1000) (hc:c.length <= 1000) (hn:0 <= n /\ n <= 1000):PSpec Tryz.prog 77 [.sl 3 (vl [a,b,c]),.int .i64 n] fun v=>v = .int .i64 (a.length + b.length + c.length - n):=by
 have ga:gl [a,b,c] 0 = a:=rfl
 have gb:gl [a,b,c] 1 = b:=rfl
 have gc:gl [a,b,c] 2 = c:=rfl
 refine impl_eulerOf_f.f ?_
 simp (disch:=first|omega|(simp only [LN];omega)) only [↓EC,EW,seval,↓reduceIte,impl_eulerOf_F,ga,gb,gc]
theorem c_impl_passport {n:Int} {b w:List Int} (hb:lo16 b) (hw:lo16 w) (hn:1 <= n /\ n <= 16):PSpec Tryz.prog 78 [vD n b w] fun v=>∃ x y z:List Int,v = .own 52 1 3 (vo 2 [x,y,z]) /\ x.length = (cyc b n).length /\ y.length = (cyc w n).length /\ z.length = (cyc (faceP b w n) n).length:=by
 have hbl:=hb.1
 have hwl:=hw.1
 have hfl:lo16 (faceP b w n):=backP_lo hn
 have hfl2:=hfl.1
 refine impl_passport_f.f ?_
 unfold vD
 dsimp only [impl_passport_F,pcal_B,pcalp_B,pcala_B,pcond_B,pgk_B,JN_B,LP_B]
 (refine bni ?_;repeat (refine bnk ?_;(try simp (disch:=first|omega|(simp only [LN];omega)) only [↓EC,EW,seval,↓reduceIte,↓ED,EE])))
 refine pcd_rq (c_impl_typeOf (p:=b) hb hn) ?_
 rintro _ ⟨x,rfl,hx⟩
 (refine bni ?_;repeat (refine bnk ?_;(try simp (disch:=first|omega|(simp only [LN];omega)) only [↓EC,EW,seval,↓reduceIte,↓ED,EE])))
 refine pcd_rq (c_impl_typeOf (p:=w) hw hn) ?_
 rintro _ ⟨y,rfl,hy⟩
 (refine bni ?_;repeat (refine bnk ?_;(try simp (disch:=first|omega|(simp only [LN];omega)) only [↓EC,EW,seval,↓reduceIte,↓ED,EE])))
 refine pcd_v (c_impl_face hb hw hn) ?_
 (refine bni ?_;repeat (refine bnk ?_;(try simp (disch:=first|omega|(simp only [LN];omega)) only [↓EC,EW,seval,↓reduceIte,↓ED,EE])))
 refine pcd_rq (c_impl_typeOf hfl hn) ?_
 rintro _ ⟨z,rfl,hz⟩
 (refine bni ?_;repeat (refine bnk ?_;(try simp (disch:=first|omega|(simp only [LN];omega)) only [↓EC,EW,seval,↓reduceIte,↓ED,EE])))
 exact ⟨x,y,z,rfl,hx,hy,hz⟩
def eulN (n:Int) (b w:List Int):Int:=(cyc b n).length + (cyc w n).length + (cyc (faceP b w n) n).length - n
theorem c_impl_genus {n:Int} {b w:List Int} (hb:lo16 b) (hw:lo16 w) (hn:1 <= n /\ n <= 16):PSpec Tryz.prog 60 [vD n b w] fun v=>v = .int .i64 (1 - (eulN n b w).tdiv 2):=by
 have hbl:=hb.1
 have hwl:=hw.1
 have c1:(cyc b n).length <= 16:=by have:=(cycO_len (p:=b) n.toNat).2; unfold cyc; omega
 have c2:(cyc w n).length <= 16:=by have:=(cycO_len (p:=w) n.toNat).2; unfold cyc; omega
 have c3:(cyc (faceP b w n) n).length <= 16:=by have:=(cycO_len (p:=faceP b w n) n.toNat).2; unfold cyc; omega
 refine impl_genus_f.f ?_
 unfold vD
 dsimp only [impl_genus_F,pcal_B,pcalp_B,pcala_B,pcond_B,pgk_B,JN_B,LP_B]
 (refine bni ?_;repeat (refine bnk ?_;(try simp (disch:=first|omega|(simp only [LN];omega)) only [↓EC,EW,seval,↓reduceIte,↓ED,EE])))
 refine pcd_r (c_impl_passport (n:=n) hb hw hn) ?_
 rintro _ ⟨x,y,z,rfl,hx,hy,hz⟩
 (refine bni ?_;repeat (refine bnk ?_;(try simp (disch:=first|omega|(simp only [LN];omega)) only [↓EC,EW,seval,↓reduceIte,↓ED,EE])))
 refine pcd_v (c_impl_eulerOfN (a:=x) (b:=y) (c:=z) (n:=n) (by omega) (by omega) (by omega) (by omega)) ?_
 have e:(x.length:Int) + y.length + z.length - n = eulN n b w:=by rw [hx,hy,hz]; rfl
 have ht:-16 <= eulN n b w /\ eulN n b w <= 48:=by unfold eulN; omega
 have ht2:-32 <= (eulN n b w).tdiv 2 /\ (eulN n b w).tdiv 2 <= 32:=by
  have h3:=Int.mul_tdiv_add_tmod (eulN n b w) 2
  have h4:=Int.tmod_lt_of_pos (eulN n b w) (show (0:Int) < 2 by omega)
  have h5:=Int.lt_tmod_of_pos (eulN n b w) (show (0:Int) < 2 by omega)
  omega
 rw [e]
 (refine bni ?_;repeat (refine bnk ?_;(try simp (disch:=first|omega|(simp only [LN];omega)) only [↓EC,EW,seval,↓reduceIte,↓ED,EE])))
theorem c_impl_GenusOf {n:Int} {b w:List Int} (hb:okP b) (hw:okP w) (hd:isDB n b w = true):PSpec Tryz.prog 11 [vD n b w] fun v=>v = .tup [.int .i64 (1 - (eulN n b w).tdiv 2),.int .i64 0]:=by
 have hbl:=hb.1
 have hwl:=hw.1
 have h1:=isDB_iff.1 hd
 have lb:=h1.pb.lo hb
 have lw:=h1.pw.lo hw
 have hn:=h1.pb.1
 refine impl_GenusOf_f.f ?_
 unfold vD
 dsimp only [impl_GenusOf_F,pcal_B,pcalp_B,pcala_B,pcond_B,pgk_B,JN_B,LP_B]
 (refine bni ?_;repeat (refine bnk ?_;(try simp (disch:=first|omega|(simp only [LN];omega)) only [↓EC,EW,seval,↓reduceIte,↓ED,EE])))
 refine pcd_v (c_impl_IsDessin (n:=n) hb hw) ?_
 (refine bni ?_;repeat (refine bnk ?_;(try simp (disch:=first|omega|(simp only [LN];omega)) only [↓EC,EW,seval,↓reduceIte,↓ED,EE,hd])))
 refine pcd_v (c_impl_genus (n:=n) lb lw hn) ?_
 (refine bni ?_;repeat (refine bnk ?_;(try simp (disch:=first|omega|(simp only [LN];omega)) only [↓EC,EW,seval,↓reduceIte,↓ED,EE])))
end
section
set_option maxHeartbeats 8000000
structure Pq (l:List Int) (n:Nat) (m:List Int) (a b:Int):Prop where
 sw:Sw 0 n l m
 lo:Srt 0 a m
 hi:Srt b n m
 lx:∀ s t:Nat,(s:Int) < a -> a <= t -> t < n -> gi m s <= gi m t
 hx:∀ s t:Nat,(s:Int) < b -> b <= t -> t < n -> gi m s <= gi m t
section
variable {l m m':List Int} {n:Nat} {a b x:Int}
theorem Pq.len (h:Pq l n m a b) (hn:l.length = n):m.length = n:=by rw [h.sw.len,hn]
theorem Pq.mid (h:Pq l n m a b) (hs:Sw a b m m') (h0:0 <= a /\ b <= n):Pq l n m' a b:=by
 refine ⟨h.sw.trans (hs.wide h0.1 h0.2),fun i j h1 h2 h3=>?_,fun i j h1 h2 h3=>?_,fun s t h1 h2 h3=>?_,fun s t h1 h2 h3=>?_⟩
 ·rw [hs.out (t:=i) (by omega),hs.out (t:=j) (by omega)]; exact h.lo i j h1 h2 h3
 ·rw [hs.out (t:=i) (by omega),hs.out (t:=j) (by omega)]; exact h.hi i j h1 h2 h3
 ·rw [hs.out (t:=s) (by omega)]
  by_cases ht:(t:Int) < b
  ·exact hs.all (Q:=fun y=>gi m s <= y) (fun t p1 p2=>h.lx s t h1 p1 (by omega)) t h2 ht
  ·rw [hs.out (t:=t) (by omega)]; exact h.lx s t h1 h2 h3
 ·rw [hs.out (t:=t) (by omega)]
  by_cases hsa:(s:Int) < a
  ·rw [hs.out (t:=s) (by omega)]; exact h.hx s t h1 h2 h3
  ·exact hs.all (Q:=fun y=>y <= gi m t) (fun s p1 p2=>h.hx s t p2 h2 h3) s (by omega) h1
theorem Pq.fin (h:Pq l n m a b) (hs:Srt a b m):Srt 0 n m:=fun i j h1 h2 h3=>by
 by_cases ia:(i:Int) < a
 ·by_cases ja:(j:Int) < a
  ·exact h.lo i j h1 h2 ja
  ·exact h.lx i j ia (by omega) (by omega)
 ·by_cases jb:(j:Int) < b
  ·exact hs i j (by omega) h2 jb
  ·by_cases ib:(i:Int) < b
   ·exact h.hx i j ib (by omega) (by omega)
   ·exact h.hi i j (by omega) h2 h3
theorem Pq.left (h:Pq l n m a b) (hs:Srt a x m) (h1:∀ t:Nat,a <= t -> (t:Int) < x -> gi m t <= gi m x.toNat) (h2:∀ t:Nat,x < t -> (t:Int) < b -> gi m x.toNat <= gi m t) (h0:0 <= a /\ a <= x /\ x < b /\ b <= n):Pq l n m (x + 1) b:=by
 refine ⟨h.sw,fun i j p1 p2 p3=>?_,h.hi,fun s t p1 p2 p3=>?_,h.hx⟩
 ·by_cases ia:(i:Int) < a
  ·by_cases ja:(j:Int) < a
   ·exact h.lo i j p1 p2 ja
   ·exact h.lx i j ia (by omega) (by omega)
  ·by_cases jx:(j:Int) < x
   ·exact hs i j (by omega) p2 jx
   ·have ej:j = x.toNat:=by omega
    by_cases ix:(i:Int) < x
    ·rw [ej]; exact h1 i (by omega) ix
    ·rw [show i = j by omega]; exact Int.le_refl _
 ·by_cases sa:(s:Int) < a
  ·exact h.lx s t sa (by omega) p3
  ·have q:gi m s <= gi m x.toNat:=by
    by_cases sx:(s:Int) < x
    ·exact h1 s (by omega) sx
    ·rw [show s = x.toNat by omega]; exact Int.le_refl _
   by_cases tb:(t:Int) < b
   ·have:=h2 t (by omega) tb; omega
   ·have:=h.hx x.toNat t (by omega) (by omega) p3; omega
theorem Pq.right (h:Pq l n m a b) (hs:Srt (x + 1) b m) (h1:∀ t:Nat,a <= t -> (t:Int) < x -> gi m t <= gi m x.toNat) (h2:∀ t:Nat,x < t -> (t:Int) < b -> gi m x.toNat <= gi m t) (h0:0 <= a /\ a <= x /\ x < b /\ b <= n):Pq l n m a x:=by
 refine ⟨h.sw,h.lo,fun i j p1 p2 p3=>?_,h.lx,fun s t p1 p2 p3=>?_⟩
 ·by_cases ib:(i:Int) < b
  ·by_cases jb:(j:Int) < b
   ·by_cases ix:(i:Int) = x
    ·by_cases jx:(j:Int) = x
     ·rw [show i = j by omega]; exact Int.le_refl _
     ·rw [show i = x.toNat by omega]; exact h2 j (by omega) jb
    ·exact hs i j (by omega) p2 jb
   ·exact h.hx i j ib (by omega) (by omega)
  ·exact h.hi i j (by omega) p2 p3
 ·by_cases sa:(s:Int) < a
  ·exact h.lx s t sa (by omega) p3
  ·have q:=h1 s (by omega) p1
   by_cases tb:(t:Int) < b
   ·by_cases tx:(t:Int) = x
    ·rw [show t = x.toNat by omega]; exact q
    ·have:=h2 t (by omega) tb; omega
   ·exact h.hx s t (by omega) (by omega) p3
theorem Pq.equal (h:Pq l n m a b) (hs:Sw a b m m') {pv:Int} (hp:gi m (a - 1).toNat >= pv) (h1:∀ t:Nat,a <= t -> (t:Int) < x -> gi m' t <= pv) (h2:∀ t:Nat,x <= t -> (t:Int) < b -> pv < gi m' t) (h0:0 < a /\ a < x /\ x <= b /\ b <= n):Pq l n m' x b:=by
 have h':=h.mid hs ⟨by omega,by omega⟩
 have hge:∀ t:Nat,a <= t -> (t:Int) < b -> pv <= gi m' t:=hs.all (Q:=fun y=>pv <= y) fun t p1 p2=>by
  have:=h.lx (a - 1).toNat t (by omega) p1 (by omega); omega
 refine ⟨h'.sw,fun i j p1 p2 p3=>?_,h'.hi,fun s t p1 p2 p3=>?_,h'.hx⟩
 ·by_cases ia:(i:Int) < a
  ·by_cases ja:(j:Int) < a
   ·exact h'.lo i j p1 p2 ja
   ·exact h'.lx i j ia (by omega) (by omega)
  ·have q1:=h1 i (by omega) (by omega)
   have q2:=hge j (by omega) (by omega)
   omega
 ·by_cases sa:(s:Int) < a
  ·exact h'.lx s t sa (by omega) p3
  ·have q1:=h1 s (by omega) p1
   by_cases tb:(t:Int) < b
   ·have q2:=h2 t p2 tb; omega
   ·exact h'.hx s t (by omega) (by omega) p3
end
theorem c_pdq12 {l:List Int} {n:Nat} {a b k:Int} (hn:l.length = n) (h0:0 <= a /\ a <= 1000) (hab:b - a <= 12 /\ -100 <= b - a) (hb:b <= n) (hl:n <= 1000):PSpecM Tryz.prog 130 [.rf 0 0 n,.int .i64 a,.int .i64 b,.int .i64 k] [(0,2,1)] [vi .i64 l] fun v c=>v = .tup [] /\ ∃ m,c = [vi .i64 m] /\ Sw a b l m /\ Srt a b m:=by
 refine slices_pdqsortOrdered_int64_f.m rfl rfl ?_
 dsimp only [slices_pdqsortOrdered_int64_F,pcal_B,pcalp_B,pcala_B,pcond_B,pgk_B,JN_B,LP_B]
 (refine bni ?_;repeat (refine bnk ?_;(try simp (disch:=first|omega|(simp only [LN];omega)) only [↓EC,EW,seval,↓reduceIte,↓ED,EE])))
 refine LPx_of (σ:=Unit) 100000 [(0,2,1)] (fun s=>[.int .i64 a,.int .i64 b,.int .i64 k,.bool true,.bool true]) (fun s=>[vi .i64 l]) (fun s=>True) (fun s=>0) () (by simp [frameOk,names,lpz,sclp,scv,scvs,nrfs,nrf,FRB]) trivial ?_ ?_
 ·(refine bni ?_;repeat (refine bnk ?_;simp (disch:=first|omega|(simp only [LN];omega)) only [↓EC,EW,seval,↓reduceIte,↓ED,EE,CVd]))
 ·rintro _ _
  (refine bni ?_;repeat (refine bnk ?_;simp (disch:=first|omega|(simp only [LN];omega)) only [↓EC,EW,seval,↓reduceIte,↓ED,EE,CVd,lhd]))
  (refine Split.mB (fun h=>?_) (fun h=>?_) <;> (try simp only [SD]at h))
  ·(refine bni ?_;repeat (refine bnk ?_;(try simp (disch:=first|omega|(simp only [LN];omega)) only [↓EC,EW,seval,↓reduceIte,↓ED,EE])))
   refine pcm [0] rfl ?_; (refine bni ?_;repeat (refine bnk ?_;(try simp (disch:=first|omega|(simp only [LN];omega)) only [↓EC,EW,seval,↓reduceIte,↓ED,EE])))
   refine callM_d (c_insS (a:=a) (b:=b) hn h0 hb hl) ?_
   rintro _ _ ⟨rfl,m',rfl,hm'⟩
   (refine bni ?_;repeat (refine bnk ?_;(try simp (disch:=first|omega|(simp only [LN];omega)) only [↓EC,EW,seval,↓reduceIte,↓ED,EE])))
   exact ⟨m',rfl,hm'⟩
  ·omega
theorem c_pdqS {l:List Int} {n:Nat} {k0:Int} (hl:n <= 16) (hn:l.length = n) (hk:0 <= k0 /\ k0 <= 5 /\ (n <= 12 ∨ (n:Int) - 12 < k0)) :
  PSpecM Tryz.prog 130 [.rf 0 0 n,.int .i64 0,.int .i64 n,.int .i64 k0] [(0,2,1)] [vi .i64 l] fun v c=>v = .tup [] /\ ∃ m,c = [vi .i64 m] /\ Sw 0 n l m /\ Srt 0 n m:=by
 refine slices_pdqsortOrdered_int64_f.m rfl rfl ?_
 dsimp only [slices_pdqsortOrdered_int64_F,pcal_B,pcalp_B,pcala_B,pcond_B,pgk_B,JN_B,LP_B]
 (refine bni ?_;repeat (refine bnk ?_;(try simp (disch:=first|omega|(simp only [LN];omega)) only [↓EC,EW,seval,↓reduceIte,↓ED,EE])))
 refine LPx_of (σ:=List Int × (Int × Int × Int) × Bool × Bool) 100000 [(0,2,1)] (fun s=>[.int .i64 s.2.1.1,.int .i64 s.2.1.2.1,.int .i64 s.2.1.2.2,.bool s.2.2.1,.bool s.2.2.2]) (fun s=>[vi .i64 s.1])
  (fun s=>Pq l n s.1 s.2.1.1 s.2.1.2.1 /\ 0 <= s.2.1.1 /\ s.2.1.1 <= s.2.1.2.1 /\ s.2.1.2.1 <= n /\ 0 <= s.2.1.2.2 /\ s.2.1.2.2 <= 5 /\ (s.2.1.2.1 - s.2.1.1 <= 12 ∨ s.2.1.2.1 - s.2.1.1 - 12 < s.2.1.2.2)) (fun s=>(s.2.1.2.1 - s.2.1.1).toNat) (l,(0,n,k0),true,true) (by simp [frameOk,names,lpz,sclp,scv,scvs,nrfs,nrf,FRB])
   ⟨⟨.refl _,fun i j h1 h2 h3=>by simp only at h3; omega,fun i j h1 h2 h3=>by simp only at h1; omega,fun s t h1 h2 h3=>by simp only at h1; omega,fun s t h1 h2 h3=>by simp only at h2; omega⟩,by simp only; omega⟩ ?_ ?_
 ·(refine bni ?_;repeat (refine bnk ?_;simp (disch:=first|omega|(simp only [LN];omega)) only [↓EC,EW,seval,↓reduceIte,↓ED,EE,CVd]))
 ·rintro ⟨m,⟨a,b,k⟩,w,p⟩ ⟨hq,h2,h3,h4,h6,h7,h8⟩
  simp only at hq h2 h3 h4 h6 h7 h8
  have h1:=hq.len hn
  (refine bni ?_;repeat (refine bnk ?_;simp (disch:=first|omega|(simp only [LN];omega)) only [↓EC,EW,seval,↓reduceIte,↓ED,EE,CVd,lhd]))
  (refine Split.mB (fun h=>?_) (fun h=>?_) <;> (try simp only [SD]at h))
  ·(refine bni ?_;repeat (refine bnk ?_;(try simp (disch:=first|omega|(simp only [LN];omega)) only [↓EC,EW,seval,↓reduceIte,↓ED,EE])))
   refine pcm [0] rfl ?_; (refine bni ?_;repeat (refine bnk ?_;(try simp (disch:=first|omega|(simp only [LN];omega)) only [↓EC,EW,seval,↓reduceIte,↓ED,EE])))
   refine callM_d (c_insS (a:=a) (b:=b) h1 (by omega) (by omega) (by omega)) ?_
   rintro _ _ ⟨rfl,m',rfl,hs,hst⟩
   (refine bni ?_;repeat (refine bnk ?_;(try simp (disch:=first|omega|(simp only [LN];omega)) only [↓EC,EW,seval,↓reduceIte,↓ED,EE])))
   exact ⟨m',rfl,(hq.mid hs ⟨by omega,by omega⟩).sw,(hq.mid hs ⟨by omega,by omega⟩).fin hst⟩
  ·(refine bni ?_;repeat (refine bnk ?_;(try simp (disch:=first|omega|(simp only [LN];omega)) only [↓EC,EW,seval,↓reduceIte,↓ED,EE])))
   (refine Split.mB (fun h=>?_) (fun h=>?_) <;> (try simp only [SD]at h))
   ·omega
   ·(refine bni ?_;repeat (refine bnk ?_;(try simp (disch:=first|omega|(simp only [LN];omega)) only [↓EC,EW,seval,↓reduceIte,↓ED,EE])))
    refine JNx_of (fun o h=>∃ (m:List Int) (k':Int) (h':Hp),o = [.rf 0 0 n,.int .i64 a,.int .i64 b,.int .i64 k',.bool w,.bool p,.int .i64 (b - a)] /\ h = hput h' 0 (.row 2 1 (vi .i64 m)) /\ Pq l n m a b /\ k - 1 <= k' /\ k' <= k) ?_ ?_
    ·intro K hK
     (refine bni ?_;repeat (refine bnk ?_;(try simp (disch:=first|omega|(simp only [LN];omega)) only [↓EC,EW,seval,↓reduceIte,↓ED,EE])))
     (refine Split.mB (fun h=>?_) (fun h=>?_) <;> (try simp only [SD]at h))
     ·(refine bni ?_;repeat (refine bnk ?_;(try simp (disch:=first|omega|(simp only [LN];omega)) only [↓EC,EW,seval,↓reduceIte,↓ED,EE])))
      refine pcm [0] rfl ?_; (refine bni ?_;repeat (refine bnk ?_;(try simp (disch:=first|omega|(simp only [LN];omega)) only [↓EC,EW,seval,↓reduceIte,↓ED,EE])))
      refine callM_d (c_brkS (a:=a) (b:=b) h1 (by omega) (by omega) (by omega) (by omega)) ?_
      rintro _ _ ⟨rfl,m',rfl,hm'⟩
      (refine bni ?_;repeat (refine bnk ?_;(try simp (disch:=first|omega|(simp only [LN];omega)) only [↓EC,EW,seval,↓reduceIte,↓ED,EE])))
      exact hK _ _ ⟨m',k - 1,_,rfl,rfl,hq.mid hm' ⟨by omega,by omega⟩,by omega,by omega⟩
     ·(refine bni ?_;repeat (refine bnk ?_;(try simp (disch:=first|omega|(simp only [LN];omega)) only [↓EC,EW,seval,↓reduceIte,↓ED,EE])))
      exact hK _ _ ⟨m,k,_,rfl,rfl,hq,by omega,by omega⟩
    ·rintro _ _ ⟨m,k',h',rfl,rfl,hq,h6',h7'⟩
     have h1:=hq.len hn
     have hlim:b - a - 12 < k:=by omega
     have hk':0 <= k' /\ k' <= 5 /\ b - a - 1 - 12 < k':=by omega
     clear h6 h7 h8 h6' h7' hlim
     (refine bni ?_;repeat (refine bnk ?_;(try simp (disch:=first|omega|(simp only [LN];omega)) only [↓EC,EW,seval,↓reduceIte,↓ED,EE])))
     refine pcd_r (c_choosePivot (a:=a) (b:=b) h1 (by omega) (by omega) (by omega) (by omega)) ?_
     rintro _ ⟨x,y,rfl,hx,hx',hy,hy'⟩
     (refine bni ?_;repeat (refine bnk ?_;(try simp (disch:=first|omega|(simp only [LN];omega)) only [↓EC,EW,seval,↓reduceIte,↓ED,EE])))
     refine JNx_of (fun o h=>∃ (m:List Int) (w p:Bool) (x y:Int) (h':Hp),o = [.rf 0 0 n,.int .i64 a,.int .i64 b,.int .i64 k',.bool w,.bool p,.int .i64 (b - a),.int .i64 x,.int .i64 y] /\ h = hput h' 0 (.row 2 1 (vi .i64 m)) /\ Pq l n m a b /\ a <= x /\ x < b) ?_ ?_
     ·intro K hK
      (refine bni ?_;repeat (refine bnk ?_;(try simp (disch:=first|omega|(simp only [LN];omega)) only [↓EC,EW,seval,↓reduceIte,↓ED,EE])))
      (refine Split.mB (fun h=>?_) (fun h=>?_) <;> (try simp only [SD]at h))
      ·(refine bni ?_;repeat (refine bnk ?_;(try simp (disch:=first|omega|(simp only [LN];omega)) only [↓EC,EW,seval,↓reduceIte,↓ED,EE])))
       refine pcm [0] rfl ?_; (refine bni ?_;repeat (refine bnk ?_;(try simp (disch:=first|omega|(simp only [LN];omega)) only [↓EC,EW,seval,↓reduceIte,↓ED,EE])))
       refine callM_d (c_revS (a:=a) (b:=b) h1 (by omega) (by omega) (by omega)) ?_
       rintro _ _ ⟨rfl,m',rfl,hm'⟩
       (refine bni ?_;repeat (refine bnk ?_;(try simp (disch:=first|omega|(simp only [LN];omega)) only [↓EC,EW,seval,↓reduceIte,↓ED,EE])))
       exact hK _ _ ⟨m',w,p,_,_,_,rfl,rfl,hq.mid hm' ⟨by omega,by omega⟩,by omega,by omega⟩
      ·(refine bni ?_;repeat (refine bnk ?_;(try simp (disch:=first|omega|(simp only [LN];omega)) only [↓EC,EW,seval,↓reduceIte,↓ED,EE])))
       exact hK _ _ ⟨m,w,p,_,_,_,rfl,rfl,hq,by omega,by omega⟩
     ·rintro _ _ ⟨m,w,p,x,y,h',rfl,rfl,hq,hx,hx'⟩
      have h1:=hq.len hn
      (refine bni ?_;repeat (refine bnk ?_;(try simp (disch:=first|omega|(simp only [LN];omega)) only [↓EC,EW,seval,↓reduceIte,↓ED,EE])))
      refine JNx_of (fun o h=>∃ (m:List Int) (h':Hp),o = [.rf 0 0 n,.int .i64 a,.int .i64 b,.int .i64 k',.bool w,.bool p,.int .i64 (b - a),.int .i64 x] /\ h = hput h' 0 (.row 2 1 (vi .i64 m)) /\ Pq l n m a b) ?_ ?_
      ·intro K hK
       cases w
       ·(refine bni ?_;repeat (refine bnk ?_;(try simp (disch:=first|omega|(simp only [LN];omega)) only [↓EC,EW,seval,↓reduceIte,↓ED,EE])))
        exact hK _ _ ⟨m,_,rfl,rfl,hq⟩
       ·cases p
        ·(refine bni ?_;repeat (refine bnk ?_;(try simp (disch:=first|omega|(simp only [LN];omega)) only [↓EC,EW,seval,↓reduceIte,↓ED,EE])))
         exact hK _ _ ⟨m,_,rfl,rfl,hq⟩
        ·(refine bni ?_;repeat (refine bnk ?_;(try simp (disch:=first|omega|(simp only [LN];omega)) only [↓EC,EW,seval,↓reduceIte,↓ED,EE])))
         (refine Split.mB (fun h=>?_) (fun h=>?_) <;> (try simp only [SD]at h))
         ·(refine bni ?_;repeat (refine bnk ?_;(try simp (disch:=first|omega|(simp only [LN];omega)) only [↓EC,EW,seval,↓reduceIte,↓ED,EE])))
          refine pcd_r (c_parS (a:=a) (b:=b) h1 (by omega) (by omega) (by omega) (by omega)) ?_
          rintro _ ⟨r,rfl,hr⟩
          cases r
          ·(refine bni ?_;repeat (refine bnk ?_;(try simp (disch:=first|omega|(simp only [LN];omega)) only [↓EC,EW,seval,↓reduceIte,↓ED,EE])))
           exact hK _ _ ⟨m,_,rfl,rfl,hq⟩
          ·(refine bni ?_;repeat (refine bnk ?_;(try simp (disch:=first|omega|(simp only [LN];omega)) only [↓EC,EW,seval,↓reduceIte,↓ED,EE])))
           exact ⟨m,rfl,hq.sw,hq.fin (hr rfl)⟩
         ·(refine bni ?_;repeat (refine bnk ?_;(try simp (disch:=first|omega|(simp only [LN];omega)) only [↓EC,EW,seval,↓reduceIte,↓ED,EE])))
          exact hK _ _ ⟨m,_,rfl,rfl,hq⟩
      ·rintro _ _ ⟨m,h',rfl,rfl,hq⟩
       have h1:=hq.len hn
       (refine bni ?_;repeat (refine bnk ?_;(try simp (disch:=first|omega|(simp only [LN];omega)) only [↓EC,EW,seval,↓reduceIte,↓ED,EE])))
       (refine Split.mB (fun h=>?_) (fun h=>?_) <;> (try simp only [SD]at h))
       ·(refine bni ?_;repeat (refine bnk ?_;(try simp (disch:=first|omega|(simp only [LN];omega)) only [↓EC,EW,seval,↓reduceIte,↓ED,EE])))
        refine pcd_v c_less ?_
        (refine bni ?_;repeat (refine bnk ?_;(try simp (disch:=first|omega|(simp only [LN];omega)) only [↓EC,EW,seval,↓reduceIte,↓ED,EE])))
        (refine Split.mB (fun h=>?_) (fun h=>?_) <;> (try simp only [SD]at h))
        ·(refine bni ?_;repeat (refine bnk ?_;(try simp (disch:=first|omega|(simp only [LN];omega)) only [↓EC,EW,seval,↓reduceIte,↓ED,EE])))
         refine pcm [0] rfl ?_; (refine bni ?_;repeat (refine bnk ?_;(try simp (disch:=first|omega|(simp only [LN];omega)) only [↓EC,EW,seval,↓reduceIte,↓ED,EE])))
         refine callM_d (c_pteS (a:=a) (b:=b) (p:=x) h1 (by omega) (by omega) (by omega) (by omega) (by omega)) ?_
         rintro _ _ ⟨x',m',rfl,rfl,hs',hy1,hy2,hlo,hhi⟩
         have hq':=hq.equal hs' (pv:=gi m x.toNat) (by grind) hlo hhi (by omega)
         (refine bni ?_;repeat (refine bnk ?_;(try simp (disch:=first|omega|(simp only [LN];omega)) only [↓EC,EW,seval,↓reduceIte,↓ED,EE])))
         exact ⟨(m',(x',b,k'),w,p),rfl,rfl,⟨hq',by simp only; omega⟩,by simp only; omega⟩
        ·(refine bni ?_;repeat (refine bnk ?_;(try simp (disch:=first|omega|(simp only [LN];omega)) only [↓EC,EW,seval,↓reduceIte,↓ED,EE])))
         refine pcm [0] rfl ?_; (refine bni ?_;repeat (refine bnk ?_;(try simp (disch:=first|omega|(simp only [LN];omega)) only [↓EC,EW,seval,↓reduceIte,↓ED,EE])))
         refine callM_d (c_ptS (a:=a) (b:=b) (p:=x) h1 (by omega) (by omega) (by omega) (by omega) (by omega)) ?_
         rintro _ _ ⟨x',r,m',rfl,rfl,hs',hy1,hy2,hlo,hhi⟩
         have hq':=hq.mid hs' ⟨by omega,by omega⟩
         have h1':=hq'.len hn
         (refine bni ?_;repeat (refine bnk ?_;(try simp (disch:=first|omega|(simp only [LN];omega)) only [↓EC,EW,seval,↓reduceIte,↓ED,EE])))
         (refine Split.mB (fun h=>?_) (fun h=>?_) <;> (try simp only [SD]at h))
         ·(refine bni ?_;repeat (refine bnk ?_;(try simp (disch:=first|omega|(simp only [LN];omega)) only [↓EC,EW,seval,↓reduceIte,↓ED,EE])))
          refine pcm [0] rfl ?_; (refine bni ?_;repeat (refine bnk ?_;(try simp (disch:=first|omega|(simp only [LN];omega)) only [↓EC,EW,seval,↓reduceIte,↓ED,EE])))
          refine callM_d (c_pdq12 (l:=m') (a:=a) (b:=x') (k:=k') h1' (by omega) (by omega) (by omega) (by omega)) ?_
          rintro _ _ ⟨rfl,m'',rfl,hs'',hst⟩
          (refine bni ?_;repeat (refine bnk ?_;(try simp (disch:=first|omega|(simp only [LN];omega)) only [↓EC,EW,seval,↓reduceIte,↓ED,EE])))
          have hq'':=(hq'.mid (hs''.wide (Int.le_refl _) (by omega)) ⟨by omega,by omega⟩).left hst (fun t p1 p2=>by
           rw [hs''.out (t:=x'.toNat) (by omega)]
           exact hs''.all (Q:=fun y=>y <= gi m' x'.toNat) hlo t p1 p2) (fun t p1 p2=>by
           rw [hs''.out (t:=x'.toNat) (by omega),hs''.out (t:=t) (by omega)]; exact hhi t p1 p2) (by omega)
          exact ⟨(m'',(x' + 1,b,k'),_,r),rfl,rfl,⟨hq'',by simp only; omega⟩,by simp only; omega⟩
         ·(refine bni ?_;repeat (refine bnk ?_;(try simp (disch:=first|omega|(simp only [LN];omega)) only [↓EC,EW,seval,↓reduceIte,↓ED,EE])))
          refine pcm [0] rfl ?_; (refine bni ?_;repeat (refine bnk ?_;(try simp (disch:=first|omega|(simp only [LN];omega)) only [↓EC,EW,seval,↓reduceIte,↓ED,EE])))
          refine callM_d (c_pdq12 (l:=m') (a:=x' + 1) (b:=b) (k:=k') h1' (by omega) (by omega) (by omega) (by omega)) ?_
          rintro _ _ ⟨rfl,m'',rfl,hs'',hst⟩
          (refine bni ?_;repeat (refine bnk ?_;(try simp (disch:=first|omega|(simp only [LN];omega)) only [↓EC,EW,seval,↓reduceIte,↓ED,EE])))
          have hq'':=(hq'.mid (hs''.wide (by omega) (Int.le_refl _)) ⟨by omega,by omega⟩).right hst (fun t p1 p2=>by
           rw [hs''.out (t:=x'.toNat) (by omega),hs''.out (t:=t) (by omega)]; exact hlo t p1 p2) (fun t p1 p2=>by
           rw [hs''.out (t:=x'.toNat) (by omega)]
           exact hs''.all (Q:=fun y=>gi m' x'.toNat <= y) (fun t p1 p2=>hhi t (by omega) p2) t (by omega) p2) (by omega)
          exact ⟨(m'',(a,x',k'),_,r),rfl,rfl,⟨hq'',by simp only; omega⟩,by simp only; omega⟩
       ·(refine bni ?_;repeat (refine bnk ?_;(try simp (disch:=first|omega|(simp only [LN];omega)) only [↓EC,EW,seval,↓reduceIte,↓ED,EE])))
        refine pcm [0] rfl ?_; (refine bni ?_;repeat (refine bnk ?_;(try simp (disch:=first|omega|(simp only [LN];omega)) only [↓EC,EW,seval,↓reduceIte,↓ED,EE])))
        refine callM_d (c_ptS (a:=a) (b:=b) (p:=x) h1 (by omega) (by omega) (by omega) (by omega) (by omega)) ?_
        rintro _ _ ⟨x',r,m',rfl,rfl,hs',hy1,hy2,hlo,hhi⟩
        have hq':=hq.mid hs' ⟨by omega,by omega⟩
        have h1':=hq'.len hn
        (refine bni ?_;repeat (refine bnk ?_;(try simp (disch:=first|omega|(simp only [LN];omega)) only [↓EC,EW,seval,↓reduceIte,↓ED,EE])))
        (refine Split.mB (fun h=>?_) (fun h=>?_) <;> (try simp only [SD]at h))
        ·(refine bni ?_;repeat (refine bnk ?_;(try simp (disch:=first|omega|(simp only [LN];omega)) only [↓EC,EW,seval,↓reduceIte,↓ED,EE])))
         refine pcm [0] rfl ?_; (refine bni ?_;repeat (refine bnk ?_;(try simp (disch:=first|omega|(simp only [LN];omega)) only [↓EC,EW,seval,↓reduceIte,↓ED,EE])))
         refine callM_d (c_pdq12 (l:=m') (a:=a) (b:=x') (k:=k') h1' (by omega) (by omega) (by omega) (by omega)) ?_
         rintro _ _ ⟨rfl,m'',rfl,hs'',hst⟩
         (refine bni ?_;repeat (refine bnk ?_;(try simp (disch:=first|omega|(simp only [LN];omega)) only [↓EC,EW,seval,↓reduceIte,↓ED,EE])))
         have hq'':=(hq'.mid (hs''.wide (Int.le_refl _) (by omega)) ⟨by omega,by omega⟩).left hst (fun t p1 p2=>by
          rw [hs''.out (t:=x'.toNat) (by omega)]
          exact hs''.all (Q:=fun y=>y <= gi m' x'.toNat) hlo t p1 p2) (fun t p1 p2=>by
          rw [hs''.out (t:=x'.toNat) (by omega),hs''.out (t:=t) (by omega)]; exact hhi t p1 p2) (by omega)
         exact ⟨(m'',(x' + 1,b,k'),_,r),rfl,rfl,⟨hq'',by simp only; omega⟩,by simp only; omega⟩
        ·(refine bni ?_;repeat (refine bnk ?_;(try simp (disch:=first|omega|(simp only [LN];omega)) only [↓EC,EW,seval,↓reduceIte,↓ED,EE])))
         refine pcm [0] rfl ?_; (refine bni ?_;repeat (refine bnk ?_;(try simp (disch:=first|omega|(simp only [LN];omega)) only [↓EC,EW,seval,↓reduceIte,↓ED,EE])))
         refine callM_d (c_pdq12 (l:=m') (a:=x' + 1) (b:=b) (k:=k') h1' (by omega) (by omega) (by omega) (by omega)) ?_
         rintro _ _ ⟨rfl,m'',rfl,hs'',hst⟩
         (refine bni ?_;repeat (refine bnk ?_;(try simp (disch:=first|omega|(simp only [LN];omega)) only [↓EC,EW,seval,↓reduceIte,↓ED,EE])))
         have hq'':=(hq'.mid (hs''.wide (by omega) (Int.le_refl _)) ⟨by omega,by omega⟩).right hst (fun t p1 p2=>by
          rw [hs''.out (t:=x'.toNat) (by omega),hs''.out (t:=t) (by omega)]; exact hlo t p1 p2) (fun t p1 p2=>by
          rw [hs''.out (t:=x'.toNat) (by omega)]
          exact hs''.all (Q:=fun y=>gi m' x'.toNat <= y) (fun t p1 p2=>hhi t (by omega) p2) t (by omega) p2) (by omega)
         exact ⟨(m'',(a,x',k'),_,r),rfl,rfl,⟨hq'',by simp only; omega⟩,by simp only; omega⟩
theorem c_SortS {l:List Int} {n:Nat} (hn:l.length = n) (hl:n <= 16):PSpecM Tryz.prog 124 [.rf 0 0 n] [(0,2,1)] [vi .i64 l] fun v c=>v = .tup [] /\ ∃ m,c = [vi .i64 m] /\ Sw 0 n l m /\ Srt 0 n m:=by
 refine slices_Sort_int64_int64_i_f.m rfl rfl ?_
 dsimp only [slices_Sort_int64_int64_i_F,pcal_B,pcalp_B,pcala_B,pcond_B,pgk_B,JN_B,LP_B]
 (refine bni ?_;repeat (refine bnk ?_;(try simp (disch:=first|omega|(simp only [LN];omega)) only [↓EC,EW,seval,↓reduceIte,↓ED,EE])))
 refine pcd_r (c_LenN (k:=n) (by omega)) ?_
 rintro _ ⟨r,rfl,h1,h2,h3⟩
 (refine bni ?_;repeat (refine bnk ?_;(try simp (disch:=first|omega|(simp only [LN];omega)) only [↓EC,EW,seval,↓reduceIte,↓ED,EE])))
 refine pcm [0] rfl ?_; (refine bni ?_;repeat (refine bnk ?_;(try simp (disch:=first|omega|(simp only [LN];omega)) only [↓EC,EW,seval,↓reduceIte,↓ED,EE])))
 refine callM_d (c_pdqS hl hn (k0:=r) ⟨h1,h2,by
  by_cases h8:8 <= n
  ·have:=h3 h8; omega
  ·omega⟩) ?_
 rintro _ _ ⟨rfl,m,rfl,hm⟩
 (refine bni ?_;repeat (refine bnk ?_;(try simp (disch:=first|omega|(simp only [LN];omega)) only [↓EC,EW,seval,↓reduceIte,↓ED,EE])))
 exact ⟨m,rfl,hm⟩
end
section
set_option maxHeartbeats 1000000
def dsc (l:List Int):List Int:=l.mergeSort fun a b=>decide (b <= a)
theorem dsc_perm (l:List Int):(dsc l).Perm l:=List.mergeSort_perm l _
theorem dsc_pw (l:List Int):(dsc l).Pairwise fun a b=>b <= a:=by
 have:=List.pairwise_mergeSort (le:=fun a b:Int=>decide (b <= a)) (fun a b c h h'=>by simp only [decide_eq_true_eq] at *; omega) (fun a b=>by simp only [Bool.or_eq_true,decide_eq_true_eq]; omega) l
 exact this.imp fun h=>by simpa using h
theorem dsc_eq {l m:List Int} (h:m.Perm l) (hm:m.Pairwise fun a b=>b <= a):m = dsc l :=
 List.Perm.eq_of_pairwise (le:=fun a b=>b <= a) (fun a b _ _ h h'=>Int.le_antisymm h' h) hm (dsc_pw l) (h.trans (dsc_perm l).symm)
theorem dsc_len {l:List Int}:(dsc l).length = l.length:=(dsc_perm l).length_eq
theorem dsc_mem {l:List Int} {a:Int}:a ∈ dsc l ↔ a ∈ l:=(dsc_perm l).mem_iff
theorem dsc_of {l m:List Int} {n:Nat} (hn:l.length = n) (h:Sw 0 n l m) (hs:Srt 0 n m):m.reverse = dsc l:=by
 have hm:m.length = n:=by rw [h.len,hn]
 refine dsc_eq ((List.reverse_perm m).trans (List.perm_iff_count.2 fun c=>h.cnt c)) ?_
 rw [List.pairwise_reverse,List.pairwise_iff_getElem]
 intro i j hi hj hij
 have:=hs i j (by omega) (by omega) (by omega)
 rw [gi_of hi,gi_of hj] at this
 exact this
section
variable {p q σ:List Int} {n:Int} {N:Nat}
theorem Per.shift (hp:Pf p N) {r L:Nat} (hr:r < N) (h:Per p r L) (j:Nat):Per p (it p j r) L:=by
 refine ⟨h.pos,?_,fun i h0 hi e=>?_⟩
 ·rw [<-it_add,Nat.add_comm,it_add,h.ret]
 ·rw [<-it_add,Nat.add_comm,it_add] at e
  exact h.min i h0 hi (it_inj hp (it_lt hp hr i) hr j e)
def lenW (p:List Int) (n:Int) (x:Nat):Nat:=(gl (cyc p n) (wh p n x)).length
theorem Pd.per (h:Pd p n) {x:Nat} (hx:x < n.toNat):Per p x (lenW p n x):=by
 obtain ⟨r,L,hr,_,hL,e⟩:=cyc_orb h.pf h.nn (h.wh_lt (x:=x))
 have hm:=(h.wh_iff hx h.wh_lt).2 rfl
 rw [e] at hm
 obtain ⟨j,hj,ej⟩:=orb_mem.1 hm
 have hs:=Per.shift h.pf hr hL j
 have:lenW p n x = L:=by unfold lenW; rw [e,orb_len]
 rw [this,<-ej]; exact hs
def lens (p:List Int) (n:Int):List Int:=(cyc p n).map fun l=>(l.length:Int)
theorem lens_len:(lens p n).length = (cyc p n).length:=by simp [lens]
theorem smE_len {A:List (List Int)} {c:Nat}:∀ s,s <= A.length -> smE s (fun v=>if (gl A v).length = c then (c:Int) else 0) = c * (((A.take s).map fun l=>(l.length:Int)).count (c:Int):Int)
 | 0,_=>by simp [smE]
 | s + 1,hs=>by
  have ih:=smE_len (A:=A) (c:=c) s (by omega)
  have h1:s < A.length:=by omega
  simp only [smE]
  rw [ih,List.take_succ_eq_append_getElem h1,List.map_append,List.count_append,gl_of h1]
  simp only [List.map_cons,List.map_nil,List.count_cons,List.count_nil,Nat.zero_add]
  by_cases q:A[s].length = c
  ·rw [if_pos q,if_pos (by simp only [beq_iff_eq]; omega)]; simp; grind
  ·rw [if_neg q,if_neg (by simp only [beq_iff_eq]; omega)]; simp
theorem sumT_ones {l:List Int} (h:∀ y ∈ l,0 <= y /\ y < n):∀ s,s <= l.length -> sumT (tab n fun _=>1) l s = s
 | 0,_=>rfl
 | s + 1,hs=>by
  have:=h (gi l s) (by rw [gi_of (show s < l.length by omega)]; exact List.getElem_mem _)
  simp only [sumT]
  rw [sumT_ones h s (by omega),tab_at (by omega)]; simp
theorem Pd.lens_cnt (h:Pd p n) (c:Nat):(c:Int) * (((lens p n).count (c:Int):Nat):Int) = smE n.toNat fun x=>if lenW p n x = c then 1 else 0:=by
 rw [<-h.all]
 have:=smE_len (A:=cyc p n) (c:=c) _ (Nat.le_refl _)
 rw [List.take_length] at this
 unfold lens
 rw [<-this]
 refine smE_congr _ fun v hv=>?_
 have e1:(smE n.toNat fun e=>if (e:Int) ∈ gl (cyc p n) v then (if lenW p n e = c then 1 else 0) else 0) = if (gl (cyc p n) v).length = c then smE n.toNat (fun e=>if (e:Int) ∈ gl (cyc p n) v then gi (tab n fun _=>1) e else 0) else 0:=by
  by_cases q:(gl (cyc p n) v).length = c
  ·rw [if_pos q]
   refine smE_congr _ fun e he=>?_
   by_cases r:(e:Int) ∈ gl (cyc p n) v
   ·rw [if_pos r,if_pos r,tab_at he,if_pos]
    unfold lenW; rw [<-(h.wh_iff he hv).1 r]; exact q
   ·rw [if_neg r,if_neg r]
  ·rw [if_neg q]
   refine (smE_congr (g:=fun _=>0) _ fun e he=>?_).trans (smE_zero _)
   show (if (e:Int) ∈ gl (cyc p n) v then (if lenW p n e = c then (1:Int) else 0) else 0) = 0
   by_cases r:(e:Int) ∈ gl (cyc p n) v
   ·rw [if_pos r,if_neg]
    unfold lenW; rw [<-(h.wh_iff he hv).1 r]; exact q
   ·rw [if_neg r]
 rw [e1]
 by_cases q:(gl (cyc p n) v).length = c
 ·rw [if_pos q,if_pos q,<-h.sumT hv,sumT_ones (fun y hy=>(cyc_at h.lt h.hn _ (gl_mem hv)).1 y hy) _ (Nat.le_refl _),q]
 ·rw [if_neg q,if_neg q]
theorem Pd.len_pos (h:Pd p n) {a:Int} (ha:a ∈ lens p n):1 <= a:=by
 simp only [lens,List.mem_map] at ha
 obtain ⟨l,hl,rfl⟩:=ha
 obtain ⟨v,hv,rfl⟩:=List.getElem_of_mem hl
 obtain ⟨r,L,hr,_,hL,e⟩:=cyc_orb h.pf h.nn hv
 rw [gl_of hv] at e
 rw [e,orb_len]
 have:=hL.pos; omega
theorem lens_perm (hp:Pd p n) (hq:Pd q n) (s:Nat -> Nat) (hs:∀ g:Nat -> Int,smE n.toNat (fun x=>g (s x)) = smE n.toNat g) (h:∀ x,x < n.toNat -> lenW q n (s x) = lenW p n x):(lens p n).Perm (lens q n):=by
 refine List.perm_iff_count.2 fun c=>?_
 by_cases hc:1 <= c
 ·obtain ⟨k,rfl⟩:∃ k:Nat,c = k:=⟨c.toNat,by omega⟩
  have e1:=hp.lens_cnt k
  have e2:=hq.lens_cnt k
  rw [<-hs] at e2
  have e3:smE n.toNat (fun x=>if lenW q n (s x) = k then (1:Int) else 0) = smE n.toNat fun x=>if lenW p n x = k then 1 else 0:=smE_congr _ fun x hx=>by rw [h x hx]
  rw [e3,<-e1] at e2
  have:=Int.eq_of_mul_eq_mul_left (by omega) e2
  omega
 ·rw [List.count_eq_zero_of_not_mem fun h=>hc (hp.len_pos h),List.count_eq_zero_of_not_mem fun h=>hc (hq.len_pos h)]
theorem it_conj (hp:Pf p N) (h:∀ x,x < N -> fp q (fp σ x) = fp σ (fp p x)) {x:Nat} (hx:x < N):∀ k,it q k (fp σ x) = fp σ (it p k x)
 | 0=>rfl
 | k + 1=>by simp only [it]; rw [it_conj hp h hx k,h _ (it_lt hp hx k)]
theorem lens_conj (hp:Pd p n) (hq:Pd q n) (hσ:Pf σ n.toNat) (h:∀ x,x < n.toNat -> fp q (fp σ x) = fp σ (fp p x)):(lens p n).Perm (lens q n):=by
 refine lens_perm hp hq (fp σ) (fun g=>smE_perm hσ) fun x hx=>?_
 have h1:=hp.per hx
 refine (hq.per (hσ.lt x hx)).same ⟨h1.pos,?_,fun j h0 hj e=>?_⟩
 ·rw [it_conj hp.pf h hx,h1.ret]
 ·rw [it_conj hp.pf h hx] at e
  exact h1.min j h0 hj (hσ.inj _ _ (it_lt hp.pf hx j) hx e)
theorem it_back (hp:Pf p N) (h:∀ x,x < N -> fp q (fp p x) = x) {x:Nat} (hx:x < N):∀ k,it q k (it p k x) = x
 | 0=>rfl
 | k + 1=>by
  rw [it_succ]
  simp only [it]
  rw [h _ (it_lt hp hx k)]
  exact it_back hp h hx k
theorem lens_back (hp:Pd p n) (hq:Pd q n) (h:∀ x,x < n.toNat -> fp q (fp p x) = x) (h':∀ x,x < n.toNat -> fp p (fp q x) = x):(lens p n).Perm (lens q n):=by
 refine lens_perm hp hq (fun x=>x) (fun g=>rfl) fun x hx=>?_
 have h1:=hp.per hx
 refine (hq.per hx).same ⟨h1.pos,?_,fun j h0 hj e=>?_⟩
 ·have:=it_back hp.pf h hx (lenW p n x)
  rw [h1.ret] at this; exact this
 ·have:=it_back hq.pf h' hx j
  rw [e] at this
  exact h1.min j h0 hj this
def typ (p:List Int) (n:Int):List Int:=dsc (lens p n)
theorem typ_len:(typ p n).length = (cyc p n).length:=by unfold typ; rw [dsc_len,lens_len]
theorem Pd.pairs (h:Pd p n):(∀ a ∈ typ p n,a = 2) ↔ ∀ x,x < n.toNat -> fp p x ≠ x /\ fp p (fp p x) = x:=by
 constructor
 ·intro ha x hx
  have h1:=h.per hx
  have h2:lenW p n x = 2:=by
   have:=ha (lenW p n x) (by
    unfold typ; rw [dsc_mem]
    unfold lens lenW
    exact List.mem_map.2 ⟨_,gl_mem h.wh_lt,rfl⟩)
   omega
  rw [h2] at h1
  exact ⟨h1.min 1 (by omega) (by omega),h1.ret⟩
 ·intro hx a ha
  unfold typ at ha; rw [dsc_mem] at ha
  simp only [lens,List.mem_map] at ha
  obtain ⟨l,hl,rfl⟩:=ha
  obtain ⟨v,hv,rfl⟩:=List.getElem_of_mem hl
  obtain ⟨r,L,hr,_,hL,e⟩:=cyc_orb h.pf h.nn hv
  rw [gl_of hv] at e
  rw [e,orb_len]
  have:=(⟨by omega,(hx r hr).2,fun j h0 hj e=>by
   have:j = 1:=by omega
   subst this; exact (hx r hr).1 e⟩:Per p r 2).same hL
  omega
end
end
end Go.Proofs.YtbjbpmicnmjbfaaGreat.Sep

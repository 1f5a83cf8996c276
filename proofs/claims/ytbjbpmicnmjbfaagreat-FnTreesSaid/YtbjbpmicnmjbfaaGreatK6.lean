/- Texts put together: C156, C120, C121, C145, C146, C124, C125, C126, C127, C128, C129, C131, C147, C148, C149, C150, C151, C152, C153, C157, C158, C159, C160, C161, C162, C154, C130, C133, C132, C134, C137, C135, C136, C138, C139, C163. -/
import Derived.Test.YtbjbpmicnmjbfaaGreatK5
namespace Go.Proofs.YtbjbpmicnmjbfaaGreat.Sep
open Go.RowKit
set_option linter.unusedVariables false
set_option linter.unusedSimpArgs false
set_option maxRecDepth 20000
section
set_option maxHeartbeats 1000000
def natI (l:List Nat):List Int:=l.map fun t:Nat=>(t:Int)
structure Wst where
 wy:List (List Int)
 nx:Int
 B:List Int
 W:List Int
def glW (w:List (List Int)) (k:Nat):List Int:=w.getD k []
def Wst.lv (s:Wst):Wst :=
 let E:=glW s.wy (s.wy.length - 1)
 if (s.wy.length - 1) % 2 = 1 then ⟨s.wy.take (s.wy.length - 1),s.nx,s.B,lvE s.W E E.length⟩
 else ⟨s.wy.take (s.wy.length - 1),s.nx,lvE s.B E E.length,s.W⟩
def Wst.op (s:Wst):Wst:=⟨s.wy.set (s.wy.length - 1) (glW s.wy (s.wy.length - 1) ++ [s.nx]) ++ [[s.nx]],s.nx + 1,s.B,s.W⟩
def Wst.step (s:Wst) (c:UInt8):Wst:=if c = 41 then s.lv else s.op
def Wst.run (s:Wst) (l:List UInt8):Wst:=l.foldl Wst.step s
def wst0:Wst:=⟨[[]],0,List.replicate 16 0,List.replicate 16 0⟩
def mkW (k:Nat) (w:List (List Int)) (nx:Int) (P Q:List Int):Wst:=⟨w,nx,if k % 2 = 0 then P else Q,if k % 2 = 0 then Q else P⟩
section
variable {k:Nat} {w:List (List Int)} {t P Q:List Int} {nx:Int}
theorem mkW_up:mkW (k + 1) w nx Q P = mkW k w nx P Q:=by
 unfold mkW
 by_cases q:k % 2 = 0
 ·rw[if_pos q,if_pos q,if_neg (by omega),if_neg (by omega)]
 ·rw[if_neg q,if_neg q,if_pos (by omega),if_pos (by omega)]
theorem glW_top {s:List (List Int)} {e:List Int}:glW (s ++ [e]) s.length = e:=by
 unfold glW
 rw[List.getD,List.getElem?_append_right (Nat.le_refl _),Nat.sub_self]; rfl
theorem mkW_op (h:w.length = k):(mkW k (w ++ [t]) nx P Q).op = mkW k (w ++ [t ++ [nx]] ++ [[nx]]) (nx + 1) P Q:=by
 have e1:(w ++ [t]).length - 1 = k:=by simp[h]
 have e2:glW (w ++ [t]) k = t:=by rw[<-h]; exact glW_top
 have e3:(w ++ [t]).set k (t ++ [nx]) = w ++ [t ++ [nx]]:=by
  rw[<-h,List.set_append_right _ _ (Nat.le_refl _),Nat.sub_self]; rfl
 simp only[Wst.op,mkW,e1,e2,e3]
theorem mkW_lv (h:w.length = k):(mkW k (w ++ [t]) nx P Q).lv = mkW k w nx (lvE P t t.length) Q:=by
 have e1:(w ++ [t]).length - 1 = k:=by simp[h]
 have e2:glW (w ++ [t]) k = t:=by rw[<-h]; exact glW_top
 have e3:(w ++ [t]).take k = w:=by rw[<-h,List.take_left]
 simp only[Wst.lv,mkW,e1,e2,e3]
 by_cases q:k % 2 = 0
 ·rw[if_neg (by omega)]; simp only[if_pos q]
 ·rw[if_pos (by omega)]; simp only[if_neg q]
end
theorem wrun_app {s:Wst} {a b:List UInt8}:s.run (a ++ b) = (s.run a).run b:=by simp[Wst.run,List.foldl_append]
theorem natI_gi {l:List Nat} {j:Nat} (hj:j < l.length):∃ t ∈ l,gi (natI l) j = (t:Int):=by
 refine ⟨l[j],List.getElem_mem _,?_⟩
 rw[gi_of (by simpa [natI] using hj)]
 simp[natI]
theorem lvE_keep {P:List Int} {l:List Nat} {i:Nat} (h:i ∉ l):gi (lvE P (natI l) (natI l).length) i = gi P i:=by
 refine lvE_out _ (Nat.le_refl _) fun j hj=>?_
 obtain ⟨t,ht,e⟩:=natI_gi (l:=l) (j:=j) (by simpa [natI] using hj)
 rw[e,Int.toNat_natCast]
 intro q; subst q; exact h ht
theorem lvE_nn {P:List Int} {l:List Nat} (h:∀ i:Nat,0 <= gi P i):∀ s,∀ i:Nat,0 <= gi (lvE P (natI l) s) i
 | 0,i=>h i
 | s + 1,i=>by
  simp only[lvE]
  rw[gi_set]; split
  ·by_cases q:(s + 1) % (natI l).length < l.length
   ·obtain ⟨t,_,e⟩:=natI_gi q
    rw[e]; omega
   ·have:(natI l).length = l.length:=by simp[natI]
    rw[gi,List.getD,List.getElem?_eq_none (by omega)]; exact Int.le_refl _
  ·exact lvE_nn h s i
structure Rw (P Q P' Q':List Int) (F:Frs) (o:Nat):Prop where
 s:Stw P' Q' F o
 lP:P'.length = P.length
 lQ:Q'.length = Q.length
 fP:∀ i,(i < o ∨ o + F.size <= i) -> gi P' i = gi P i
 fQ:∀ i,(i < o ∨ o + F.size <= i) -> gi Q' i = gi Q i
 nn:(∀ i:Nat,0 <= gi P i) -> (∀ i:Nat,0 <= gi Q i) -> (∀ i:Nat,0 <= gi P' i) /\ ∀ i:Nat,0 <= gi Q' i
theorem leave_ok {A:Frs} {o x:Nat} {Q P:List Int} (hx:x < o) (hs:o + A.size <= 16) (hQ:Q.length = 16) (h:Stw Q P A o):Stf (lvE Q (natI (x :: hl A o)) (natI (x :: hl A o)).length) P A x x o:=by
 have nd:(x :: hl A o).Nodup:=List.nodup_cons.2 ⟨fun q=>by have:=hl_lt q; omega,hl_nd⟩
 have c:=lvE_chn (P:=Q) (l:=hl A o) (x:=x) hQ nd (fun t ht=>by
  rcases List.mem_cons.1 ht with rfl | q
  ·omega
  ·have:=hl_lt q; omega)
 have el:(natI (x :: hl A o)).length = (hl A o).length + 1:=by simp[natI]
 have c:Chn (lvE Q (natI (x :: hl A o)) (natI (x :: hl A o)).length) x (hl A o ++ [x]):=by rw[el]; exact c
 refine Stw.stf (h.congr (fun i a b n=>?_) fun i _ _=>rfl) c
 unfold fp
 rw[lvE_keep]
 intro q
 rcases List.mem_cons.1 q with rfl | q
 ·omega
 ·exact n q
theorem wrun_frs:∀ {F:Frs} {k:Nat} {w:List (List Int)} {t P Q:List Int} {o:Nat},w.length = k -> o + F.size <= 16 -> P.length = 16 -> Q.length = 16 ->
  ∃ P' Q':List Int,(mkW k (w ++ [t]) o P Q).run F.word = mkW k (w ++ [t ++ natI (hl F o)]) ((o + F.size:Nat):Int) P' Q' /\ Rw P Q P' Q' F o
 | .nil,k,w,t,P,Q,o,h1,hs,hP,hQ=>⟨P,Q,by simp[hl,natI,Frs.word,Frs.size,Wst.run],trivial,rfl,rfl,fun _ _=>rfl,fun _ _=>rfl,fun a c=>⟨a,c⟩⟩
 | .cons A B,k,w,t,P,Q,o,h1,hs,hP,hQ=>by
  simp only[Frs.size] at hs
  have o1:=mkW_op (k:=k) (w:=w) (t:=t) (nx:=(o:Int)) (P:=P) (Q:=Q) h1
  obtain ⟨Q1,P1,r1,R1⟩:=wrun_frs (F:=A) (k:=k + 1) (w:=w ++ [t ++ [(o:Int)]]) (t:=[(o:Int)]) (P:=Q) (Q:=P) (o:=o + 1) (by simp[h1]) (by omega) hQ hP
  have lQ1:Q1.length = 16:=by rw[R1.lP,hQ]
  have lP1:P1.length = 16:=by rw[R1.lQ,hP]
  have eE:[(o:Int)] ++ natI (hl A (o + 1)) = natI (o :: hl A (o + 1)):=rfl
  rw[eE] at r1
  have c1:=mkW_lv (k:=k + 1) (w:=w ++ [t ++ [(o:Int)]]) (t:=natI (o :: hl A (o + 1))) (nx:=((o + 1 + A.size:Nat):Int)) (P:=Q1) (Q:=P1) (by simp[h1])
  have lf:=leave_ok (x:=o) (o:=o + 1) (by omega) (by omega) lQ1 R1.s
  obtain ⟨P2,Q2,r2,R2⟩:=wrun_frs (F:=B) (k:=k) (w:=w) (t:=t ++ [(o:Int)]) (P:=P1) (Q:=lvE Q1 (natI (o :: hl A (o + 1))) (natI (o :: hl A (o + 1))).length) (o:=o + 1 + A.size) h1 (by omega) lP1 (by rw[lvE_len,lQ1])
  have kp:∀ i,(i < o ∨ o + 1 + A.size <= i) -> gi (lvE Q1 (natI (o :: hl A (o + 1))) (natI (o :: hl A (o + 1))).length) i = gi Q1 i:=fun i hi=>lvE_keep fun q=>by
   rcases List.mem_cons.1 q with rfl | q
   ·omega
   ·have:=hl_lt q; omega
  refine ⟨P2,Q2,?_,⟨lf.congr (by unfold fp; rw[R2.fQ o (by omega)]) fun i hi hi'=>⟨by unfold fp; rw[R2.fQ i (by omega)],by unfold fp; rw[R2.fP i (by omega)]⟩,R2.s⟩,by rw[R2.lP,lP1,hP],by rw[R2.lQ,lvE_len,lQ1,hQ],fun i hi=>?_,fun i hi=>?_,fun a c=>?_⟩
  ·have w1:(Frs.cons A B).word = [40] ++ A.word ++ ([41] ++ B.word):=by simp[Frs.word]
   rw[w1,wrun_app,wrun_app,wrun_app]
   have s1:∀ s:Wst,s.run [40] = s.op:=fun s=>rfl
   have s2:∀ s:Wst,s.run [41] = s.lv:=fun s=>rfl
   have cast:((o:Int) + 1) = ((o + 1:Nat):Int):=by omega
   rw[s1,o1,<-mkW_up,cast,r1,s2,c1,mkW_up,r2]
   have e3:t ++ [(o:Int)] ++ natI (hl B (o + 1 + A.size)) = t ++ natI (hl (.cons A B) o):=by simp[hl,natI]
   rw[e3]
   congr 1
   simp only[Frs.size]
   omega
  ·simp only[Frs.size] at hi
   rw[R2.fP i (by omega),R1.fQ i (by omega)]
  ·simp only[Frs.size] at hi
   rw[R2.fQ i (by omega),kp i (by omega),R1.fP i (by omega)]
  ·obtain ⟨u1,u2⟩:=R1.nn c a
   exact R2.nn u2 (lvE_nn u1 _)
theorem wmade_ok {A B:Frs} (hs:A.size + B.size + 1 <= 16):Mkd ((A.size + B.size + 1:Nat):Int) (wst0.run (Frs.cons A B).word).lv.B (wst0.run (Frs.cons A B).word).lv.W A B:=by
 obtain ⟨P,Q,r,R⟩:=wrun_frs (F:=.cons A B) (k:=0) (w:=[]) (t:=[]) (P:=List.replicate 16 0) (Q:=List.replicate 16 0) (o:=0) rfl (by simp only[Frs.size]; omega) (by simp) (by simp)
 have r:wst0.run (Frs.cons A B).word = mkW 0 ([] ++ [natI (0 :: hl B (0 + 1 + A.size))]) ((0 + (Frs.cons A B).size:Nat):Int) P Q:=r
 have l:=mkW_lv (k:=0) (w:=[]) (t:=natI (0 :: hl B (0 + 1 + A.size))) (nx:=((0 + (Frs.cons A B).size:Nat):Int)) (P:=P) (Q:=Q) rfl
 rw[r,l]
 have lP:P.length = 16:=by rw[R.lP]; simp
 have lQ:Q.length = 16:=by rw[R.lQ]; simp
 obtain ⟨sA,sB⟩:=R.s
 have bb:=leave_ok (x:=0) (o:=0 + 1 + A.size) (by omega) (by omega) lP sB
 show Mkd _ (lvE P (natI (0 :: hl B (0 + 1 + A.size))) (natI (0 :: hl B (0 + 1 + A.size))).length) Q A B
 have kp:∀ i,1 <= i -> (i < 1 + A.size ∨ 1 + A.size + B.size <= i) -> gi (lvE P (natI (0 :: hl B (0 + 1 + A.size))) (natI (0 :: hl B (0 + 1 + A.size))).length) i = gi P i:=fun i h1 hi=>lvE_keep fun q=>by
  rcases List.mem_cons.1 q with rfl | q
  ·omega
  ·have:=hl_lt q; omega
 have z0:∀ i:Nat,0 <= gi (List.replicate 16 (0:Int)) i:=fun i=>by rw[gi_rep]; split <;> omega
 obtain ⟨u1,u2⟩:=R.nn z0 z0
 have u3:=lvE_nn (l:=0 :: hl B (0 + 1 + A.size)) u1 (natI (0 :: hl B (0 + 1 + A.size))).length
 have lV:(lvE P (natI (0 :: hl B (0 + 1 + A.size))) (natI (0 :: hl B (0 + 1 + A.size))).length).length = 16:=by rw[lvE_len,lP]
 generalize lvE P (natI (0 :: hl B (0 + 1 + A.size))) (natI (0 :: hl B (0 + 1 + A.size))).length = V at bb kp u3 lV ⊢
 have bb:Stf V Q B 0 0 (1 + A.size):=by rw[Nat.zero_add] at bb; exact bb
 have A2:Stf Q V A 0 0 1:=sA.congr rfl fun i hi hi'=>⟨rfl,by unfold fp; rw[kp i (by omega) (by omega)]⟩
 have vA:=A2.vals
 have vB:=bb.vals
 have outB:∀ j:Nat,A.size + B.size + 1 <= j -> gi V j = 0:=fun j hj=>by
  rw[kp j (by omega) (by omega),R.fP j (.inr (by simp only[Frs.size]; omega)),gi_rep]; split <;> rfl
 have outW:∀ j:Nat,A.size + B.size + 1 <= j -> gi Q j = 0:=fun j hj=>by
  rw[R.fQ j (.inr (by simp only[Frs.size]; omega)),gi_rep]; split <;> rfl
 have eB:∀ i:Nat,gi V i = (fp V i:Int):=fun i=>by have:=u3 i; unfold fp; omega
 have eW:∀ i:Nat,gi Q i = (fp Q i:Int):=fun i=>by have:=u2 i; unfold fp; omega
 refine ⟨⟨lV,fun i hi=>?_⟩,⟨lQ,fun i hi=>?_⟩,fun j hj=>outB j (by omega),fun j hj=>outW j (by omega),by omega,by omega,A2,bb⟩
 ·by_cases q:A.size + B.size + 1 <= i
  ·rw[outB i q]; omega
  ·rw[eB]
   by_cases q0:i = 0
   ·subst q0; have:=vB.1; omega
   ·by_cases q2:i < 1 + A.size
    ·have:=(vA.2 i (by omega) q2).2; omega
    ·have:=(vB.2 i (by omega) (by omega)).1; omega
 ·by_cases q:A.size + B.size + 1 <= i
  ·rw[outW i q]; omega
  ·rw[eW]
   by_cases q0:i = 0
   ·subst q0; have:=vA.1; omega
   ·by_cases q2:i < 1 + A.size
    ·have:=(vA.2 i (by omega) q2).1; omega
    ·have:=(vB.2 i (by omega) (by omega)).2; omega
theorem wmade_eq {A B:Frs} (hs:A.size + B.size + 1 <= 16):(wst0.run (Frs.cons A B).word).lv.B = (tms0.run (Frs.cons A B).word).fin.B /\ (wst0.run (Frs.cons A B).word).lv.W = (tms0.run (Frs.cons A B).word).fin.W :=
 (wmade_ok hs).det (made_ok hs).1
end
section
set_option maxHeartbeats 4000000
end
section
set_option maxHeartbeats 8000000
theorem c_laws_bigT {x:Value} {l:List Int}:PSpec Tryz.prog 5 [.fz x l] fun v=>v = .bool (decide (4096 < (l.length:Int))):=by
 refine laws_big_f.f ?_
 simp (disch:=first|omega|(simp only[LN];omega)) only[↓EC,EW,seval,↓reduceIte,laws_big_F]
theorem vleq32r {l:List Int} (hl:l.length = 32):vleq [.i .u8,.i .u8,.i .u8,.i .u8,.i .u8,.i .u8,.i .u8,.i .u8,.i .u8,.i .u8,.i .u8,.i .u8,.i .u8,.i .u8,.i .u8,.i .u8,.i .u8,.i .u8,.i .u8,.i .u8,.i .u8,.i .u8,.i .u8,.i .u8,.i .u8,.i .u8,.i .u8,.i .u8,.i .u8,.i .u8,.i .u8,.i .u8] (vi .u8 l) (vi .u8 l) = some true:=by
 rw[vleq32 hl hl]; simp
def Fre (k:Nat) (h:Hp):Prop:=∀ d,k <= d -> h d = .free
theorem Fre.put {k b:Nat} {h:Hp} {s:Slot} (hf:Fre k h) (hb:b < k):Fre k (hput h b s):=fun d hd=>by
 have:¬ d = b:=by omega
 simp only[hput,if_neg this]; exact hf d hd
theorem Fre.nil {k:Nat}:Fre k hnil:=fun d hd=>rfl
theorem Fre.up {k k':Nat} {h:Hp} (hf:Fre k h) (hk:k <= k'):Fre k' h:=fun d hd=>hf d (by omega)
section
variable {n k:Int} {b w:List Int}
theorem Dz.isB (h:Dz n b w):isDB n b w = true:=isDB_iff.2 h.D
end
end
section
set_option maxHeartbeats 4000000
theorem ls_lss {s u:List UInt8}:lift2 (abin .lss) (.str s) (.str u) = some (.bool (Op.bytesLess s u)):=by simp[lift2,toVal,abin,astr,ofVal,ba_list]
theorem Rd.inv {p q:List Int} {x y:Nat} {F:Frs} {L:List Nat} (h:Rd p q x y F L) (hne:y ≠ x):∃ A B LA LB,F = .cons A B /\ Rd q p y (fp q y) A LA /\ Rd p q x (fp p y) B LB:=by
 cases h with
 | stop=>exact absurd rfl hne
 | go _ hA hB=>exact ⟨_,_,_,_,rfl,hA,hB⟩
theorem Rd.inv0 {p q:List Int} {x:Nat} {F:Frs} {L:List Nat} (h:Rd p q x x F L):F = .nil:=by
 cases h with
 | stop=>rfl
 | go hne _ _=>exact absurd rfl hne
theorem c_spec_l05Below {n:Int} {b w:List Int} (hb:lo16 b) (hw:lo16 w):∀ (m:Nat) {c:Bool} {x:Nat} {F:Frs} {L:List Nat},F.size < m -> F.size <= 16 -> Rd (pmc b w c) (pmc b w !c) x (fp (pmc b w c) x) F L -> x < 16 ->
  PSpec Tryz.prog 101 [vD n b w,.int .i64 x,.bool c] fun v=>v = .str F.word
 | 0,c,x,F,L,hm,_,_,_=>absurd hm (Nat.not_lt_zero _)
 | m + 1,c,x,F,L,hm,h16',hR,hx=>by
  have ih:∀ (c:Bool) (x:Nat) (F:Frs) (L:List Nat),F.size < m -> F.size <= 16 -> Rd (pmc b w c) (pmc b w !c) x (fp (pmc b w c) x) F L -> x < 16 ->
    PSpec Tryz.prog 101 [vD n b w,.int .i64 x,.bool c] fun v=>v = .str F.word:=fun c x F L h1 h2 h3 h4=>c_spec_l05Below hb hw m h1 h2 h3 h4
  have hbl:=hb.1
  have hwl:=hw.1
  have t1:List.take 16 (b ++ w) = b:=by rw[<-hbl,List.take_left]
  have t2:List.drop 16 (b ++ w) = w:=by rw[<-hbl,List.drop_left]
  refine spec_l05Below_f.f ?_
  unfold vD
  dsimp only[spec_l05Below_F,pcal_B,pcalp_B,pcala_B,pcond_B,pgk_B,JN_B,LP_B]
  cases c with
  | false =>
   have hR:Rd b w x (fp b x) F L:=hR
   ((try simp (disch:=first|omega|(simp only[LN];omega)) only[↓EC,EW,seval,↓reduceIte,↓ED,EE,t1,t2]); repeat (refine blkP.mk ?_; (try simp (disch:=first|omega|(simp only[LN];omega)) only[↓EC,EW,seval,↓reduceIte,↓ED,EE,t1,t2])))
   refine JNx_un ?_
   have h16:=hb.2
   have hpx:=h16 x hx
   ((try simp (disch:=first|omega|(simp only[LN];omega)) only[↓EC,EW,seval,↓reduceIte,↓ED,EE,t1,t2]); repeat (refine blkP.mk ?_; (try simp (disch:=first|omega|(simp only[LN];omega)) only[↓EC,EW,seval,↓reduceIte,↓ED,EE,t1,t2])))
   refine LPx_of (σ:=List UInt8 × Frs × Nat) 100000 [(67,28,1),(72,26,1)] (fun s=>[.str s.1,.int .i64 s.2.2]) (fun s=>[.int .i64 n :: vi .u8 (b ++ w),vi .u8 b])
    (fun s=>(∃ L,Rd b w x s.2.2 s.2.1 L) /\ s.1 ++ s.2.1.word = F.word /\ s.2.1.size <= F.size /\ s.2.2 < 16) (fun s=>s.2.1.size) ([],F,fp b x) (by simp[frameOk,names,lpz,sclp,scv,scvs,nrfs,nrf,FRB]) ⟨⟨_,hR⟩,rfl,Nat.le_refl _,by simp only; have:=h16 x hx; unfold fp; omega⟩ ?_ ?_
   ·(simp (disch:=first|omega|(simp only[LN];omega)) only[↓EC,EW,seval,↓reduceIte,↓ED,EE,CVd]; repeat (refine blkP.mk ?_; simp (disch:=first|omega|(simp only[LN];omega)) only[↓EC,EW,seval,↓reduceIte,↓ED,EE,CVd]))
    unfold fp
    rw[Int.toNat_of_nonneg hpx.1]
   ·rintro ⟨t,G,y⟩ ⟨⟨M,g1⟩,g2,g3,g4⟩
    simp only at g1 g2 g3 g4
    have hy:=h16 y g4
    by_cases hne:y = x
    ·subst hne
     have g5:=g1.inv0
     subst g5
     simp only[Frs.word,List.append_nil] at g2
     subst g2
     (simp (disch:=first|omega|(simp only[LN];omega)) only[↓EC,EW,seval,↓reduceIte,↓ED,EE,CVd,lhd]; repeat (refine blkP.mk ?_; simp (disch:=first|omega|(simp only[LN];omega)) only[↓EC,EW,seval,↓reduceIte,↓ED,EE,CVd,lhd]))
    ·obtain ⟨A,B,LA,LB,g5,rA,rB⟩:=g1.inv hne
     subst g5
     simp only[Frs.size] at g3
     have hs1:A.size < m:=by omega
     have hs2:A.size <= 16:=by omega
     have k:=ih true y A LA hs1 hs2 rA g4
     have lA:=A.word_len
     have lt:=congrArg List.length g2
     simp only[List.length_append,Frs.word_len,Frs.size] at lt
     unfold vD at k
     have g6:(t ++ [40] ++ A.word ++ [41]) ++ B.word = F.word:=by rw[<-g2]; simp[Frs.word]
     generalize A.word = aw at *
     (simp (disch:=first|omega|(simp only[LN];omega)) only[↓EC,EW,seval,↓reduceIte,↓ED,EE,CVd,lhd]; repeat (refine blkP.mk ?_; simp (disch:=first|omega|(simp only[LN];omega)) only[↓EC,EW,seval,↓reduceIte,↓ED,EE,CVd,lhd]))
     (refine Split.mB (fun h=>?_) (fun h=>?_) <;> (try simp only[SD]at h))
     ·((try simp (disch:=first|omega|(simp only[LN];omega)) only[↓EC,EW,seval,↓reduceIte,↓ED,EE]); repeat (refine blkP.mk ?_; (try simp (disch:=first|omega|(simp only[LN];omega)) only[↓EC,EW,seval,↓reduceIte,↓ED,EE])))
      refine pcd_v k ?_
      ((try simp (disch:=first|omega|(simp only[LN];omega)) only[↓EC,EW,seval,↓reduceIte,↓ED,EE]); repeat (refine blkP.mk ?_; (try simp (disch:=first|omega|(simp only[LN];omega)) only[↓EC,EW,seval,↓reduceIte,↓ED,EE])))
      exact ⟨(t ++ [40] ++ aw ++ [41],B,fp b y),by unfold fp; simp; omega,⟨⟨_,rB⟩,g6,by simp only; omega,by simp only; unfold fp; omega⟩,by simp only[Frs.size]; omega⟩
     ·exfalso; omega
  | true =>
   have hR:Rd w b x (fp w x) F L:=hR
   ((try simp (disch:=first|omega|(simp only[LN];omega)) only[↓EC,EW,seval,↓reduceIte,↓ED,EE,t1,t2]); repeat (refine blkP.mk ?_; (try simp (disch:=first|omega|(simp only[LN];omega)) only[↓EC,EW,seval,↓reduceIte,↓ED,EE,t1,t2])))
   refine JNx_un ?_
   have h16:=hw.2
   have hpx:=h16 x hx
   ((try simp (disch:=first|omega|(simp only[LN];omega)) only[↓EC,EW,seval,↓reduceIte,↓ED,EE,t1,t2]); repeat (refine blkP.mk ?_; (try simp (disch:=first|omega|(simp only[LN];omega)) only[↓EC,EW,seval,↓reduceIte,↓ED,EE,t1,t2])))
   refine LPx_of (σ:=List UInt8 × Frs × Nat) 100000 [(67,28,1),(72,26,1)] (fun s=>[.str s.1,.int .i64 s.2.2]) (fun s=>[.int .i64 n :: vi .u8 (b ++ w),vi .u8 w])
    (fun s=>(∃ L,Rd w b x s.2.2 s.2.1 L) /\ s.1 ++ s.2.1.word = F.word /\ s.2.1.size <= F.size /\ s.2.2 < 16) (fun s=>s.2.1.size) ([],F,fp w x) (by simp[frameOk,names,lpz,sclp,scv,scvs,nrfs,nrf,FRB]) ⟨⟨_,hR⟩,rfl,Nat.le_refl _,by simp only; have:=h16 x hx; unfold fp; omega⟩ ?_ ?_
   ·(simp (disch:=first|omega|(simp only[LN];omega)) only[↓EC,EW,seval,↓reduceIte,↓ED,EE,CVd]; repeat (refine blkP.mk ?_; simp (disch:=first|omega|(simp only[LN];omega)) only[↓EC,EW,seval,↓reduceIte,↓ED,EE,CVd]))
    unfold fp
    rw[Int.toNat_of_nonneg hpx.1]
   ·rintro ⟨t,G,y⟩ ⟨⟨M,g1⟩,g2,g3,g4⟩
    simp only at g1 g2 g3 g4
    have hy:=h16 y g4
    by_cases hne:y = x
    ·subst hne
     have g5:=g1.inv0
     subst g5
     simp only[Frs.word,List.append_nil] at g2
     subst g2
     (simp (disch:=first|omega|(simp only[LN];omega)) only[↓EC,EW,seval,↓reduceIte,↓ED,EE,CVd,lhd]; repeat (refine blkP.mk ?_; simp (disch:=first|omega|(simp only[LN];omega)) only[↓EC,EW,seval,↓reduceIte,↓ED,EE,CVd,lhd]))
    ·obtain ⟨A,B,LA,LB,g5,rA,rB⟩:=g1.inv hne
     subst g5
     simp only[Frs.size] at g3
     have hs1:A.size < m:=by omega
     have hs2:A.size <= 16:=by omega
     have k:=ih false y A LA hs1 hs2 rA g4
     have lA:=A.word_len
     have lt:=congrArg List.length g2
     simp only[List.length_append,Frs.word_len,Frs.size] at lt
     unfold vD at k
     have g6:(t ++ [40] ++ A.word ++ [41]) ++ B.word = F.word:=by rw[<-g2]; simp[Frs.word]
     generalize A.word = aw at *
     (simp (disch:=first|omega|(simp only[LN];omega)) only[↓EC,EW,seval,↓reduceIte,↓ED,EE,CVd,lhd]; repeat (refine blkP.mk ?_; simp (disch:=first|omega|(simp only[LN];omega)) only[↓EC,EW,seval,↓reduceIte,↓ED,EE,CVd,lhd]))
     (refine Split.mB (fun h=>?_) (fun h=>?_) <;> (try simp only[SD]at h))
     ·((try simp (disch:=first|omega|(simp only[LN];omega)) only[↓EC,EW,seval,↓reduceIte,↓ED,EE]); repeat (refine blkP.mk ?_; (try simp (disch:=first|omega|(simp only[LN];omega)) only[↓EC,EW,seval,↓reduceIte,↓ED,EE])))
      refine pcd_v k ?_
      ((try simp (disch:=first|omega|(simp only[LN];omega)) only[↓EC,EW,seval,↓reduceIte,↓ED,EE]); repeat (refine blkP.mk ?_; (try simp (disch:=first|omega|(simp only[LN];omega)) only[↓EC,EW,seval,↓reduceIte,↓ED,EE])))
      exact ⟨(t ++ [40] ++ aw ++ [41],B,fp w y),by unfold fp; simp; omega,⟨⟨_,rB⟩,g6,by simp only; omega,by simp only; unfold fp; omega⟩,by simp only[Frs.size]; omega⟩
     ·exfalso; omega
theorem c_impl_wordAt:∀ (m:Nat) {p q:List Int} {x:Nat} {F:Frs} {L:List Nat},lo16 p -> lo16 q -> F.size < m -> F.size <= 16 -> Rd p q x (fp p x) F L -> x < 16 ->
  PSpec Tryz.prog 92 [.agg (vi .u8 p),.agg (vi .u8 q),.int .i64 x,.bool false] fun v=>v = .str F.word
 | 0,p,q,x,F,L,_,_,hm,_,_,_=>absurd hm (Nat.not_lt_zero _)
 | m + 1,p,q,x,F,L,hp,hq,hm,h16',hR,hx=>by
  have ih:∀ (p q:List Int) (x:Nat) (F:Frs) (L:List Nat),lo16 p -> lo16 q -> F.size < m -> F.size <= 16 -> Rd p q x (fp p x) F L -> x < 16 ->
    PSpec Tryz.prog 92 [.agg (vi .u8 p),.agg (vi .u8 q),.int .i64 x,.bool false] fun v=>v = .str F.word:=fun p q x F L a c h1 h2 h3 h4=>c_impl_wordAt m a c h1 h2 h3 h4
  have hpl:=hp.1
  have hql:=hq.1
  have h16:=hp.2
  have hpx:=h16 x hx
  refine impl_wordAt_f.f ?_
  dsimp only[impl_wordAt_F,pcal_B,pcalp_B,pcala_B,pcond_B,pgk_B,JN_B,LP_B]
  (refine bni ?_;repeat (refine bnk ?_;(try simp (disch:=first|omega|(simp only[LN];omega)) only[↓EC,EW,seval,↓reduceIte,↓ED,EE])))
  refine JNx_un ?_
  (refine bni ?_;repeat (refine bnk ?_;(try simp (disch:=first|omega|(simp only[LN];omega)) only[↓EC,EW,seval,↓reduceIte,↓ED,EE])))
  refine LPx_of (σ:=List UInt8 × Frs × Nat × Bool) 100000 [(68,26,1),(69,26,1)] (fun s=>[.str s.1,.int .i64 s.2.2.1,.bool s.2.2.2]) (fun s=>[vi .u8 p,vi .u8 q])
   (fun s=>(∃ L,Rd p q x s.2.2.1 s.2.1 L) /\ s.1 ++ s.2.1.word = F.word /\ s.2.1.size <= F.size /\ s.2.2.1 < 16) (fun s=>s.2.1.size) ([],F,fp p x,true) (by simp[frameOk,names,lpz,sclp,scv,scvs,nrfs,nrf,FRB]) ⟨⟨_,hR⟩,rfl,Nat.le_refl _,by simp only; unfold fp; omega⟩ ?_ ?_
  ·(refine bni ?_;repeat (refine bnk ?_;simp (disch:=first|omega|(simp only[LN];omega)) only[↓EC,EW,seval,↓reduceIte,↓ED,EE,CVd]))
   unfold fp
   rw[Int.toNat_of_nonneg hpx.1]
   try exact ⟨rfl,rfl⟩
  ·rintro ⟨t,G,y,fi⟩ ⟨⟨M,g1⟩,g2,g3,g4⟩
   simp only at g1 g2 g3 g4
   have hy:=h16 y g4
   by_cases hne:y = x
   ·subst hne
    have g5:=g1.inv0
    subst g5
    simp only[Frs.word,List.append_nil] at g2
    subst g2
    cases fi <;> (refine bni ?_;repeat (refine bnk ?_;simp (disch:=first|omega|(simp only[LN];omega)) only[↓EC,EW,seval,↓reduceIte,↓ED,EE,CVd,lhd]))
   ·obtain ⟨A,B,LA,LB,g5,rA,rB⟩:=g1.inv hne
    subst g5
    simp only[Frs.size] at g3
    have hs1:A.size < m:=by omega
    have hs2:A.size <= 16:=by omega
    have k:=ih q p y A LA hq hp hs1 hs2 rA g4
    have lA:=A.word_len
    have lt:=congrArg List.length g2
    simp only[List.length_append,Frs.word_len,Frs.size] at lt
    have g6:(t ++ [40] ++ A.word ++ [41]) ++ B.word = F.word:=by rw[<-g2]; simp[Frs.word]
    generalize A.word = aw at *
    have hne':((y:Int) != (x:Int)) = true:=by simp; omega
    cases fi
    all_goals
     (refine bni ?_;repeat (refine bnk ?_;simp (disch:=first|omega|(simp only[LN];omega)) only[↓EC,EW,seval,↓reduceIte,↓ED,EE,CVd,lhd]))
     (refine Split.mB (fun h=>?_) (fun h=>?_) <;> (try simp only[SD]at h))
     ·(refine bni ?_;repeat (refine bnk ?_;(try simp (disch:=first|omega|(simp only[LN];omega)) only[↓EC,EW,seval,↓reduceIte,↓ED,EE])))
      refine pcd_v k ?_
      (refine bni ?_;repeat (refine bnk ?_;(try simp (disch:=first|omega|(simp only[LN];omega)) only[↓EC,EW,seval,↓reduceIte,↓ED,EE])))
      exact ⟨(t ++ [40] ++ aw ++ [41],B,fp p y,false),by unfold fp; simp; omega,⟨⟨_,rB⟩,g6,by simp only; omega,by simp only; unfold fp; omega⟩,by simp only[Frs.size]; omega⟩
     ·exfalso; omega
theorem c_impl_wordAtW {p q:List Int} {x:Nat} {A B:Frs} {LA LB:List Nat} (hp:lo16 p) (hq:lo16 q) (hs:A.size + B.size + 1 <= 16) (hA:Rd q p x (fp q x) A LA) (hB:Rd p q x (fp p x) B LB) (hx:x < 16) :
  PSpec Tryz.prog 92 [.agg (vi .u8 p),.agg (vi .u8 q),.int .i64 x,.bool true] fun v=>v = .str (Frs.cons A B).word:=by
 have hpl:=hp.1
 have hql:=hq.1
 have h16:=hp.2
 have hpx:=h16 x hx
 refine impl_wordAt_f.f ?_
 dsimp only[impl_wordAt_F,pcal_B,pcalp_B,pcala_B,pcond_B,pgk_B,JN_B,LP_B]
 (refine bni ?_;repeat (refine bnk ?_;(try simp (disch:=first|omega|(simp only[LN];omega)) only[↓EC,EW,seval,↓reduceIte,↓ED,EE])))
 refine JNx_un ?_
 (refine bni ?_;repeat (refine bnk ?_;(try simp (disch:=first|omega|(simp only[LN];omega)) only[↓EC,EW,seval,↓reduceIte,↓ED,EE])))
 have hsz:(Frs.cons A B).size <= 16:=by simp only[Frs.size]; omega
 refine LPx_of (σ:=List UInt8 × Frs × Nat × Bool) 100000 [(68,26,1),(69,26,1)] (fun s=>[.str s.1,.int .i64 s.2.2.1,.bool s.2.2.2]) (fun s=>[vi .u8 p,vi .u8 q])
  (fun s=>(s.2.2.2 = true /\ s.1 = [] /\ s.2.2.1 = x /\ s.2.1 = .cons A B ∨ s.2.2.2 = false /\ (∃ L,Rd p q x s.2.2.1 s.2.1 L)) /\ s.1 ++ s.2.1.word = (Frs.cons A B).word /\ s.2.1.size <= (Frs.cons A B).size /\ s.2.2.1 < 16) (fun s=>s.2.1.size) ([],.cons A B,x,true) (by simp[frameOk,names,lpz,sclp,scv,scvs,nrfs,nrf,FRB]) ⟨.inl ⟨rfl,rfl,rfl,rfl⟩,rfl,Nat.le_refl _,hx⟩ ?_ ?_
 ·(refine bni ?_;repeat (refine bnk ?_;simp (disch:=first|omega|(simp only[LN];omega)) only[↓EC,EW,seval,↓reduceIte,↓ED,EE,CVd]))
  try exact ⟨rfl,rfl⟩
 ·rintro ⟨t,G,y,fi⟩ ⟨g1,g2,g3,g4⟩
  simp only at g1 g2 g3 g4
  rcases g1 with ⟨r1,r2,r3,r4⟩ | ⟨r1,M,r2⟩
  ·subst r1 r2 r3 r4
   have hs2:A.size <= 16:=by omega
   have k:=c_impl_wordAt (A.size + 1) hq hp (by omega) hs2 hA hx
   have lA:=A.word_len
   have g6:([] ++ [40] ++ A.word ++ [41]) ++ B.word = (Frs.cons A B).word:=by simp[Frs.word]
   generalize hW:(Frs.cons A B).word = W at *
   generalize A.word = aw at *
   (refine bni ?_;repeat (refine bnk ?_;simp (disch:=first|omega|(simp only[LN];omega)) only[↓EC,EW,seval,↓reduceIte,↓ED,EE,CVd,lhd]))
   refine pcd_v k ?_
   (refine bni ?_;repeat (refine bnk ?_;(try simp (disch:=first|omega|(simp only[LN];omega)) only[↓EC,EW,seval,↓reduceIte,↓ED,EE])))
   exact ⟨([] ++ [40] ++ aw ++ [41],B,fp p y,false),by unfold fp; simp; omega,⟨.inr ⟨rfl,_,hB⟩,g6,by simp only[Frs.size]; omega,by simp only; unfold fp; omega⟩,by simp only[Frs.size]; omega⟩
  ·subst r1
   have hy:=h16 y g4
   generalize hW:(Frs.cons A B).word = W at *
   by_cases hne:y = x
   ·subst hne
    have g5:=r2.inv0
    subst g5
    simp only[Frs.word,List.append_nil] at g2
    subst g2
    (refine bni ?_;repeat (refine bnk ?_;simp (disch:=first|omega|(simp only[LN];omega)) only[↓EC,EW,seval,↓reduceIte,↓ED,EE,CVd,lhd]))
   ·obtain ⟨A2,B2,LA2,LB2,g5,rA,rB⟩:=r2.inv hne
    subst g5
    simp only[Frs.size] at g3
    have hs2:A2.size <= 16:=by omega
    have k:=c_impl_wordAt (A2.size + 1) hq hp (by omega) hs2 rA g4
    have lA:=A2.word_len
    have lW:=(Frs.cons A B).word_len
    rw[hW] at lW
    simp only[Frs.size] at lW
    have lt:=congrArg List.length g2
    simp only[List.length_append,Frs.word_len,Frs.size] at lt
    have g6:(t ++ [40] ++ A2.word ++ [41]) ++ B2.word = W:=by rw[<-g2]; simp[Frs.word]
    generalize A2.word = aw at *
    (refine bni ?_;repeat (refine bnk ?_;simp (disch:=first|omega|(simp only[LN];omega)) only[↓EC,EW,seval,↓reduceIte,↓ED,EE,CVd,lhd]))
    (refine Split.mB (fun h=>?_) (fun h=>?_) <;> (try simp only[SD]at h))
    ·(refine bni ?_;repeat (refine bnk ?_;(try simp (disch:=first|omega|(simp only[LN];omega)) only[↓EC,EW,seval,↓reduceIte,↓ED,EE])))
     refine pcd_v k ?_
     (refine bni ?_;repeat (refine bnk ?_;(try simp (disch:=first|omega|(simp only[LN];omega)) only[↓EC,EW,seval,↓reduceIte,↓ED,EE])))
     exact ⟨(t ++ [40] ++ aw ++ [41],B2,fp p y,false),by unfold fp; simp; omega,⟨.inr ⟨rfl,_,rB⟩,g6,by simp only[Frs.size]; omega,by simp only; unfold fp; omega⟩,by simp only[Frs.size]; omega⟩
    ·exfalso; omega
end
section
set_option maxHeartbeats 4000000
theorem c_spec_l05At {n:Int} {b w:List Int} {x:Nat} {A B:Frs} {LA LB:List Nat} (hb:lo16 b) (hw:lo16 w) (hs:A.size + B.size + 1 <= 16) (hA:Rd w b x (fp w x) A LA) (hB:Rd b w x (fp b x) B LB) (hx:x < 16) :
  PSpec Tryz.prog 69 [vD n b w,.int .i64 x] fun v=>v = .str (Frs.cons A B).word:=by
 have hbl:=hb.1
 have hwl:=hw.1
 have h16:=hb.2
 have hpx:=h16 x hx
 have k1:=c_spec_l05Below (n:=n) hb hw (A.size + 1) (c:=true) (x:=x) (F:=A) (L:=LA) (by omega) (by omega) hA hx
 have lA:=A.word_len
 have lB:=B.word_len
 have hW:([40] ++ A.word ++ [41]) ++ B.word = (Frs.cons A B).word:=by simp[Frs.word]
 generalize hWe:(Frs.cons A B).word = W at *
 generalize A.word = aw at *
 refine spec_l05At_f.f ?_
 unfold vD at *
 dsimp only[spec_l05At_F,pcal_B,pcalp_B,pcala_B,pcond_B,pgk_B,JN_B,LP_B]
 ((try simp (disch:=first|omega|(simp only[LN];omega)) only[↓EC,EW,seval,↓reduceIte,↓ED,EE]); repeat (refine blkP.mk ?_; (try simp (disch:=first|omega|(simp only[LN];omega)) only[↓EC,EW,seval,↓reduceIte,↓ED,EE])))
 refine pcd_v k1 ?_
 ((try simp (disch:=first|omega|(simp only[LN];omega)) only[↓EC,EW,seval,↓reduceIte,↓ED,EE]); repeat (refine blkP.mk ?_; (try simp (disch:=first|omega|(simp only[LN];omega)) only[↓EC,EW,seval,↓reduceIte,↓ED,EE])))
 refine LPx_of (σ:=List UInt8 × Frs × Nat) 100000 [(66,28,1)] (fun s=>[.str s.1,.int .i64 s.2.2]) (fun s=>[.int .i64 n :: vi .u8 (b ++ w)])
  (fun s=>(∃ L,Rd b w x s.2.2 s.2.1 L) /\ s.1 ++ s.2.1.word = W /\ s.2.1.size <= B.size /\ s.2.2 < 16) (fun s=>s.2.1.size) ([40] ++ aw ++ [41],B,fp b x) (by simp[frameOk,names,lpz,sclp,scv,scvs,nrfs,nrf,FRB]) ⟨⟨_,hB⟩,hW,Nat.le_refl _,by simp only; unfold fp; omega⟩ ?_ ?_
 ·(simp (disch:=first|omega|(simp only[LN];omega)) only[↓EC,EW,seval,↓reduceIte,↓ED,EE,CVd]; repeat (refine blkP.mk ?_; simp (disch:=first|omega|(simp only[LN];omega)) only[↓EC,EW,seval,↓reduceIte,↓ED,EE,CVd]))
  unfold fp
  rw[Int.toNat_of_nonneg hpx.1]
  try exact ⟨rfl,rfl⟩
 ·rintro ⟨t,G,y⟩ ⟨⟨M,g1⟩,g2,g3,g4⟩
  simp only at g1 g2 g3 g4
  have hy:=h16 y g4
  by_cases hne:y = x
  ·subst hne
   have g5:=g1.inv0
   subst g5
   simp only[Frs.word,List.append_nil] at g2
   subst g2
   (simp (disch:=first|omega|(simp only[LN];omega)) only[↓EC,EW,seval,↓reduceIte,↓ED,EE,CVd,lhd]; repeat (refine blkP.mk ?_; simp (disch:=first|omega|(simp only[LN];omega)) only[↓EC,EW,seval,↓reduceIte,↓ED,EE,CVd,lhd]))
  ·obtain ⟨A2,B2,LA2,LB2,g5,rA,rB⟩:=g1.inv hne
   subst g5
   simp only[Frs.size] at g3
   have k:=c_spec_l05Below (n:=n) hb hw (A2.size + 1) (c:=true) (x:=y) (F:=A2) (L:=LA2) (by omega) (by omega) rA g4
   have lA2:=A2.word_len
   have lt:=congrArg List.length g2
   have lW:=congrArg List.length hW
   simp only[List.length_append,Frs.word_len,Frs.size,List.length_cons,List.length_nil] at lt lW
   have g6:(t ++ [40] ++ A2.word ++ [41]) ++ B2.word = W:=by rw[<-g2]; simp[Frs.word]
   unfold vD at k
   generalize A2.word = aw2 at *
   (simp (disch:=first|omega|(simp only[LN];omega)) only[↓EC,EW,seval,↓reduceIte,↓ED,EE,CVd,lhd]; repeat (refine blkP.mk ?_; simp (disch:=first|omega|(simp only[LN];omega)) only[↓EC,EW,seval,↓reduceIte,↓ED,EE,CVd,lhd]))
   (refine Split.mB (fun h=>?_) (fun h=>?_) <;> (try simp only[SD]at h))
   ·((try simp (disch:=first|omega|(simp only[LN];omega)) only[↓EC,EW,seval,↓reduceIte,↓ED,EE]); repeat (refine blkP.mk ?_; (try simp (disch:=first|omega|(simp only[LN];omega)) only[↓EC,EW,seval,↓reduceIte,↓ED,EE])))
    refine pcd_v k ?_
    ((try simp (disch:=first|omega|(simp only[LN];omega)) only[↓EC,EW,seval,↓reduceIte,↓ED,EE]); repeat (refine blkP.mk ?_; (try simp (disch:=first|omega|(simp only[LN];omega)) only[↓EC,EW,seval,↓reduceIte,↓ED,EE])))
    exact ⟨(t ++ [40] ++ aw2 ++ [41],B2,fp b y),by unfold fp; simp; omega,⟨⟨_,rB⟩,g6,by simp only; omega,by simp only; unfold fp; omega⟩,by simp only[Frs.size]; omega⟩
   ·exfalso; omega
section
variable {n:Int} {b w:List Int} {x:Nat}
theorem Tre.at_ (h:Tre n b w) (hx:x < n.toNat):∃ A B LA LB,wd b w n x = (Frs.cons A B).word /\ A.size + B.size + 1 <= 16 /\ Rd w b x (fp w x) A LA /\ Rd b w x (fp b x) B LB:=by
 obtain ⟨A,B,LA,LB,hW⟩:=h.whole hx
 have hn:=h.Z.B.hn
 have l:=hW.len (by omega)
 exact ⟨A,B,LA,LB,hW.wd,by omega,hW.a,hW.bb⟩
theorem Tre.wd_len (h:Tre n b w) (hx:x < n.toNat):(wd b w n x).length <= 32:=by
 obtain ⟨A,B,LA,LB,e,hs,_⟩:=h.at_ hx
 rw[e,Frs.word_len]; simp only[Frs.size]; omega
end
theorem c_spec_l05AtT {n:Int} {b w:List Int} {x:Nat} (h:Tre n b w) (hx:x < n.toNat):PSpec Tryz.prog 69 [vD n b w,.int .i64 x] fun v=>v = .str (wd b w n x):=by
 obtain ⟨A,B,LA,LB,e,hs,hA,hB⟩:=h.at_ hx
 rw[e]
 exact c_spec_l05At h.Z.B.lo h.Z.W.lo hs hA hB (by have:=h.Z.B.hn; omega)
theorem c_impl_wordOfTree {n:Int} {b w:List Int} {x:Nat} (h:Tre n b w) (hx:x < n.toNat):PSpec Tryz.prog 58 [vD n b w,.int .i64 x] fun v=>v = .str (wd b w n x):=by
 obtain ⟨A,B,LA,LB,e,hs,hA,hB⟩:=h.at_ hx
 have k:=c_impl_wordAtW h.Z.B.lo h.Z.W.lo hs hA hB (by have:=h.Z.B.hn; omega)
 rw[<-e] at k
 generalize wd b w n x = W at *
 have hbl:=h.Z.B.lo.1
 have hwl:=h.Z.W.lo.1
 refine impl_wordOfTree_f.f ?_
 unfold vD
 dsimp only[impl_wordOfTree_F,pcal_B,pcalp_B,pcala_B,pcond_B,pgk_B,JN_B,LP_B]
 (refine bni ?_;repeat (refine bnk ?_;(try simp (disch:=first|omega|(simp only[LN];omega)) only[↓EC,EW,seval,↓reduceIte,↓ED,EE])))
 refine pcd_v k ?_
 (refine bni ?_;repeat (refine bnk ?_;(try simp (disch:=first|omega|(simp only[LN];omega)) only[↓EC,EW,seval,↓reduceIte,↓ED,EE])))
theorem c_impl_leastWord {n:Int} {b w:List Int} (h:Tre n b w):PSpec Tryz.prog 61 [vD n b w] fun v=>v = .tup [.str (lwT (wd b w n) n.toNat).1,.int .i64 (lwT (wd b w n) n.toNat).2]:=by
 have hbl:=h.Z.B.lo.1
 have hwl:=h.Z.W.lo.1
 have hn:=h.Z.B.hn
 have k0:=c_impl_wordOfTree h (x:=0) (by omega)
 refine impl_leastWord_f.f ?_
 unfold vD at *
 dsimp only[impl_leastWord_F,pcal_B,pcalp_B,pcala_B,pcond_B,pgk_B,JN_B,LP_B]
 (refine bni ?_;repeat (refine bnk ?_;(try simp (disch:=first|omega|(simp only[LN];omega)) only[↓EC,EW,seval,↓reduceIte,↓ED,EE])))
 refine pcd_v k0 ?_
 (refine bni ?_;repeat (refine bnk ?_;(try simp (disch:=first|omega|(simp only[LN];omega)) only[↓EC,EW,seval,↓reduceIte,↓ED,EE])))
 refine LPx_of (σ:=Nat) 100000 [(65,28,1)] (fun s=>[.str (lwT (wd b w n) s).1,.int .i64 (lwT (wd b w n) s).2,.int .i64 s]) (fun s=>[.int .i64 n :: vi .u8 (b ++ w)])
  (fun s=>s <= n.toNat /\ 0 <= (lwT (wd b w n) s).2 /\ (lwT (wd b w n) s).2 <= s + 1) (fun s=>n.toNat - s) 0 (by simp[frameOk,names,lpz,sclp,scv,scvs,nrfs,nrf,FRB]) ⟨Nat.zero_le _,by simp[lwT],by simp[lwT]⟩ ?_ ?_
 ·(refine bni ?_;repeat (refine bnk ?_;simp (disch:=first|omega|(simp only[LN];omega)) only[↓EC,EW,seval,↓reduceIte,↓ED,EE,CVd]))
  rfl
 ·rintro s ⟨h1,h2,h3⟩
  by_cases hs:s < n.toNat
  ·have k:=c_impl_wordOfTree h hs
   have e:lwT (wd b w n) (s + 1) = lwS (lwT (wd b w n) s) (wd b w n s):=rfl
   generalize lwT (wd b w n) s = st at *
   generalize wd b w n s = ws at *
   unfold vD at k
   (refine bni ?_;repeat (refine bnk ?_;simp (disch:=first|omega|(simp only[LN];omega)) only[↓EC,EW,seval,↓reduceIte,↓ED,EE,CVd,lhd]))
   (refine Split.mB (fun h=>?_) (fun h=>?_) <;> (try simp only[SD]at h))
   ·refine JNx_un ?_
    (refine bni ?_;repeat (refine bnk ?_;(try simp (disch:=first|omega|(simp only[LN];omega)) only[↓EC,EW,seval,↓reduceIte,↓ED,EE])))
    refine pcd_v k ?_
    (refine bni ?_;repeat (refine bnk ?_;(try simp (disch:=first|omega|(simp only[LN];omega)) only[↓EC,EW,seval,↓reduceIte,↓ED,EE,ls_lss])))
    (refine Split.mB (fun h=>?_) (fun h=>?_) <;> (try simp only[SD]at h))
    ·(refine bni ?_;repeat (refine bnk ?_;(try simp (disch:=first|omega|(simp only[LN];omega)) only[↓EC,EW,seval,↓reduceIte,↓ED,EE])))
     refine ⟨s + 1,?_,?_,by omega⟩
     ·rw[e]; unfold lwS; rw[if_pos h]; simp
     ·rw[e]; unfold lwS; rw[if_pos h]; simp only; omega
    ·have hl:=h
     (refine bni ?_;repeat (refine bnk ?_;(try simp (disch:=first|omega|(simp only[LN];omega)) only[↓EC,EW,seval,↓reduceIte,↓ED,EE])))
     (refine Split.mB (fun h=>?_) (fun h=>?_) <;> (try simp only[SD]at h))
     ·(refine bni ?_;repeat (refine bnk ?_;(try simp (disch:=first|omega|(simp only[LN];omega)) only[↓EC,EW,seval,↓reduceIte,↓ED,EE])))
      refine ⟨s + 1,?_,?_,by omega⟩
      ·rw[e]; unfold lwS; rw[if_neg (by simp[hl]),if_pos h]; simp
      ·rw[e]; unfold lwS; rw[if_neg (by simp[hl]),if_pos h]; simp only; omega
     ·(refine bni ?_;repeat (refine bnk ?_;(try simp (disch:=first|omega|(simp only[LN];omega)) only[↓EC,EW,seval,↓reduceIte,↓ED,EE])))
      refine ⟨s + 1,?_,?_,by omega⟩
      ·rw[e]; unfold lwS; rw[if_neg (by simp[hl]),if_neg h]; simp
      ·rw[e]; unfold lwS; rw[if_neg (by simp[hl]),if_neg h]; omega
   ·exfalso; omega
  ·obtain rfl:s = n.toNat:=by omega
   (refine bni ?_;repeat (refine bnk ?_;simp (disch:=first|omega|(simp only[LN];omega)) only[↓EC,EW,seval,↓reduceIte,↓ED,EE,CVd,lhd]))
   (refine Split.mB (fun h=>?_) (fun h=>?_) <;> (try simp only[SD]at h))
   ·exfalso; omega
   ·(refine bni ?_;repeat (refine bnk ?_;(try simp (disch:=first|omega|(simp only[LN];omega)) only[↓EC,EW,seval,↓reduceIte,↓ED,EE])))
theorem c_spec_l05Canonical {n:Int} {b w:List Int} (h:Tre n b w):PSpec Tryz.prog 65 [vD n b w] fun v=>v = .tup [.str (lwT (wd b w n) n.toNat).1,.int .i64 (lwT (wd b w n) n.toNat).2]:=by
 have hbl:=h.Z.B.lo.1
 have hwl:=h.Z.W.lo.1
 have hn:=h.Z.B.hn
 have k0:=c_spec_l05AtT h (x:=0) (by omega)
 have e1:lwT (wd b w n) 1 = (wd b w n 0,1):=by simp[lwT,lwS,bl_irr]
 refine spec_l05Canonical_f.f ?_
 unfold vD at *
 dsimp only[spec_l05Canonical_F,pcal_B,pcalp_B,pcala_B,pcond_B,pgk_B,JN_B,LP_B]
 (refine bni ?_;repeat (refine bnk ?_;(try simp (disch:=first|omega|(simp only[LN];omega)) only[↓EC,EW,seval,↓reduceIte,↓ED,EE])))
 refine pcd_v k0 ?_
 (refine bni ?_;repeat (refine bnk ?_;(try simp (disch:=first|omega|(simp only[LN];omega)) only[↓EC,EW,seval,↓reduceIte,↓ED,EE])))
 refine LPx_of (σ:=Nat) 100000 [(65,28,1)] (fun s=>[.str (lwT (wd b w n) (s + 1)).1,.int .i64 (lwT (wd b w n) (s + 1)).2,.int .i64 ((s:Int) + 1)]) (fun s=>[.int .i64 n :: vi .u8 (b ++ w)])
  (fun s=>s + 1 <= n.toNat /\ 0 <= (lwT (wd b w n) (s + 1)).2 /\ (lwT (wd b w n) (s + 1)).2 <= s + 1) (fun s=>n.toNat - s) 0 (by simp[frameOk,names,lpz,sclp,scv,scvs,nrfs,nrf,FRB]) ⟨by omega,by rw[e1]; simp,by rw[e1]; simp⟩ ?_ ?_
 ·(refine bni ?_;repeat (refine bnk ?_;simp (disch:=first|omega|(simp only[LN];omega)) only[↓EC,EW,seval,↓reduceIte,↓ED,EE,CVd]))
  rw[e1]
  try rfl
 ·rintro s ⟨h1,h2,h3⟩
  by_cases hs:s + 1 < n.toNat
  ·have k:=c_spec_l05AtT h hs
   have e:lwT (wd b w n) (s + 1 + 1) = lwS (lwT (wd b w n) (s + 1)) (wd b w n (s + 1)):=rfl
   have cs:((s + 1:Nat):Int) = (s:Int) + 1:=by omega
   rw[cs] at k
   generalize lwT (wd b w n) (s + 1) = st at *
   generalize wd b w n (s + 1) = ws at *
   unfold vD at k
   (refine bni ?_;repeat (refine bnk ?_;simp (disch:=first|omega|(simp only[LN];omega)) only[↓EC,EW,seval,↓reduceIte,↓ED,EE,CVd,lhd]))
   (refine Split.mB (fun h=>?_) (fun h=>?_) <;> (try simp only[SD]at h))
   ·refine JNx_un ?_
    (refine bni ?_;repeat (refine bnk ?_;(try simp (disch:=first|omega|(simp only[LN];omega)) only[↓EC,EW,seval,↓reduceIte,↓ED,EE])))
    refine pcd_v k ?_
    (refine bni ?_;repeat (refine bnk ?_;(try simp (disch:=first|omega|(simp only[LN];omega)) only[↓EC,EW,seval,↓reduceIte,↓ED,EE,ls_lss])))
    (refine Split.mB (fun h=>?_) (fun h=>?_) <;> (try simp only[SD]at h))
    ·have hl:Op.bytesLess ws st.1 = false:=by rw[h]; exact bl_irr _
     (refine bni ?_;repeat (refine bnk ?_;(try simp (disch:=first|omega|(simp only[LN];omega)) only[↓EC,EW,seval,↓reduceIte,↓ED,EE])))
     refine ⟨s + 1,?_,?_,by omega⟩
     ·rw[e]; unfold lwS; rw[if_neg (by simp[hl]),if_pos h]; simp
     ·rw[e]; unfold lwS; rw[if_neg (by simp[hl]),if_pos h]; simp only; omega
    ·have hq:=h
     (refine bni ?_;repeat (refine bnk ?_;(try simp (disch:=first|omega|(simp only[LN];omega)) only[↓EC,EW,seval,↓reduceIte,↓ED,EE,ls_lss])))
     (refine Split.mB (fun h=>?_) (fun h=>?_) <;> (try simp only[SD]at h))
     ·(refine bni ?_;repeat (refine bnk ?_;(try simp (disch:=first|omega|(simp only[LN];omega)) only[↓EC,EW,seval,↓reduceIte,↓ED,EE])))
      refine ⟨s + 1,?_,?_,by omega⟩
      ·rw[e]; unfold lwS; rw[if_pos h]; simp
      ·rw[e]; unfold lwS; rw[if_pos h]; simp only; omega
     ·(refine bni ?_;repeat (refine bnk ?_;(try simp (disch:=first|omega|(simp only[LN];omega)) only[↓EC,EW,seval,↓reduceIte,↓ED,EE])))
      refine ⟨s + 1,?_,?_,by omega⟩
      ·rw[e]; unfold lwS; rw[if_neg (by simp[h]),if_neg hq]; simp
      ·rw[e]; unfold lwS; rw[if_neg (by simp[h]),if_neg hq]; omega
   ·exfalso; omega
  ·have es:s + 1 = n.toNat:=by omega
   rw[es] at *
   (refine bni ?_;repeat (refine bnk ?_;simp (disch:=first|omega|(simp only[LN];omega)) only[↓EC,EW,seval,↓reduceIte,↓ED,EE,CVd,lhd]))
   (refine Split.mB (fun h=>?_) (fun h=>?_) <;> (try simp only[SD]at h))
   ·exfalso; omega
   ·(refine bni ?_;repeat (refine bnk ?_;(try simp (disch:=first|omega|(simp only[LN];omega)) only[↓EC,EW,seval,↓reduceIte,↓ED,EE])))
end
section
set_option maxHeartbeats 4000000
section
variable {L:List (List Int)} {N:Nat}
theorem obV_take {z:Int} {s:Sr} {j:Nat} (hj:j < L.length):obV (L.take (j + 1)) z s = visit (gi (gl L j) z.toNat) (obV (L.take j) z s):=by
 unfold obV
 rw[List.take_succ_eq_append_getElem hj,List.foldl_append,gl_of hj]; rfl
theorem Ox.start {m0:List Bool} {i:Nat} (h2:m0.length = 32) (hN:N <= 32) (hi:i < N) (ho:gb m0 i = false):Ox L N m0 i ([(i:Int)],m0.set i true):=by
 refine ⟨by simp[h2],by simp,fun y hy=>?_,fun y hy=>?_,fun y hy=>?_,fun y hy=>?_⟩
 ·rw[gb_set,h2,List.mem_singleton]
  by_cases e:i = y
  ·rw[if_pos ⟨e,hy⟩]; exact ⟨fun _=>.inr (by omega),fun _=>rfl⟩
  ·rw[if_neg fun q=>e q.1]; exact ⟨.inl,fun q=>q.elim id fun q=>absurd (by omega) e⟩
 ·rw[List.mem_singleton.1 hy]; omega
 ·rw[List.mem_singleton.1 hy]; simpa using ho
 ·rw[List.mem_singleton.1 hy]; simpa using Rl.refl
structure Om (L:List (List Int)) (N:Nat) (m0:List Bool) (i:Nat) (s0:Sr) (k j:Nat) (s:Sr):Prop where
 jl:j <= L.length
 e:s = obV (L.take j) (gi s0.1 k) s0
 ox:Ox L N m0 i s
theorem Om.step {m0:List Bool} {i k j:Nat} {s0 s:Sr} (hN:N <= 32) (hv:Ivs L N) (hm:∀ l ∈ L,∀ x,x < N -> gb m0 x = true -> gb m0 (fp l x) = true) (h0:Ox L N m0 i s0) (hk:k < s0.1.length) (h:Om L N m0 i s0 k j s) (hj:j < L.length) :
  Om L N m0 i s0 k (j + 1) (visit (gi (gl L j) (gi s0.1 k).toNat) s):=by
 have hz:gi s0.1 k ∈ s0.1:=by rw[gi_of hk]; exact List.getElem_mem hk
 refine ⟨hj,by rw[obV_take hj,<-h.e],?_⟩
 have:=(Ox.obV hN hv hm (z:=gi s0.1 k) (L.take (j + 1)) (s:=s0) (fun l hl=>List.mem_of_mem_take hl) h0 hz).1
 rw[obV_take hj,<-h.e] at this
 exact this
theorem Om.pre {m0:List Bool} {i k j:Nat} {s0 s:Sr} (h:Om L N m0 i s0 k j s):s0.1.length <= s.1.length /\ ∀ a,a < s0.1.length -> gi s.1 a = gi s0.1 a:=by rw[h.e]; exact obV_pre _
theorem row_lt {z:Int} {j:Nat} (hv:Ivs L N) (hj:j < L.length) (hz:0 <= z /\ z < N):0 <= gi (gl L j) z.toNat /\ gi (gl L j) z.toNat < N:=by
 have:=(hv _ (gl_mem hj)).lt z.toNat (by omega)
 have:=(hv _ (gl_mem hj)).nn z.toNat
 unfold fp at *; omega
end
end
section
set_option maxHeartbeats 4000000
end
section
set_option maxHeartbeats 4000000
section
variable {n:Int} {C T S:List Int}
structure Fk (n:Int) (C T S:List Int):Prop where
 hn:4 <= n /\ n <= 32
 h4:n % 4 = 0
 pC:Prs C n
 pT:Prs T n
 pS:Prs S n
 co:∀ x:Nat,(x:Int) < n -> gi S (gi C x).toNat = gi C (gi S x).toNat
 ne:∀ x:Nat,(x:Int) < n -> gi S (gi C x).toNat ≠ x
end
section
variable {p0 p1 p2 p3 p4 p5:List Int}
end
end
section
set_option maxHeartbeats 4000000
end
section
set_option maxHeartbeats 4000000
def inn (j:Nat) (l:List Int) (i:Nat) (a c:Int):List Int:=if j = 0 then l else if j = 1 then l.set (2 * i) a else (l.set (2 * i) a).set (2 * i + 1) c
theorem inn_len {j:Nat} {l:List Int} {i:Nat} {a c:Int}:(inn j l i a c).length = l.length:=by
 unfold inn
 split
 ·rfl
 ·split <;> simp
def fgC (w:List Int):Nat -> List Int
 | 0=>List.replicate 32 0
 | s + 1=>inn 2 (fgC w s) s (2 * gi w s + 1) (2 * gi w s)
def fgS:Nat -> List Int
 | 0=>List.replicate 32 0
 | s + 1=>inn 2 (fgS s) s (2 * s + 1) (2 * s)
def fgT (b:List Int):Nat -> List Int
 | 0=>List.replicate 32 0
 | s + 1=>((fgT b s).set (2 * s + 1) (2 * gi b s)).set (2 * (gi b s).toNat) (2 * s + 1)
theorem fgC_len {w:List Int}:∀ s,(fgC w s).length = 32
 | 0=>by simp[fgC]
 | s + 1=>by simp only[fgC]; rw[inn_len,fgC_len s]
theorem fgS_len:∀ s,(fgS s).length = 32
 | 0=>by simp[fgS]
 | s + 1=>by simp only[fgS]; rw[inn_len,fgS_len s]
theorem fgT_len {b:List Int}:∀ s,(fgT b s).length = 32
 | 0=>by simp[fgT]
 | s + 1=>by simp[fgT,fgT_len s]
end
section
set_option maxHeartbeats 4000000
end
section
set_option maxHeartbeats 4000000
section
variable {n:Int} {C T S X:List Int}
theorem Fls.sets (F:Fls n C T S) (iX:Iv X n.toNat):Ivs [T,X] n.toNat:=ivs2 F.iT iX
theorem Fls.ob (F:Fls n C T S) (iX:Iv X n.toNat):(∀ a ∈ obs [T,X] n.toNat,1 <= a /\ a <= 32) /\ (obs [T,X] n.toNat).length <= 16:=by
 have h32:=F.h32
 refine ⟨fun a ha=>?_,obs_len16 h32.1 (F.sets iX) (l:=T) (by simp)⟩
 have h1:=obs_ob h32.1 (F.sets iX) (l:=T) (by simp) ha
 have h2:=h1.pos
 have h3:=h1.le
 omega
end
end
section
set_option maxHeartbeats 4000000
def exM (o:List Int) (m:Int):Nat -> List Int
 | 0=>[]
 | t + 1=>exM o m t ++ List.replicate (o.count (m - t)) (m - t)
theorem exM_cnt {o:List Int} {m a:Int}:∀ t,(exM o m t).count a = if m - (t:Int) < a /\ a <= m then o.count a else 0
 | 0=>by
  simp only[exM,List.count_nil]
  rw[if_neg (by omega)]
 | t + 1=>by
  simp only[exM]
  rw[List.count_append,exM_cnt t,List.count_replicate]
  by_cases e:m - t = a
  ·subst e
   rw[if_neg (by omega),if_pos (by simp),if_pos (by omega)]; omega
  ·have:¬ ((m - (t:Int)) == a) = true:=by simpa using e
   rw[if_neg this]
   by_cases q:m - (t:Int) < a /\ a <= m
   ·rw[if_pos q,if_pos (by omega)]; omega
   ·rw[if_neg q,if_neg (by omega)]
theorem exM_len {o:List Int} {m:Int} (h:o.length <= 16):∀ t,(exM o m t).length <= 16 * t
 | 0=>by simp[exM]
 | t + 1=>by
  have:=exM_len (m:=m) h t
  have:=List.count_le_length (a:=m - (t:Int)) (l:=o)
  simp only[exM,List.length_append,List.length_replicate]; omega
theorem exM_all {o:List Int} {m:Int} (hm:0 <= m) (h:∀ a ∈ o,1 <= a /\ a <= m):(exM o m m.toNat).length = o.length:=by
 refine List.Perm.length_eq (List.perm_iff_count.2 fun a=>?_)
 rw[exM_cnt]
 by_cases q:m - ((m.toNat:Nat):Int) < a /\ a <= m
 ·rw[if_pos q]
 ·rw[if_neg q,List.count_eq_zero_of_not_mem fun ha=>q (by have:=h a ha; omega)]
def cnM (o:List Int):Nat -> List Int
 | 0=>List.replicate 17 0
 | s + 1=>(cnM o s).set (gi o s).toNat (gi (cnM o s) (gi o s).toNat + 1)
theorem cnM_len {o:List Int}:∀ s,(cnM o s).length = 17
 | 0=>by simp[cnM]
 | s + 1=>by simp[cnM,cnM_len s]
theorem cnM_at {o:List Int} (h:∀ a ∈ o,1 <= a /\ a <= 16) {y:Nat} (hy:y < 17):∀ s,s <= o.length -> gi (cnM o s) y = ((o.take s).count (y:Int):Int)
 | 0,_=>by simp only[cnM]; rw[gi_rep]; simp
 | s + 1,hs=>by
  have hm:=h (gi o s) (by rw[gi_of (show s < o.length by omega)]; exact List.getElem_mem _)
  simp only[cnM]
  rw[gi_set,cnM_len,cnM_at h hy s (by omega),List.take_succ_eq_append_getElem (show s < o.length by omega),List.count_append,<-gi_of (show s < o.length by omega)]
  by_cases e:(gi o s).toNat = y
  ·rw[if_pos ⟨e,hy⟩,e,cnM_at h hy s (by omega)]
   have:gi o s = (y:Int):=by omega
   rw[this]; simp
  ·rw[if_neg fun q=>e q.1]
   have:¬ gi o s = (y:Int):=by omega
   rw[List.count_cons_of_ne (by simpa using this)]; simp
theorem Pd.lens_lim {p:List Int} {n:Int} (h:Pd p n):∀ a ∈ lens p n,1 <= a /\ a <= n:=fun a ha=>by
 refine ⟨h.len_pos ha,?_⟩
 simp only[lens,List.mem_map] at ha
 obtain ⟨l,hl,rfl⟩:=ha
 obtain ⟨v,hv,rfl⟩:=List.getElem_of_mem hl
 have nd:=h.nd hv
 rw[gl_of hv] at nd
 have:=nodup_len n.toNat ((cyc p n)[v].map Int.toNat) (List.pairwise_map.2 (List.Pairwise.imp_of_mem (fun {a c} ha hc hne ee=>by
  have h1:=(cyc_at h.lt h.hn _ hl).1 a ha
  have h2:=(cyc_at h.lt h.hn _ hl).1 c hc
  omega) nd)) fun z hz=>by
  obtain ⟨u,hu,rfl⟩:=List.mem_map.1 hz
  have:=(cyc_at h.lt h.hn _ hl).1 u hu
  omega
 have:=h.hn
 simp only[List.length_map] at *
 omega
theorem c_spec_l01TypeS {p:List Int} {n:Int} (h:Pd p n):PSpec Tryz.prog 117 [.agg (vi .u8 p),.int .i64 n] fun v=>∃ l:List Int,v = .own 2 1 l.length (vi .i64 l) /\ l.length = (cyc p n).length /\ l.length <= 16:=by
 have hpl:=h.lo.1
 have hn:=h.hn
 have hcl:(cyc p n).length <= 16:=by have:=(cycO_len (p:=p) n.toNat).2; unfold cyc; omega
 have ob:=h.lens_lim
 have ol:(lens p n).length = (cyc p n).length:=lens_len
 have og:∀ s,s < (cyc p n).length -> gi (lens p n) s = ((gl (cyc p n) s).length:Int):=fun s hs=>by
  rw[gi_of (by omega),gl_of hs]; simp[lens]
 have ex:=exM_all (o:=lens p n) (m:=n) (by omega) ob
 refine spec_l01Type_f.f ?_
 dsimp only[spec_l01Type_F,pcal_B,pcalp_B,pcala_B,pcond_B,pgk_B,JN_B,LP_B]
 (refine bni ?_;repeat (refine bnk ?_;(try simp (disch:=first|omega|(simp only[LN];omega)) only[↓EC,EW,seval,↓reduceIte,↓ED,EE])))
 refine pcd_v (c_spec_l01Cycles h.lo hn) ?_
 generalize lens p n = o at *
 generalize cyc p n = A at *
 (refine bni ?_;repeat (refine bnk ?_;(try simp (disch:=first|omega|(simp only[LN];omega)) only[↓EC,EW,seval,↓reduceIte,↓ED,EE])))
 refine LPx_of (σ:=Nat) 100000 [(69,133,1),(79,2,0)] (fun s=>[.int .i64 s]) (fun s=>[vi .i64 (cnM o s),[]]) (fun s=>s <= A.length) (fun s=>A.length - s) 0 (by simp[frameOk,names,lpz,sclp,scv,scvs,nrfs,nrf,FRB]) (Nat.zero_le _) ?_ ?_
 ·(refine bni ?_;repeat (refine bnk ?_;simp (disch:=first|omega|(simp only[LN];omega)) only[↓EC,EW,seval,↓reduceIte,↓ED,EE,CVd]))
  try rfl
 ·intro s hs
  have hl:=cnM_len (o:=o) s
  (refine bni ?_;repeat (refine bnk ?_;simp (disch:=first|omega|(simp only[LN];omega)) only[↓EC,EW,seval,↓reduceIte,↓ED,EE,CVd,lhd]))
  (refine Split.mB (fun h=>?_) (fun h=>?_) <;> (try simp only[SD]at h))
  ·have hb:=ob (gi o s) (by rw[gi_of (show s < o.length by omega)]; exact List.getElem_mem _)
   have hg:=og s (by omega)
   have hc:=cnM_at (o:=o) (fun a ha=>by have:=ob a ha; omega) (y:=(gi o s).toNat) (by omega) s (by omega)
   have hcl:=List.count_le_length (a:=(((gi o s).toNat:Nat):Int)) (l:=o.take s)
   rw[List.length_take] at hcl
   have hgt:(gl A s).length = (gi o s).toNat:=by omega
   (refine bni ?_;repeat (refine bnk ?_;(try simp (disch:=first|omega|(simp only[LN];omega)) only[↓EC,EW,seval,↓reduceIte,↓ED,EE,hgt])))
   refine ⟨s + 1,by simp,?_,by omega,by omega⟩
   simp[cnM]
  ·obtain rfl:s = A.length:=by omega
   have hcn:∀ y:Nat,y < 17 -> gi (cnM o A.length) y = (o.count (y:Int):Int):=fun y hy=>by
    have:=cnM_at (o:=o) (fun a ha=>by have:=ob a ha; omega) hy A.length (by omega)
    rwa [List.take_of_length_le (by omega)] at this
   generalize cnM o A.length = D at *
   (refine bni ?_;repeat (refine bnk ?_;(try simp (disch:=first|omega|(simp only[LN];omega)) only[↓EC,EW,seval,↓reduceIte,↓ED,EE])))
   refine LPx_ofE (σ:=Nat) [1,1] 200000 [(69,133,1)] (fun t=>[.own 2 1 (exM o n t).length (vi .i64 (exM o n t)),.int .i64 (n - t)]) (fun t=>[vi .i64 D]) (fun t=>t <= n.toNat) (fun t=>n.toNat - t) 0 (by simp[frameOk,names,lpz,sclp,scv,scvs,nrfs,nrf,FRB]) (Nat.zero_le _) ?_ ?_
   ·(refine bni ?_;repeat (refine bnk ?_;simp (disch:=first|omega|(simp only[LN];omega)) only[↓EC,EW,seval,↓reduceIte,↓ED,EE,CVd]))
    exact ⟨fun _=>trivial,by simp[exM,vi]⟩
   ·intro t ht
    have xl:=exM_len (o:=o) (m:=n) (by omega) t
    (refine bni ?_;repeat (refine bnk ?_;simp (disch:=first|omega|(simp only[LN];omega)) only[↓EC,EW,seval,↓reduceIte,↓ED,EE,CVd,lhd]))
    (refine Split.mB (fun h=>?_) (fun h=>?_) <;> (try simp only[SD]at h))
    ·have e5:(n - (t:Int)).toNat = n.toNat - t:=by omega
     have hD:=hcn (n.toNat - t) (by omega)
     have e6:((n.toNat - t:Nat):Int) = n - (t:Int):=by omega
     rw[e6] at hD
     have hcl:=List.count_le_length (a:=n - (t:Int)) (l:=o)
     (refine bni ?_;repeat (refine bnk ?_;(try simp (disch:=first|omega|(simp only[LN];omega)) only[↓EC,EW,seval,↓reduceIte,↓ED,EE,e5,hD])))
     generalize hc:o.count (n - (t:Int)) = c at *
     refine LPx_of (σ:=Nat) 300000 [(69,133,1)] (fun j=>[.own 2 1 ((exM o n t).length + j) (vi .i64 (exM o n t ++ List.replicate j (n - (t:Int)))),.int .i64 ((c:Int) - j)]) (fun j=>[vi .i64 D]) (fun j=>j <= c) (fun j=>c - j) 0 (by simp[frameOk,names,lpz,sclp,scv,scvs,nrfs,nrf,FRB]) (Nat.zero_le _) ?_ ?_
     ·(refine bni ?_;repeat (refine bnk ?_;simp (disch:=first|omega|(simp only[LN];omega)) only[↓EC,EW,seval,↓reduceIte,↓ED,EE,CVd]))
      simp
     ·intro j hj
      have hx2:(exM o n t ++ List.replicate j (n - (t:Int))).length = (exM o n t).length + j:=by simp
      (refine bni ?_;repeat (refine bnk ?_;simp (disch:=first|omega|(simp only[LN];omega)) only[↓EC,EW,seval,↓reduceIte,↓ED,EE,CVd,lhd]))
      (refine Split.mB (fun h=>?_) (fun h=>?_) <;> (try simp only[SD]at h))
      ·(refine bni ?_;repeat (refine bnk ?_;(try simp (disch:=first|omega|(simp only[LN];omega)) only[↓EC,EW,seval,↓reduceIte,↓ED,EE])))
       refine ⟨j + 1,?_,by omega,by omega⟩
       have e8:exM o n t ++ List.replicate (j + 1) (n - (t:Int)) = exM o n t ++ List.replicate j (n - (t:Int)) ++ [n - (t:Int)]:=by
        rw[List.replicate_succ',<-List.append_assoc]
       rw[e8]
       simp; omega
      ·obtain rfl:j = c:=by omega
       (refine bni ?_;repeat (refine bnk ?_;(try simp (disch:=first|omega|(simp only[LN];omega)) only[↓EC,EW,seval,↓reduceIte,↓ED,EE])))
       refine ⟨t + 1,?_,by omega,by omega⟩
       have e9:exM o n (t + 1) = exM o n t ++ List.replicate j (n - (t:Int)):=by simp only[exM,hc]
       rw[e9]
       simp; omega
    ·obtain rfl:t = n.toNat:=by omega
     (refine bni ?_;repeat (refine bnk ?_;(try simp (disch:=first|omega|(simp only[LN];omega)) only[↓EC,EW,seval,↓reduceIte,↓ED,EE])))
     exact ⟨_,rfl,by omega,by omega⟩
theorem c_spec_l01PassportS {n:Int} {b w:List Int} (Z:Dz n b w):PSpec Tryz.prog 100 [vD n b w] fun v=>∃ x y z:List Int,v = .own 52 1 3 (vo 2 [x,y,z]) /\ x.length = (cyc b n).length /\ y.length = (cyc w n).length /\ z.length = (cyc (faceP b w n) n).length /\ x.length <= 16 /\ y.length <= 16 /\ z.length <= 16:=by
 have hbl:=Z.B.lo.1
 have hwl:=Z.W.lo.1
 have hfl:=Z.F.lo.1
 have hn:=Z.B.hn
 refine spec_l01Passport_f.f ?_
 unfold vD
 dsimp only[spec_l01Passport_F,pcal_B,pcalp_B,pcala_B,pcond_B,pgk_B,JN_B,LP_B]
 (refine bni ?_;repeat (refine bnk ?_;(try simp (disch:=first|omega|(simp only[LN];omega)) only[↓EC,EW,seval,↓reduceIte,↓ED,EE])))
 refine pcd_rq (c_spec_l01TypeS Z.B) ?_
 rintro _ ⟨x,rfl,hx,hx6⟩
 (refine bni ?_;repeat (refine bnk ?_;(try simp (disch:=first|omega|(simp only[LN];omega)) only[↓EC,EW,seval,↓reduceIte,↓ED,EE])))
 refine pcd_rq (c_spec_l01TypeS Z.W) ?_
 rintro _ ⟨y,rfl,hy,hy6⟩
 (refine bni ?_;repeat (refine bnk ?_;(try simp (disch:=first|omega|(simp only[LN];omega)) only[↓EC,EW,seval,↓reduceIte,↓ED,EE])))
 refine pcd_v (c_spec_l01Face Z.B.lo Z.W.lo hn) ?_
 (refine bni ?_;repeat (refine bnk ?_;(try simp (disch:=first|omega|(simp only[LN];omega)) only[↓EC,EW,seval,↓reduceIte,↓ED,EE])))
 refine pcd_rq (c_spec_l01TypeS Z.F) ?_
 rintro _ ⟨z,rfl,hz,hz6⟩
 (refine bni ?_;repeat (refine bnk ?_;(try simp (disch:=first|omega|(simp only[LN];omega)) only[↓EC,EW,seval,↓reduceIte,↓ED,EE])))
 exact ⟨x,y,z,rfl,hx,hy,hz,hx6,hy6,hz6⟩
def trB (n:Int) (b w:List Int):Bool:=decide ((cyc (faceP b w n) n).length = 1 /\ ((cyc b n).length:Int) + (cyc w n).length = n + 1)
theorem c_spec_l05Tree {n:Int} {b w:List Int} (Z:Dz n b w):PSpec Tryz.prog 68 [vD n b w] fun v=>v = .bool (trB n b w):=by
 have hbl:=Z.B.lo.1
 have hwl:=Z.W.lo.1
 have hn:=Z.B.hn
 have k:=c_spec_l01PassportS Z
 refine spec_l05Tree_f.f ?_
 unfold vD at *
 dsimp only[spec_l05Tree_F,pcal_B,pcalp_B,pcala_B,pcond_B,pgk_B,JN_B,LP_B]
 (refine bni ?_;repeat (refine bnk ?_;(try simp (disch:=first|omega|(simp only[LN];omega)) only[↓EC,EW,seval,↓reduceIte,↓ED,EE])))
 refine pcd_r k ?_
 rintro _ ⟨x,y,z,rfl,hx,hy,hz,hx6,hy6,hz6⟩
 have g0:gl [x,y,z] 0 = x:=rfl
 have g1:gl [x,y,z] 1 = y:=rfl
 have g2:gl [x,y,z] 2 = z:=rfl
 (refine bni ?_;repeat (refine bnk ?_;(try simp (disch:=first|omega|(simp only[LN];omega)) only[↓EC,EW,seval,↓reduceIte,↓ED,EE,g2])))
 (refine Split.mB (fun h=>?_) (fun h=>?_) <;> (try simp only[SD]at h))
 ·(refine bni ?_;repeat (refine bnk ?_;(try simp (disch:=first|omega|(simp only[LN];omega)) only[↓EC,EW,seval,↓reduceIte,↓ED,EE,g0,g1])))
  unfold trB
  rw[<-hx,<-hy,<-hz]
  have h1:z.length = 1:=by omega
  by_cases q:(x.length:Int) + y.length = n + 1
  ·simp[h1,q]
  ·simp[h1,q]
 ·(refine bni ?_;repeat (refine bnk ?_;(try simp (disch:=first|omega|(simp only[LN];omega)) only[↓EC,EW,seval,↓reduceIte,↓ED,EE])))
  unfold trB
  rw[decide_eq_false]
  rintro ⟨q,_⟩
  omega
theorem c_impl_isTree {n:Int} {b w:List Int} (Z:Dz n b w):PSpec Tryz.prog 59 [vD n b w] fun v=>v = .bool (trB n b w):=by
 have hbl:=Z.B.lo.1
 have hwl:=Z.W.lo.1
 have hn:=Z.B.hn
 have k:PSpec Tryz.prog 78 [vD n b w] fun v=>∃ x y z:List Int,v = .own 52 1 3 (vo 2 [x,y,z]) /\ x.length = (cyc b n).length /\ y.length = (cyc w n).length /\ z.length = (cyc (faceP b w n) n).length /\ x.length <= 16 /\ y.length <= 16 /\ z.length <= 16 :=
  (c_impl_passportS Z.B.lo Z.W.lo hn).mono fun v e=>⟨typ b n,typ w n,typ (faceP b w n) n,e,typ_len,typ_len,typ_len,by
   rw[typ_len]; have:=(cycO_len (p:=b) n.toNat).2; unfold cyc; omega,by
   rw[typ_len]; have:=(cycO_len (p:=w) n.toNat).2; unfold cyc; omega,by
   rw[typ_len]; have:=(cycO_len (p:=faceP b w n) n.toNat).2; unfold cyc; omega⟩
 refine impl_isTree_f.f ?_
 unfold vD at *
 dsimp only[impl_isTree_F,pcal_B,pcalp_B,pcala_B,pcond_B,pgk_B,JN_B,LP_B]
 (refine bni ?_;repeat (refine bnk ?_;(try simp (disch:=first|omega|(simp only[LN];omega)) only[↓EC,EW,seval,↓reduceIte,↓ED,EE])))
 refine pcd_r k ?_
 rintro _ ⟨x,y,z,rfl,hx,hy,hz,hx6,hy6,hz6⟩
 have g0:gl [x,y,z] 0 = x:=rfl
 have g1:gl [x,y,z] 1 = y:=rfl
 have g2:gl [x,y,z] 2 = z:=rfl
 (refine bni ?_;repeat (refine bnk ?_;(try simp (disch:=first|omega|(simp only[LN];omega)) only[↓EC,EW,seval,↓reduceIte,↓ED,EE,g2])))
 (refine Split.mB (fun h=>?_) (fun h=>?_) <;> (try simp only[SD]at h))
 ·(refine bni ?_;repeat (refine bnk ?_;(try simp (disch:=first|omega|(simp only[LN];omega)) only[↓EC,EW,seval,↓reduceIte,↓ED,EE,g0,g1])))
  unfold trB
  rw[<-hx,<-hy,<-hz]
  have h1:z.length = 1:=by omega
  by_cases q:(x.length:Int) + y.length = n + 1
  ·simp[h1,q]
  ·simp[h1,q]
 ·(refine bni ?_;repeat (refine bnk ?_;(try simp (disch:=first|omega|(simp only[LN];omega)) only[↓EC,EW,seval,↓reduceIte,↓ED,EE])))
  unfold trB
  rw[decide_eq_false]
  rintro ⟨q,_⟩
  omega
theorem trB_tre {n:Int} {b w:List Int} (Z:Dz n b w) (h:trB n b w = true):Tre n b w:=by
 simp only[trB,decide_eq_true_eq] at h
 exact ⟨Z,h.2⟩
theorem Mkd.trB {n:Int} {b w:List Int} {A B:Frs} (h:Mkd n b w A B):Sep.trB n b w = true:=by
 simp only[Sep.trB,decide_eq_true_eq]
 exact ⟨h.face,h.tre.v⟩
noncomputable def tcR (n:Int) (b w:List Int):Int:=if isDB n b w = true then (if trB n b w = true then 0 else 5) else 1
noncomputable def tcX (n:Int) (b w:List Int) (x:Int):Int:=if isDB n b w = true then (if 0 <= x /\ x < n then (if trB n b w = true then 0 else 5) else 2) else 1
theorem c_impl_IsTree {n:Int} {b w:List Int} (hb:okP b) (hw:okP w):PSpec Tryz.prog 10 [vD n b w] fun v=>v = if isDB n b w = true then .tup [.bool (trB n b w),.int .i64 0] else .tup [.bool false,.int .i64 1]:=by
 have hbl:=hb.1
 have hwl:=hw.1
 refine impl_IsTree_f.f ?_
 unfold vD
 dsimp only[impl_IsTree_F,pcal_B,pcalp_B,pcala_B,pcond_B,pgk_B,JN_B,LP_B]
 (refine bni ?_;repeat (refine bnk ?_;(try simp (disch:=first|omega|(simp only[LN];omega)) only[↓EC,EW,seval,↓reduceIte,↓ED,EE])))
 refine pcd_v (c_impl_IsDessin (n:=n) hb hw) ?_
 cases hd:isDB n b w with
 | false =>
  (refine bni ?_;repeat (refine bnk ?_;(try simp (disch:=first|omega|(simp only[LN];omega)) only[↓EC,EW,seval,↓reduceIte,↓ED,EE])))
  try rfl
 | true =>
  have Z:=(isDB_iff.1 hd).dz hb hw
  have k:=c_impl_isTree Z
  unfold vD at k
  (refine bni ?_;repeat (refine bnk ?_;(try simp (disch:=first|omega|(simp only[LN];omega)) only[↓EC,EW,seval,↓reduceIte,↓ED,EE])))
  refine pcd_v k ?_
  (refine bni ?_;repeat (refine bnk ?_;(try simp (disch:=first|omega|(simp only[LN];omega)) only[↓EC,EW,seval,↓reduceIte,↓ED,EE])))
  try rfl
theorem c_spec_IsTree {n:Int} {b w:List Int} (hb:okP b) (hw:okP w):PSpec Tryz.prog 22 [vD n b w] fun v=>v = if isDB n b w = true then .tup [.bool (trB n b w),.int .i64 0] else .tup [.bool false,.int .i64 1]:=by
 have hbl:=hb.1
 have hwl:=hw.1
 refine spec_IsTree_f.f ?_
 unfold vD
 dsimp only[spec_IsTree_F,pcal_B,pcalp_B,pcala_B,pcond_B,pgk_B,JN_B,LP_B]
 (refine bni ?_;repeat (refine bnk ?_;(try simp (disch:=first|omega|(simp only[LN];omega)) only[↓EC,EW,seval,↓reduceIte,↓ED,EE])))
 refine pcd_v (c_spec_l01Is (n:=n) hb hw) ?_
 cases hd:isDB n b w with
 | false =>
  (refine bni ?_;repeat (refine bnk ?_;(try simp (disch:=first|omega|(simp only[LN];omega)) only[↓EC,EW,seval,↓reduceIte,↓ED,EE])))
  try rfl
 | true =>
  have Z:=(isDB_iff.1 hd).dz hb hw
  have k:=c_spec_l05Tree Z
  unfold vD at k
  (refine bni ?_;repeat (refine bnk ?_;(try simp (disch:=first|omega|(simp only[LN];omega)) only[↓EC,EW,seval,↓reduceIte,↓ED,EE])))
  refine pcd_v k ?_
  (refine bni ?_;repeat (refine bnk ?_;(try simp (disch:=first|omega|(simp only[LN];omega)) only[↓EC,EW,seval,↓reduceIte,↓ED,EE])))
  try rfl
theorem c_spec_l05Code {n:Int} {b w:List Int} (hb:okP b) (hw:okP w):PSpec Tryz.prog 64 [vD n b w] fun v=>v = .int .i64 (tcR n b w):=by
 have hbl:=hb.1
 have hwl:=hw.1
 refine spec_l05Code_f.f ?_
 unfold vD
 dsimp only[spec_l05Code_F,pcal_B,pcalp_B,pcala_B,pcond_B,pgk_B,JN_B,LP_B]
 (refine bni ?_;repeat (refine bnk ?_;(try simp (disch:=first|omega|(simp only[LN];omega)) only[↓EC,EW,seval,↓reduceIte,↓ED,EE])))
 refine pcd_v (c_spec_l01Is (n:=n) hb hw) ?_
 cases hd:isDB n b w with
 | false =>
  (refine bni ?_;repeat (refine bnk ?_;(try simp (disch:=first|omega|(simp only[LN];omega)) only[↓EC,EW,seval,↓reduceIte,↓ED,EE])))
  simp[tcR,hd]
 | true =>
  have Z:=(isDB_iff.1 hd).dz hb hw
  have k:=c_spec_l05Tree Z
  unfold vD at k
  (refine bni ?_;repeat (refine bnk ?_;(try simp (disch:=first|omega|(simp only[LN];omega)) only[↓EC,EW,seval,↓reduceIte,↓ED,EE])))
  refine pcd_v k ?_
  cases ht:trB n b w <;> (refine bni ?_;repeat (refine bnk ?_;(try simp (disch:=first|omega|(simp only[LN];omega)) only[↓EC,EW,seval,↓reduceIte,↓ED,EE]))) <;> simp[tcR,hd,ht]
theorem c_impl_treeCode {n:Int} {b w:List Int} (hb:okP b) (hw:okP w):PSpec Tryz.prog 57 [vD n b w,.nils] fun v=>v = .int .i64 (tcR n b w):=by
 have hbl:=hb.1
 have hwl:=hw.1
 have kd:PSpec Tryz.prog 91 [vD n b w,.nils] fun v=>v = .bool true:=by
  refine impl_isDart_f.f ?_
  unfold vD
  dsimp only[impl_isDart_F,pcal_B,pcalp_B,pcala_B,pcond_B,pgk_B,JN_B,LP_B]
  (refine bni ?_;repeat (refine bnk ?_;(try simp (disch:=first|omega|(simp only[LN];omega)) only[↓EC,EW,seval,↓reduceIte,↓ED,EE])))
  refine LPx_of (σ:=Nat) 100000 [(66,28,1)] (fun s=>[.int .i64 s]) (fun s=>[.int .i64 n :: vi .u8 (b ++ w)]) (fun s=>s = 0) (fun s=>0) 0 (by simp[frameOk,names,lpz,sclp,scv,scvs,nrfs,nrf,FRB]) rfl ?_ ?_
  ·(refine bni ?_;repeat (refine bnk ?_;simp (disch:=first|omega|(simp only[LN];omega)) only[↓EC,EW,seval,↓reduceIte,↓ED,EE,CVd]))
   try rfl
  ·rintro s rfl
   (refine bni ?_;repeat (refine bnk ?_;simp (disch:=first|omega|(simp only[LN];omega)) only[↓EC,EW,seval,↓reduceIte,↓ED,EE,CVd,lhd]))
   try rfl
 refine impl_treeCode_f.f ?_
 unfold vD at *
 dsimp only[impl_treeCode_F,pcal_B,pcalp_B,pcala_B,pcond_B,pgk_B,JN_B,LP_B]
 (refine bni ?_;repeat (refine bnk ?_;(try simp (disch:=first|omega|(simp only[LN];omega)) only[↓EC,EW,seval,↓reduceIte,↓ED,EE])))
 refine pcd_v (c_impl_IsDessin (n:=n) hb hw) ?_
 cases hd:isDB n b w with
 | false =>
  (refine bni ?_;repeat (refine bnk ?_;(try simp (disch:=first|omega|(simp only[LN];omega)) only[↓EC,EW,seval,↓reduceIte,↓ED,EE])))
  simp[tcR,hd]
 | true =>
  have Z:=(isDB_iff.1 hd).dz hb hw
  have k:=c_impl_isTree Z
  unfold vD at k
  (refine bni ?_;repeat (refine bnk ?_;(try simp (disch:=first|omega|(simp only[LN];omega)) only[↓EC,EW,seval,↓reduceIte,↓ED,EE])))
  refine pcd_v kd ?_
  (refine bni ?_;repeat (refine bnk ?_;(try simp (disch:=first|omega|(simp only[LN];omega)) only[↓EC,EW,seval,↓reduceIte,↓ED,EE])))
  refine pcd_v k ?_
  cases ht:trB n b w <;> (refine bni ?_;repeat (refine bnk ?_;(try simp (disch:=first|omega|(simp only[LN];omega)) only[↓EC,EW,seval,↓reduceIte,↓ED,EE]))) <;> simp[tcR,hd,ht]
theorem c_impl_treeCodeX {n x:Int} {b w:List Int} (hb:okP b) (hw:okP w):PSpec Tryz.prog 57 [vD n b w,.sl 1 [.int .i64 x]] fun v=>v = .int .i64 (tcX n b w x):=by
 have hbl:=hb.1
 have hwl:=hw.1
 have kd:=c_impl_isDart (n:=n) (x:=x) hbl hwl
 refine impl_treeCode_f.f ?_
 unfold vD at *
 dsimp only[impl_treeCode_F,pcal_B,pcalp_B,pcala_B,pcond_B,pgk_B,JN_B,LP_B]
 (refine bni ?_;repeat (refine bnk ?_;(try simp (disch:=first|omega|(simp only[LN];omega)) only[↓EC,EW,seval,↓reduceIte,↓ED,EE])))
 refine pcd_v (c_impl_IsDessin (n:=n) hb hw) ?_
 cases hd:isDB n b w with
 | false =>
  (refine bni ?_;repeat (refine bnk ?_;(try simp (disch:=first|omega|(simp only[LN];omega)) only[↓EC,EW,seval,↓reduceIte,↓ED,EE])))
  simp[tcX,hd]
 | true =>
  have Z:=(isDB_iff.1 hd).dz hb hw
  have k:=c_impl_isTree Z
  unfold vD at k
  (refine bni ?_;repeat (refine bnk ?_;(try simp (disch:=first|omega|(simp only[LN];omega)) only[↓EC,EW,seval,↓reduceIte,↓ED,EE])))
  refine pcd_v kd ?_
  by_cases q:0 <= x /\ x < n
  ·have q':decide (0 <= x /\ x < n) = true:=by simpa using q
   (refine bni ?_;repeat (refine bnk ?_;(try simp (disch:=first|omega|(simp only[LN];omega)) only[↓EC,EW,seval,↓reduceIte,↓ED,EE,q'])))
   refine pcd_v k ?_
   cases ht:trB n b w <;> (refine bni ?_;repeat (refine bnk ?_;(try simp (disch:=first|omega|(simp only[LN];omega)) only[↓EC,EW,seval,↓reduceIte,↓ED,EE]))) <;> simp[tcX,hd,ht,q]
  ·have q':decide (0 <= x /\ x < n) = false:=by simpa using q
   (refine bni ?_;repeat (refine bnk ?_;(try simp (disch:=first|omega|(simp only[LN];omega)) only[↓EC,EW,seval,↓reduceIte,↓ED,EE,q'])))
   simp only[tcX,hd,if_true]; rw[if_neg q]
end
section
set_option maxHeartbeats 4000000
noncomputable def cnR (n:Int) (b w:List Int):List UInt8 × Int:=if tcR n b w = 0 then ((lwT (wd b w n) n.toNat).1,0) else ([],tcR n b w)
noncomputable def syR (n:Int) (b w:List Int):Int × Int:=if tcR n b w = 0 then ((lwT (wd b w n) n.toNat).2,0) else (0,tcR n b w)
noncomputable def woR (n:Int) (b w:List Int) (x:Int):List UInt8 × Int:=if tcX n b w x = 0 then (wd b w n x.toNat,0) else ([],tcX n b w x)
section
variable {n x:Int} {b w:List Int}
theorem tcR_0 (hb:okP b) (hw:okP w) (h:tcR n b w = 0):isDB n b w = true /\ trB n b w = true /\ Tre n b w:=by
 unfold tcR at h
 split at h
 ·rename_i hd
  split at h
  ·rename_i ht
   exact ⟨hd,ht,trB_tre ((isDB_iff.1 hd).dz hb hw) ht⟩
  ·cases h
 ·cases h
theorem tcX_0 (hb:okP b) (hw:okP w) (h:tcX n b w x = 0):isDB n b w = true /\ trB n b w = true /\ Tre n b w /\ 0 <= x /\ x < n:=by
 unfold tcX at h
 split at h
 ·rename_i hd
  split at h
  ·rename_i hx
   split at h
   ·rename_i ht
    exact ⟨hd,ht,trB_tre ((isDB_iff.1 hd).dz hb hw) ht,hx⟩
   ·cases h
  ·cases h
 ·cases h
end
theorem c_impl_CanonicalWord {n:Int} {b w:List Int} (hb:okP b) (hw:okP w):PSpec Tryz.prog 12 [vD n b w] fun v=>v = .tup [.str (cnR n b w).1,.int .i64 (cnR n b w).2]:=by
 have hbl:=hb.1
 have hwl:=hw.1
 have k1:=c_impl_treeCode (n:=n) hb hw
 refine impl_CanonicalWord_f.f ?_
 unfold vD at *
 dsimp only[impl_CanonicalWord_F,pcal_B,pcalp_B,pcala_B,pcond_B,pgk_B,JN_B,LP_B]
 (refine bni ?_;repeat (refine bnk ?_;(try simp (disch:=first|omega|(simp only[LN];omega)) only[↓EC,EW,seval,↓reduceIte,↓ED,EE])))
 refine pcd_v k1 ?_
 by_cases h0:tcR n b w = 0
 ·have T:=(tcR_0 hb hw h0).2.2
  have k:=c_impl_leastWord T
  unfold vD at k
  have er:cnR n b w = ((lwT (wd b w n) n.toNat).1,0):=by unfold cnR; rw[if_pos h0]
  rw[er]
  generalize lwT (wd b w n) n.toNat = r at *
  (refine bni ?_;repeat (refine bnk ?_;(try simp (disch:=first|omega|(simp only[LN];omega)) only[↓EC,EW,seval,↓reduceIte,↓ED,EE,h0])))
  refine pcd_v k ?_
  (refine bni ?_;repeat (refine bnk ?_;(try simp (disch:=first|omega|(simp only[LN];omega)) only[↓EC,EW,seval,↓reduceIte,↓ED,EE])))
 ·have er:cnR n b w = ([],tcR n b w):=by unfold cnR; rw[if_neg h0]
  rw[er]
  generalize tcR n b w = c at *
  have hc:(c != 0) = true:=by simpa using h0
  (refine bni ?_;repeat (refine bnk ?_;(try simp (disch:=first|omega|(simp only[LN];omega)) only[↓EC,EW,seval,↓reduceIte,↓ED,EE,hc])))
theorem c_spec_CanonicalWord {n:Int} {b w:List Int} (hb:okP b) (hw:okP w):PSpec Tryz.prog 20 [vD n b w] fun v=>v = .tup [.str (cnR n b w).1,.int .i64 (cnR n b w).2]:=by
 have hbl:=hb.1
 have hwl:=hw.1
 have k1:=c_spec_l05Code (n:=n) hb hw
 refine spec_CanonicalWord_f.f ?_
 unfold vD at *
 dsimp only[spec_CanonicalWord_F,pcal_B,pcalp_B,pcala_B,pcond_B,pgk_B,JN_B,LP_B]
 (refine bni ?_;repeat (refine bnk ?_;(try simp (disch:=first|omega|(simp only[LN];omega)) only[↓EC,EW,seval,↓reduceIte,↓ED,EE])))
 refine pcd_v k1 ?_
 by_cases h0:tcR n b w = 0
 ·have T:=(tcR_0 hb hw h0).2.2
  have k:=c_spec_l05Canonical T
  unfold vD at k
  have er:cnR n b w = ((lwT (wd b w n) n.toNat).1,0):=by unfold cnR; rw[if_pos h0]
  rw[er]
  generalize lwT (wd b w n) n.toNat = r at *
  (refine bni ?_;repeat (refine bnk ?_;(try simp (disch:=first|omega|(simp only[LN];omega)) only[↓EC,EW,seval,↓reduceIte,↓ED,EE,h0])))
  refine pcd_v k ?_
  (refine bni ?_;repeat (refine bnk ?_;(try simp (disch:=first|omega|(simp only[LN];omega)) only[↓EC,EW,seval,↓reduceIte,↓ED,EE])))
 ·have er:cnR n b w = ([],tcR n b w):=by unfold cnR; rw[if_neg h0]
  rw[er]
  generalize tcR n b w = c at *
  have hc:(c != 0) = true:=by simpa using h0
  (refine bni ?_;repeat (refine bnk ?_;(try simp (disch:=first|omega|(simp only[LN];omega)) only[↓EC,EW,seval,↓reduceIte,↓ED,EE,hc])))
theorem c_impl_SymmetryOf {n:Int} {b w:List Int} (hb:okP b) (hw:okP w):PSpec Tryz.prog 15 [vD n b w] fun v=>v = .tup [.int .i64 (syR n b w).1,.int .i64 (syR n b w).2]:=by
 have hbl:=hb.1
 have hwl:=hw.1
 have k1:=c_impl_treeCode (n:=n) hb hw
 refine impl_SymmetryOf_f.f ?_
 unfold vD at *
 dsimp only[impl_SymmetryOf_F,pcal_B,pcalp_B,pcala_B,pcond_B,pgk_B,JN_B,LP_B]
 (refine bni ?_;repeat (refine bnk ?_;(try simp (disch:=first|omega|(simp only[LN];omega)) only[↓EC,EW,seval,↓reduceIte,↓ED,EE])))
 refine pcd_v k1 ?_
 by_cases h0:tcR n b w = 0
 ·have T:=(tcR_0 hb hw h0).2.2
  have k:=c_impl_leastWord T
  unfold vD at k
  have er:syR n b w = ((lwT (wd b w n) n.toNat).2,0):=by unfold syR; rw[if_pos h0]
  rw[er]
  generalize lwT (wd b w n) n.toNat = r at *
  (refine bni ?_;repeat (refine bnk ?_;(try simp (disch:=first|omega|(simp only[LN];omega)) only[↓EC,EW,seval,↓reduceIte,↓ED,EE,h0])))
  refine pcd_v k ?_
  (refine bni ?_;repeat (refine bnk ?_;(try simp (disch:=first|omega|(simp only[LN];omega)) only[↓EC,EW,seval,↓reduceIte,↓ED,EE])))
 ·have er:syR n b w = (0,tcR n b w):=by unfold syR; rw[if_neg h0]
  rw[er]
  generalize tcR n b w = c at *
  have hc:(c != 0) = true:=by simpa using h0
  (refine bni ?_;repeat (refine bnk ?_;(try simp (disch:=first|omega|(simp only[LN];omega)) only[↓EC,EW,seval,↓reduceIte,↓ED,EE,hc])))
theorem c_spec_SymmetryOf {n:Int} {b w:List Int} (hb:okP b) (hw:okP w):PSpec Tryz.prog 16 [vD n b w] fun v=>v = .tup [.int .i64 (syR n b w).1,.int .i64 (syR n b w).2]:=by
 have hbl:=hb.1
 have hwl:=hw.1
 have k1:=c_spec_l05Code (n:=n) hb hw
 refine spec_SymmetryOf_f.f ?_
 unfold vD at *
 dsimp only[spec_SymmetryOf_F,pcal_B,pcalp_B,pcala_B,pcond_B,pgk_B,JN_B,LP_B]
 (refine bni ?_;repeat (refine bnk ?_;(try simp (disch:=first|omega|(simp only[LN];omega)) only[↓EC,EW,seval,↓reduceIte,↓ED,EE])))
 refine pcd_v k1 ?_
 by_cases h0:tcR n b w = 0
 ·have T:=(tcR_0 hb hw h0).2.2
  have k:=c_spec_l05Canonical T
  unfold vD at k
  have er:syR n b w = ((lwT (wd b w n) n.toNat).2,0):=by unfold syR; rw[if_pos h0]
  rw[er]
  generalize lwT (wd b w n) n.toNat = r at *
  (refine bni ?_;repeat (refine bnk ?_;(try simp (disch:=first|omega|(simp only[LN];omega)) only[↓EC,EW,seval,↓reduceIte,↓ED,EE,h0])))
  refine pcd_v k ?_
  (refine bni ?_;repeat (refine bnk ?_;(try simp (disch:=first|omega|(simp only[LN];omega)) only[↓EC,EW,seval,↓reduceIte,↓ED,EE])))
 ·have er:syR n b w = (0,tcR n b w):=by unfold syR; rw[if_neg h0]
  rw[er]
  generalize tcR n b w = c at *
  have hc:(c != 0) = true:=by simpa using h0
  (refine bni ?_;repeat (refine bnk ?_;(try simp (disch:=first|omega|(simp only[LN];omega)) only[↓EC,EW,seval,↓reduceIte,↓ED,EE,hc])))
theorem c_impl_WordOfTree {n x:Int} {b w:List Int} (hb:okP b) (hw:okP w):PSpec Tryz.prog 9 [vD n b w,.int .i64 x] fun v=>v = .tup [.str (woR n b w x).1,.int .i64 (woR n b w x).2]:=by
 have hbl:=hb.1
 have hwl:=hw.1
 have k1:=c_impl_treeCodeX (n:=n) (x:=x) hb hw
 refine impl_WordOfTree_f.f ?_
 unfold vD at *
 dsimp only[impl_WordOfTree_F,pcal_B,pcalp_B,pcala_B,pcond_B,pgk_B,JN_B,LP_B]
 (refine bni ?_;repeat (refine bnk ?_;(try simp (disch:=first|omega|(simp only[LN];omega)) only[↓EC,EW,seval,↓reduceIte,↓ED,EE])))
 refine pcd_v k1 ?_
 by_cases h0:tcX n b w x = 0
 ·obtain ⟨_,_,T,hx⟩:=tcX_0 hb hw h0
  have k:=c_impl_wordOfTree T (x:=x.toNat) (by omega)
  rw[show ((x.toNat:Nat):Int) = x by omega] at k
  unfold vD at k
  have er:woR n b w x = (wd b w n x.toNat,0):=by unfold woR; rw[if_pos h0]
  rw[er]
  generalize wd b w n x.toNat = r at *
  (refine bni ?_;repeat (refine bnk ?_;(try simp (disch:=first|omega|(simp only[LN];omega)) only[↓EC,EW,seval,↓reduceIte,↓ED,EE,h0])))
  refine pcd_v k ?_
  (refine bni ?_;repeat (refine bnk ?_;(try simp (disch:=first|omega|(simp only[LN];omega)) only[↓EC,EW,seval,↓reduceIte,↓ED,EE])))
 ·have er:woR n b w x = ([],tcX n b w x):=by unfold woR; rw[if_neg h0]
  rw[er]
  generalize tcX n b w x = c at *
  have hc:(c != 0) = true:=by simpa using h0
  (refine bni ?_;repeat (refine bnk ?_;(try simp (disch:=first|omega|(simp only[LN];omega)) only[↓EC,EW,seval,↓reduceIte,↓ED,EE,hc])))
theorem c_spec_WordOfTree {n x:Int} {b w:List Int} (hb:okP b) (hw:okP w) (hnl:-1 <= n /\ n <= 17):PSpec Tryz.prog 18 [vD n b w,.int .i64 x] fun v=>v = .tup [.str (woR n b w x).1,.int .i64 (woR n b w x).2]:=by
 have hbl:=hb.1
 have hwl:=hw.1
 refine spec_WordOfTree_f.f ?_
 unfold vD
 dsimp only[spec_WordOfTree_F,pcal_B,pcalp_B,pcala_B,pcond_B,pgk_B,JN_B,LP_B]
 (refine bni ?_;repeat (refine bnk ?_;(try simp (disch:=first|omega|(simp only[LN];omega)) only[↓EC,EW,seval,↓reduceIte,↓ED,EE])))
 refine pcd_v (c_spec_l01Is (n:=n) hb hw) ?_
 cases hd:isDB n b w with
 | false =>
  (refine bni ?_;repeat (refine bnk ?_;(try simp (disch:=first|omega|(simp only[LN];omega)) only[↓EC,EW,seval,↓reduceIte,↓ED,EE])))
  simp[woR,tcX,hd]
 | true =>
  have Z:=(isDB_iff.1 hd).dz hb hw
  have k:=c_spec_l05Tree Z
  unfold vD at k
  (refine bni ?_;repeat (refine bnk ?_;(try simp (disch:=first|omega|(simp only[LN];omega)) only[↓EC,EW,seval,↓reduceIte,↓ED,EE])))
  refine pcd_v c_spec_l01In ?_
  by_cases hx:0 <= x /\ x < n
  ·have hx':decide (0 <= x /\ x <= n - 1) = true:=by simp; omega
   (refine bni ?_;repeat (refine bnk ?_;(try simp (disch:=first|omega|(simp only[LN];omega)) only[↓EC,EW,seval,↓reduceIte,↓ED,EE,hx'])))
   refine pcd_v k ?_
   cases ht:trB n b w with
   | false =>
    (refine bni ?_;repeat (refine bnk ?_;(try simp (disch:=first|omega|(simp only[LN];omega)) only[↓EC,EW,seval,↓reduceIte,↓ED,EE])))
    simp[woR,tcX,hd,hx,ht]
   | true =>
    have T:=trB_tre Z ht
    have k2:=c_spec_l05AtT T (x:=x.toNat) (by omega)
    rw[show ((x.toNat:Nat):Int) = x by omega] at k2
    unfold vD at k2
    have er:woR n b w x = (wd b w n x.toNat,0):=by simp[woR,tcX,hd,hx,ht]
    rw[er]
    generalize wd b w n x.toNat = r at *
    (refine bni ?_;repeat (refine bnk ?_;(try simp (disch:=first|omega|(simp only[LN];omega)) only[↓EC,EW,seval,↓reduceIte,↓ED,EE])))
    refine pcd_v k2 ?_
    (refine bni ?_;repeat (refine bnk ?_;(try simp (disch:=first|omega|(simp only[LN];omega)) only[↓EC,EW,seval,↓reduceIte,↓ED,EE])))
  ·have hx':decide (0 <= x /\ x <= n - 1) = false:=by simp; omega
   (refine bni ?_;repeat (refine bnk ?_;(try simp (disch:=first|omega|(simp only[LN];omega)) only[↓EC,EW,seval,↓reduceIte,↓ED,EE,hx'])))
   have er:woR n b w x = ([],2):=by
    have:tcX n b w x = 2:=by simp only[tcX,hd,if_true]; rw[if_neg hx]
    unfold woR; rw[this]; rfl
   rw[er]
end
section
set_option maxHeartbeats 16000000
theorem tm2e {s d:Nat} (e:(s:Int) - 1 = d) (h:((s:Int) - 1).tmod 2 = 0):d % 2 = 0:=by
 rw[e] at h
 have:(d:Int).tmod 2 = (d:Int) % 2:=Int.tmod_eq_emod_of_nonneg (by omega)
 omega
theorem tm2o {s d:Nat} (e:(s:Int) - 1 = d) (h:((s:Int) - 1).tmod 2 ≠ 0):¬ d % 2 = 0:=by
 rw[e] at h
 have:(d:Int).tmod 2 = (d:Int) % 2:=Int.tmod_eq_emod_of_nonneg (by omega)
 omega
theorem run_take {s:List UInt8} {i:Nat} (hi:i < s.length):tms0.run (s.take (i + 1)) = (tms0.run (s.take i)).step (s.getD i 0):=by
 rw[List.take_succ_eq_append_getElem hi,run_app]
 have:s.getD i 0 = s[i]:=by simp[List.getD,hi]
 rw[this]; rfl
def fromD (S L:List Int) (d:Nat):Int:=if gi L d < 0 then gi S d else gi L d
section
variable {S L B W w:List Int} {k f v:Int} {d j:Nat}
theorem from_mk (hd:S.length - 1 = d):(Tms.mk S L k f B W).from = fromD S L d:=by simp only[Tms.from,fromD,hd]
theorem opn_neg (hd:S.length - 1 = d) (hf:fromD S L d < 0):(Tms.mk S L k f B W).opn = ⟨S ++ [k],L.set d k ++ [-1],k + 1,k,B,W⟩:=by
 unfold Tms.opn; rw[from_mk hd,if_pos hf]; simp only[hd]
theorem opn_ev (hd:S.length - 1 = d) (hf:¬ fromD S L d < 0) (he:d % 2 = 0):(Tms.mk S L k f B W).opn = ⟨S ++ [k],L.set d k ++ [-1],k + 1,f,B.set (fromD S L d).toNat k,W⟩:=by
 unfold Tms.opn; rw[from_mk hd,if_neg hf]; unfold Tms.put; rw[from_mk hd]; simp only[hd]; rw[if_pos he]
theorem opn_od (hd:S.length - 1 = d) (hf:¬ fromD S L d < 0) (he:¬ d % 2 = 0):(Tms.mk S L k f B W).opn = ⟨S ++ [k],L.set d k ++ [-1],k + 1,f,B,W.set (fromD S L d).toNat k⟩:=by
 unfold Tms.opn; rw[from_mk hd,if_neg hf]; unfold Tms.put; rw[from_mk hd]; simp only[hd]; rw[if_neg he]
theorem cls_ev (hd:S.length - 1 = d) (he:d % 2 = 0):(Tms.mk S L k f B W).cls = ⟨S.take d,L.take d,k,f,B.set (fromD S L d).toNat (gi S d),W⟩:=by
 unfold Tms.cls; unfold Tms.put; rw[from_mk hd]; simp only[hd]; rw[if_pos he]
theorem cls_od (hd:S.length - 1 = d) (he:¬ d % 2 = 0):(Tms.mk S L k f B W).cls = ⟨S.take d,L.take d,k,f,B,W.set (fromD S L d).toNat (gi S d)⟩:=by
 unfold Tms.cls; unfold Tms.put; rw[from_mk hd]; simp only[hd]; rw[if_neg he]
theorem split_ev (hl:w.length = 32) (hj:j < 16):(w.set j v).take 16 = (w.take 16).set j v /\ (w.set j v).drop 16 = w.drop 16:=by
 constructor
 ·rw[List.take_set]
 ·rw[List.drop_set,if_pos hj]
theorem split_od (hl:w.length = 32):(w.set (16 + j) v).take 16 = w.take 16 /\ (w.set (16 + j) v).drop 16 = (w.drop 16).set j v:=by
 constructor
 ·rw[List.take_set_of_le (by omega)]
 ·rw[List.drop_set,if_neg (by omega),Nat.add_sub_cancel_left]
variable {R:Tms} {x:Int}
theorem go_neg (hR:R = (Tms.mk S L k f B W).opn) (hd:S.length - 1 = d) (fd:fromD S L d = x) (hx:x < 0):R = ⟨S ++ [k],L.set d k ++ [-1],k + 1,k,B,W⟩:=by
 rw[hR,opn_neg hd (by omega)]
theorem go_ev (hR:R = (Tms.mk S L k f (w.take 16) (w.drop 16)).opn) (hd:S.length - 1 = d) (fd:fromD S L d = x) (hx:0 <= x /\ x < 16) (he:d % 2 = 0) (hl:w.length = 32):R = ⟨S ++ [k],L.set d k ++ [-1],k + 1,f,(w.set x.toNat k).take 16,(w.set x.toNat k).drop 16⟩:=by
 rw[hR,opn_ev hd (by omega) he,fd,(split_ev hl (by omega)).1,(split_ev hl (by omega)).2]
theorem go_od (hR:R = (Tms.mk S L k f (w.take 16) (w.drop 16)).opn) (hd:S.length - 1 = d) (fd:fromD S L d = x) (hx:0 <= x /\ x < 16) (he:¬ d % 2 = 0) (hl:w.length = 32):R = ⟨S ++ [k],L.set d k ++ [-1],k + 1,f,(w.set (16 + x.toNat) k).take 16,(w.set (16 + x.toNat) k).drop 16⟩:=by
 rw[hR,opn_od hd (by omega) he,fd,(split_od hl).1,(split_od hl).2]
theorem lv_ev (hR:R = (Tms.mk S L k f (w.take 16) (w.drop 16)).cls) (hd:S.length - 1 = d) (fd:fromD S L d = x) (hx:0 <= x /\ x < 16) (he:d % 2 = 0) (hl:w.length = 32):R = ⟨S.take d,L.take d,k,f,(w.set x.toNat (gi S d)).take 16,(w.set x.toNat (gi S d)).drop 16⟩:=by
 rw[hR,cls_ev hd he,fd,(split_ev hl (by omega)).1,(split_ev hl (by omega)).2]
theorem lv_od (hR:R = (Tms.mk S L k f (w.take 16) (w.drop 16)).cls) (hd:S.length - 1 = d) (fd:fromD S L d = x) (hx:0 <= x /\ x < 16) (he:¬ d % 2 = 0) (hl:w.length = 32):R = ⟨S.take d,L.take d,k,f,(w.set (16 + x.toNat) (gi S d)).take 16,(w.set (16 + x.toNat) (gi S d)).drop 16⟩:=by
 rw[hR,cls_od hd he,fd,(split_od hl).1,(split_od hl).2]
end
theorem c_spec_l05MadeG {s:List UInt8} {n:Nat} (TR:List UInt8 -> Tms) (r0:TR (s.take 0) = ⟨[-1],[-1],0,0,List.replicate 16 0,List.replicate 16 0⟩) (rt:∀ i,i < s.length -> TR (s.take (i + 1)) = (TR (s.take i)).step (s.getD i 0)) (hs:Ws s n) (hn:1 <= n /\ n <= 16):PSpec Tryz.prog 56 [.str s] fun v=>∃ T:Tms,T = TR (s.take s.length) /\ v = vD n (T.B.set (gi T.la 0).toNat T.fi) T.W:=by
 have hlen:=hs.len
 refine spec_l05Made_f.f ?_
 dsimp only[spec_l05Made_F,pcal_B,pcalp_B,pcala_B,pcond_B,pgk_B,JN_B,LP_B]
 (refine bni ?_;repeat (refine bnk ?_;(try simp (disch:=first|omega|(simp only[LN];omega)) only[↓EC,EW,seval,↓reduceIte,↓ED,EE])))
 refine LPx_of (σ:=(List Int × List Int) × (Nat × Int × Nat × Nat) × List Int) 100000 [(66,28,1),(71,28,1)]
  (fun s=>[.own 2 1 s.1.1.length (vi .i64 s.1.1),.own 2 1 s.1.2.length (vi .i64 s.1.2),.int .i64 s.2.1.1,.int .i64 s.2.1.2.1,.int .i64 s.2.1.2.2.1])
  (fun s=>[.int .i64 0 :: vi .u8 (List.replicate 32 0),.int .i64 n :: vi .u8 s.2.2])
  (fun t=>Ms s t.2.1.2.2.1 t.1.1 t.1.2 t.2.1.1 t.2.1.2.2.2 /\ (0 <= t.2.1.2.1 /\ t.2.1.2.1 < 16) /\ lo32 t.2.2 /\ TR (s.take t.2.1.2.2.1) = ⟨t.1.1,t.1.2,t.2.1.1,t.2.1.2.1,t.2.2.take 16,t.2.2.drop 16⟩) (fun t=>s.length - t.2.1.2.2.1) (([-1],[-1]),(0,0,0,0),List.replicate 32 0) (by simp[frameOk,names,lpz,sclp,scv,scvs,nrfs,nrf,FRB]) ?_ ?_ ?_
 ·refine ⟨⟨hs.br,rfl,rfl,rfl,fun j h1 h2=>by simp only at h2; omega,fun j h1=>?_,fun h=>absurd h (Nat.lt_irrefl 0),Nat.zero_le _,Nat.le_refl _,rfl⟩,by simp only; omega,⟨by simp,fun i hi=>by rw[gi_rep]; split <;> omega⟩,r0⟩
  simp only at h1
  rw[show j = 0 by omega]; simp[gi]
 ·have e1:IntKind.i64.wrap ((s.length:Int).tdiv 2) = n:=by
   rw[hlen,show ((2 * n:Nat):Int) = 2 * (n:Int) by omega,Int.mul_tdiv_cancel_left _ (by decide)]
   simp[IntKind.wrap,IntKind.signed,IntKind.bits]; omega
  (refine bni ?_;repeat (refine bnk ?_;simp (disch:=first|omega|(simp only[LN];omega)) only[↓EC,EW,seval,↓reduceIte,↓ED,EE,CVd,e1]))
  rfl
 ·rintro ⟨⟨S,L⟩,⟨k,f,i,d⟩,w⟩ ⟨h1,h2,h3,hT⟩
  simp only at h1 h2 h3 hT
  have hwl:=h3.1
  have ls:=h1.ls
  have ll:=h1.ll
  have cn:=h1.cnt
  have kn:=h1.kn hlen
  have hle:=h1.le
  have eS:((S.length:Int) - 1).toNat = d:=by omega
  have lvd:=h1.lv d (Nat.le_refl _)
  have svd:1 <= d -> 0 <= gi S d /\ gi S d < k:=fun q=>h1.sv d q (Nat.le_refl _)
  have sv0:d = 0 -> gi S d = -1:=fun q=>by subst q; exact h1.s0
  (refine bni ?_;repeat (refine bnk ?_;simp (disch:=first|omega|(simp only[LN];omega)) only[↓EC,EW,seval,↓reduceIte,↓ED,EE,CVd,lhd]))
  (refine Split.mB (fun h=>?_) (fun h=>?_) <;> (try simp only[SD]at h))
  ·have hi:i < s.length:=by omega
   have hT1:=rt i hi
   rw[hT] at hT1
   (refine bni ?_;repeat (refine bnk ?_;(try simp (disch:=first|omega|(simp only[LN];omega)) only[↓EC,EW,seval,↓reduceIte,↓ED,EE])))
   refine JNx_un ?_
   (refine bni ?_;repeat (refine bnk ?_;(try simp (disch:=first|omega|(simp only[LN];omega)) only[↓EC,EW,seval,↓reduceIte,↓ED,EE])))
   (refine Split.mB (fun h=>?_) (fun h=>?_) <;> (try simp only[SD]at h))
   ·have hc:s.getD i 0 = 40:=by
     have h5:(s.getD i 0).toNat = 40:=by omega
     exact UInt8.toNat_inj.1 h5
    have hO:=h1.open hi hc
    have hk1:=hO.kn hlen
    rw[hc] at hT1
    have hT1:TR (s.take (i + 1)) = (Tms.mk S L k f (w.take 16) (w.drop 16)).opn:=hT1
    (refine bni ?_;repeat (refine bnk ?_;(try simp (disch:=first|omega|(simp only[LN];omega)) only[↓EC,EW,seval,↓reduceIte,↓ED,EE,eS])))
    refine JNx_un ?_
    (refine bni ?_;repeat (refine bnk ?_;(try simp (disch:=first|omega|(simp only[LN];omega)) only[↓EC,EW,seval,↓reduceIte,↓ED,EE,eS])))
    (refine Split.mB (fun h=>?_) (fun h=>?_) <;> (try simp only[SD]at h))
    ·(refine bni ?_;repeat (refine bnk ?_;(try simp (disch:=first|omega|(simp only[LN];omega)) only[↓EC,EW,seval,↓reduceIte,↓ED,EE,eS])))
     refine JNx_un ?_
     (refine bni ?_;repeat (refine bnk ?_;(try simp (disch:=first|omega|(simp only[LN];omega)) only[↓EC,EW,seval,↓reduceIte,↓ED,EE,eS])))
     (refine Split.mB (fun h=>?_) (fun h=>?_) <;> (try simp only[SD]at h))
     ·(refine bni ?_;repeat (refine bnk ?_;(try simp (disch:=first|omega|(simp only[LN];omega)) only[↓EC,EW,seval,↓reduceIte,↓ED,EE,eS])))
      exact ⟨((S ++ [(k:Int)],L.set d k ++ [-1]),(k + 1,k,i + 1,d + 1),w),by simp,rfl,⟨hO,by simp only; omega,h3,by simp only; have:=go_neg hT1 (d:=d) (by omega) rfl (by unfold fromD; split <;> omega); simpa using this⟩,by simp only; omega⟩
     ·have:=svd (by
       refine Nat.pos_of_ne_zero fun q=>?_
       have:=sv0 q; omega)
      (refine bni ?_;repeat (refine bnk ?_;(try simp (disch:=first|omega|(simp only[LN];omega)) only[↓EC,EW,seval,↓reduceIte,↓ED,EE,eS])))
      (refine Split.mB (fun h=>?_) (fun h=>?_) <;> (try simp only[SD]at h))
      ·(refine bni ?_;repeat (refine bnk ?_;(try simp (disch:=first|omega|(simp only[LN];omega)) only[↓EC,EW,seval,↓reduceIte,↓ED,EE,eS])))
       exact ⟨((S ++ [(k:Int)],L.set d k ++ [-1]),(k + 1,f,i + 1,d + 1),w.set (gi S d).toNat k),by simp,rfl,⟨hO,h2,lo32_set h3 (by omega),by simp only; have:=go_ev hT1 (d:=d) (x:=gi S d) (by omega) (if_pos (by omega)) (by omega) (tm2e (by omega) h) hwl; simpa using this⟩,by simp only; omega⟩
      ·(refine bni ?_;repeat (refine bnk ?_;(try simp (disch:=first|omega|(simp only[LN];omega)) only[↓EC,EW,seval,↓reduceIte,↓ED,EE,eS])))
       exact ⟨((S ++ [(k:Int)],L.set d k ++ [-1]),(k + 1,f,i + 1,d + 1),w.set (16 + (gi S d).toNat) k),by simp,rfl,⟨hO,h2,lo32_set h3 (by omega),by simp only; have:=go_od hT1 (d:=d) (x:=gi S d) (by omega) (if_pos (by omega)) (by omega) (tm2o (by omega) h) hwl; simpa using this⟩,by simp only; omega⟩
    ·(refine bni ?_;repeat (refine bnk ?_;(try simp (disch:=first|omega|(simp only[LN];omega)) only[↓EC,EW,seval,↓reduceIte,↓ED,EE,eS])))
     refine JNx_un ?_
     (refine bni ?_;repeat (refine bnk ?_;(try simp (disch:=first|omega|(simp only[LN];omega)) only[↓EC,EW,seval,↓reduceIte,↓ED,EE,eS])))
     (refine Split.mB (fun h=>?_) (fun h=>?_) <;> (try simp only[SD]at h))
     ·omega
     (refine bni ?_;repeat (refine bnk ?_;(try simp (disch:=first|omega|(simp only[LN];omega)) only[↓EC,EW,seval,↓reduceIte,↓ED,EE,eS])))
     (refine Split.mB (fun h=>?_) (fun h=>?_) <;> (try simp only[SD]at h))
     ·(refine bni ?_;repeat (refine bnk ?_;(try simp (disch:=first|omega|(simp only[LN];omega)) only[↓EC,EW,seval,↓reduceIte,↓ED,EE,eS])))
      exact ⟨((S ++ [(k:Int)],L.set d k ++ [-1]),(k + 1,f,i + 1,d + 1),w.set (gi L d).toNat k),by simp,rfl,⟨hO,h2,lo32_set h3 (by omega),by simp only; have:=go_ev hT1 (d:=d) (x:=gi L d) (by omega) (if_neg (by omega)) (by omega) (tm2e (by omega) h) hwl; simpa using this⟩,by simp only; omega⟩
     ·(refine bni ?_;repeat (refine bnk ?_;(try simp (disch:=first|omega|(simp only[LN];omega)) only[↓EC,EW,seval,↓reduceIte,↓ED,EE,eS])))
      exact ⟨((S ++ [(k:Int)],L.set d k ++ [-1]),(k + 1,f,i + 1,d + 1),w.set (16 + (gi L d).toNat) k),by simp,rfl,⟨hO,h2,lo32_set h3 (by omega),by simp only; have:=go_od hT1 (d:=d) (x:=gi L d) (by omega) (if_neg (by omega)) (by omega) (tm2o (by omega) h) hwl; simpa using this⟩,by simp only; omega⟩
   ·have hc:s.getD i 0 = 41:=by
     rcases h1.char hi with q | q
     ·rw[q] at h; exact absurd rfl h
     ·exact q
    obtain ⟨hd1,hC⟩:=h1.close hi hc
    rw[hc] at hT1
    have hT1:TR (s.take (i + 1)) = (Tms.mk S L k f (w.take 16) (w.drop 16)).cls:=hT1
    have svd':=svd hd1
    have t1:(S.take d).length = d:=by simp; omega
    have t2:(L.take d).length = d:=by simp; omega
    (refine bni ?_;repeat (refine bnk ?_;(try simp (disch:=first|omega|(simp only[LN];omega)) only[↓EC,EW,seval,↓reduceIte,↓ED,EE,eS])))
    refine JNx_un ?_
    (refine bni ?_;repeat (refine bnk ?_;(try simp (disch:=first|omega|(simp only[LN];omega)) only[↓EC,EW,seval,↓reduceIte,↓ED,EE,eS])))
    (refine Split.mB (fun h=>?_) (fun h=>?_) <;> (try simp only[SD]at h))
    ·(refine bni ?_;repeat (refine bnk ?_;(try simp (disch:=first|omega|(simp only[LN];omega)) only[↓EC,EW,seval,↓reduceIte,↓ED,EE,eS])))
     refine JNx_un ?_
     (refine bni ?_;repeat (refine bnk ?_;(try simp (disch:=first|omega|(simp only[LN];omega)) only[↓EC,EW,seval,↓reduceIte,↓ED,EE,eS])))
     (refine Split.mB (fun h=>?_) (fun h=>?_) <;> (try simp only[SD]at h))
     ·(refine bni ?_;repeat (refine bnk ?_;(try simp (disch:=first|omega|(simp only[LN];omega)) only[↓EC,EW,seval,↓reduceIte,↓ED,EE,eS])))
      exact ⟨((S.take d,L.take d),(k,f,i + 1,d - 1),w.set (gi S d).toNat (gi S d)),by simp; omega,rfl,⟨hC,h2,lo32_set h3 (by omega),by simp only; exact lv_ev hT1 (d:=d) (x:=gi S d) (by omega) (if_pos (by omega)) (by omega) (tm2e (by omega) h) hwl⟩,by simp only; omega⟩
     ·(refine bni ?_;repeat (refine bnk ?_;(try simp (disch:=first|omega|(simp only[LN];omega)) only[↓EC,EW,seval,↓reduceIte,↓ED,EE,eS])))
      exact ⟨((S.take d,L.take d),(k,f,i + 1,d - 1),w.set (16 + (gi S d).toNat) (gi S d)),by simp; omega,rfl,⟨hC,h2,lo32_set h3 (by omega),by simp only; exact lv_od hT1 (d:=d) (x:=gi S d) (by omega) (if_pos (by omega)) (by omega) (tm2o (by omega) h) hwl⟩,by simp only; omega⟩
    ·(refine bni ?_;repeat (refine bnk ?_;(try simp (disch:=first|omega|(simp only[LN];omega)) only[↓EC,EW,seval,↓reduceIte,↓ED,EE,eS])))
     refine JNx_un ?_
     (refine bni ?_;repeat (refine bnk ?_;(try simp (disch:=first|omega|(simp only[LN];omega)) only[↓EC,EW,seval,↓reduceIte,↓ED,EE,eS])))
     (refine Split.mB (fun h=>?_) (fun h=>?_) <;> (try simp only[SD]at h))
     ·(refine bni ?_;repeat (refine bnk ?_;(try simp (disch:=first|omega|(simp only[LN];omega)) only[↓EC,EW,seval,↓reduceIte,↓ED,EE,eS])))
      exact ⟨((S.take d,L.take d),(k,f,i + 1,d - 1),w.set (gi L d).toNat (gi S d)),by simp; omega,rfl,⟨hC,h2,lo32_set h3 (by omega),by simp only; exact lv_ev hT1 (d:=d) (x:=gi L d) (by omega) (if_neg (by omega)) (by omega) (tm2e (by omega) h) hwl⟩,by simp only; omega⟩
     ·(refine bni ?_;repeat (refine bnk ?_;(try simp (disch:=first|omega|(simp only[LN];omega)) only[↓EC,EW,seval,↓reduceIte,↓ED,EE,eS])))
      exact ⟨((S.take d,L.take d),(k,f,i + 1,d - 1),w.set (16 + (gi L d).toNat) (gi S d)),by simp; omega,rfl,⟨hC,h2,lo32_set h3 (by omega),by simp only; exact lv_od hT1 (d:=d) (x:=gi L d) (by omega) (if_neg (by omega)) (by omega) (tm2o (by omega) h) hwl⟩,by simp only; omega⟩
  ·have l00:=h1.l0 (by omega)
   have l01:=h1.lv 0 (Nat.zero_le _)
   (refine bni ?_;repeat (refine bnk ?_;(try simp (disch:=first|omega|(simp only[LN];omega)) only[↓EC,EW,seval,↓reduceIte,↓ED,EE])))
   have ei:i = s.length:=by omega
   subst ei
   refine ⟨⟨S,L,k,f,w.take 16,w.drop 16⟩,(by have:=hT; rw[List.take_length] at this; exact this.symm),?_⟩
   have e0:(gi L 0).toNat < 16:=by omega
   have sp:=split_ev (w:=w) (v:=f) hwl e0
   have ew:w.set (gi L 0).toNat f = (w.take 16).set (gi L 0).toNat f ++ w.drop 16:=by
    rw[<-sp.1,<-sp.2,List.take_append_drop]
   simp only[vD]
   rw[<-ew]
theorem c_spec_l05MadeX {s:List UInt8} {n:Nat} (hs:Ws s n) (hn:1 <= n /\ n <= 16):PSpec Tryz.prog 56 [.str s] fun v=>v = vD n (tms0.run s).fin.B (tms0.run s).fin.W :=
 (c_spec_l05MadeG tms0.run rfl (fun i hi=>run_take hi) hs hn).mono fun v ⟨T,e,h⟩=>by
  rw[List.take_length] at e
  subst e
  exact h
end
section
set_option maxHeartbeats 4000000
def bkB (s:List UInt8):Bool:=decide (brR s 0 = some 0 /\ 2 <= s.length /\ s.length <= 32)
theorem br_take {s:List UInt8} {i:Nat} (hi:i < s.length):brR (s.take (i + 1)) 0 = (brR (s.take i) 0).bind (brR [s.getD i 0]):=by
 rw[List.take_succ_eq_append_getElem hi,brR_app]
 have:s.getD i 0 = s[i]:=by simp[List.getD,hi]
 rw[this]
theorem br_none {s:List UInt8} {i:Nat} (h:brR (s.take i) 0 = none):brR s 0 = none:=by
 have:=brR_app (s:=s.take i) (t:=s.drop i) (d:=0)
 rw[List.take_append_drop,h] at this
 exact this
theorem br_len {s:List UInt8}:∀ {d e:Nat},brR s d = some e -> e <= d + s.length:=by
 induction s with
 | nil=>intro d e h; simp only[brR,Option.some.injEq] at h; omega
 | cons c s ih =>
  intro d e h
  rw[brR_cons] at h
  split at h
  ·have:=ih h; simp; omega
  ·split at h
   ·cases d with
    | zero=>cases h
    | succ d=>have:=ih h; simp; omega
   ·cases h
theorem c_spec_l05Word {s:List UInt8} (hs:s.length <= 1000):PSpec Tryz.prog 55 [.str s] fun v=>v = .bool (bkB s):=by
 refine spec_l05Word_f.f ?_
 dsimp only[spec_l05Word_F,pcal_B,pcalp_B,pcala_B,pcond_B,pgk_B,JN_B,LP_B]
 refine LPx_of (σ:=Nat × Nat) 100000 [] (fun t=>[.int .i64 t.1,.int .i64 t.2]) (fun t=>[]) (fun t=>t.2 <= s.length /\ brR (s.take t.2) 0 = some t.1 /\ t.1 <= 1000) (fun t=>s.length - t.2) (0,0) (by simp[frameOk,names,lpz,sclp,scv,scvs,nrfs,nrf,FRB]) ⟨Nat.zero_le _,rfl,by simp only; omega⟩ ?_ ?_
 ·(refine bni ?_;repeat (refine bnk ?_;simp (disch:=first|omega|(simp only[LN];omega)) only[↓EC,EW,seval,↓reduceIte,↓ED,EE,CVd]))
  try exact ⟨rfl,rfl⟩
 ·rintro ⟨d,i⟩ ⟨h1,h2,h3⟩
  simp only at h1 h2 h3
  by_cases hi:i < s.length
  ·have hb:=br_take hi
   rw[h2] at hb
   have hb:brR (s.take (i + 1)) 0 = brR [s.getD i 0] d:=hb
   have hlen:=fun e (h:brR (s.take (i + 1)) 0 = some e)=>br_len h
   rw[List.length_take] at hlen
   generalize hc:s.getD i 0 = c at *
   (refine bni ?_;repeat (refine bnk ?_;simp (disch:=first|omega|(simp only[LN];omega)) only[↓EC,EW,seval,↓reduceIte,↓ED,EE,CVd,lhd]))
   (refine Split.mB (fun h=>?_) (fun h=>?_) <;> (try simp only[SD]at h))
   ·refine JNx_un ?_
    (refine bni ?_;repeat (refine bnk ?_;(try simp (disch:=first|omega|(simp only[LN];omega)) only[↓EC,EW,seval,↓reduceIte,↓ED,EE,hc])))
    (refine Split.mB (fun h=>?_) (fun h=>?_) <;> (try simp only[SD]at h))
    ·have hc40:c = 40:=by
      have h5:c.toNat = 40:=by omega
      exact UInt8.toNat_inj.1 h5
     subst hc40
     have hb2:brR (s.take (i + 1)) 0 = some (d + 1):=hb
     have:=hlen _ hb2
     (refine bni ?_;repeat (refine bnk ?_;(try simp (disch:=first|omega|(simp only[LN];omega)) only[↓EC,EW,seval,↓reduceIte,↓ED,EE])))
     (refine Split.mB (fun h=>?_) (fun h=>?_) <;> (try simp only[SD]at h))
     ·exfalso; omega
     ·(refine bni ?_;repeat (refine bnk ?_;(try simp (disch:=first|omega|(simp only[LN];omega)) only[↓EC,EW,seval,↓reduceIte,↓ED,EE])))
      exact ⟨(d + 1,i + 1),by simp,⟨by simp only; omega,hb2,by simp only; omega⟩,by simp only; omega⟩
    ·have hn40:¬ c = 40:=fun e=>h (by rw[e]; rfl)
     (refine bni ?_;repeat (refine bnk ?_;(try simp (disch:=first|omega|(simp only[LN];omega)) only[↓EC,EW,seval,↓reduceIte,↓ED,EE,hc])))
     (refine Split.mB (fun h=>?_) (fun h=>?_) <;> (try simp only[SD]at h))
     ·have hc41:c = 41:=by
       have h5:c.toNat = 41:=by omega
       exact UInt8.toNat_inj.1 h5
      subst hc41
      (refine bni ?_;repeat (refine bnk ?_;(try simp (disch:=first|omega|(simp only[LN];omega)) only[↓EC,EW,seval,↓reduceIte,↓ED,EE])))
      (refine Split.mB (fun h=>?_) (fun h=>?_) <;> (try simp only[SD]at h))
      ·have hd:d = 0:=by omega
       subst hd
       have hb2:brR (s.take (i + 1)) 0 = none:=hb
       (refine bni ?_;repeat (refine bnk ?_;(try simp (disch:=first|omega|(simp only[LN];omega)) only[↓EC,EW,seval,↓reduceIte,↓ED,EE])))
       simp[bkB,br_none hb2]
      ·obtain ⟨d',rfl⟩:∃ d',d = d' + 1:=⟨d - 1,by omega⟩
       have hb2:brR (s.take (i + 1)) 0 = some d':=hb
       (refine bni ?_;repeat (refine bnk ?_;(try simp (disch:=first|omega|(simp only[LN];omega)) only[↓EC,EW,seval,↓reduceIte,↓ED,EE])))
       exact ⟨(d',i + 1),by simp,⟨by simp only; omega,hb2,by simp only; omega⟩,by simp only; omega⟩
     ·have hn41:¬ c = 41:=fun e=>h (by rw[e]; rfl)
      have hb2:brR (s.take (i + 1)) 0 = none:=by rw[hb,brR_cons,if_neg hn40,if_neg hn41]
      (refine bni ?_;repeat (refine bnk ?_;(try simp (disch:=first|omega|(simp only[LN];omega)) only[↓EC,EW,seval,↓reduceIte,↓ED,EE])))
      simp[bkB,br_none hb2]
   ·exfalso; omega
  ·have hi2:i = s.length:=by omega
   subst hi2
   rw[List.take_length] at h2
   (refine bni ?_;repeat (refine bnk ?_;simp (disch:=first|omega|(simp only[LN];omega)) only[↓EC,EW,seval,↓reduceIte,↓ED,EE,CVd,lhd]))
   (refine Split.mB (fun h=>?_) (fun h=>?_) <;> (try simp only[SD]at h))
   ·exfalso; omega
   ·(refine bni ?_;repeat (refine bnk ?_;(try simp (disch:=first|omega|(simp only[LN];omega)) only[↓EC,EW,seval,↓reduceIte,↓ED,EE])))
    (refine Split.mB (fun h=>?_) (fun h=>?_) <;> (try simp only[SD]at h))
    ·have hd:d = 0:=by omega
     subst hd
     (refine bni ?_;repeat (refine bnk ?_;(try simp (disch:=first|omega|(simp only[LN];omega)) only[↓EC,EW,seval,↓reduceIte,↓ED,EE])))
     (refine Split.mB (fun h=>?_) (fun h=>?_) <;> (try simp only[SD]at h))
     ·(refine bni ?_;repeat (refine bnk ?_;(try simp (disch:=first|omega|(simp only[LN];omega)) only[↓EC,EW,seval,↓reduceIte,↓ED,EE])))
      unfold bkB
      rw[h2]
      by_cases q:s.length <= 32
      ·have q2:2 <= s.length:=by omega
       simp[q,q2]; omega
      ·simp[q]; omega
     ·(refine bni ?_;repeat (refine bnk ?_;(try simp (disch:=first|omega|(simp only[LN];omega)) only[↓EC,EW,seval,↓reduceIte,↓ED,EE])))
      unfold bkB
      rw[decide_eq_false]
      rintro ⟨_,q,_⟩
      omega
    ·(refine bni ?_;repeat (refine bnk ?_;(try simp (disch:=first|omega|(simp only[LN];omega)) only[↓EC,EW,seval,↓reduceIte,↓ED,EE])))
     unfold bkB
     rw[decide_eq_false]
     rintro ⟨q,_⟩
     rw[h2] at q
     simp only[Option.some.injEq] at q
     omega
theorem c_impl_isBrackets {s:List UInt8} (hs:s.length <= 1000):PSpec Tryz.prog 53 [.str s] fun v=>v = .bool (bkB s):=by
 refine impl_isBrackets_f.f ?_
 dsimp only[impl_isBrackets_F,pcal_B,pcalp_B,pcala_B,pcond_B,pgk_B,JN_B,LP_B]
 (refine bni ?_;repeat (refine bnk ?_;(try simp (disch:=first|omega|(simp only[LN];omega)) only[↓EC,EW,seval,↓reduceIte,↓ED,EE])))
 have short:¬ (2 <= s.length /\ s.length <= 32) -> bkB s = false:=fun q=>by
  unfold bkB
  rw[decide_eq_false]
  rintro ⟨_,q1,q2⟩
  exact q ⟨q1,q2⟩
 (refine Split.mB (fun h=>?_) (fun h=>?_) <;> (try simp only[SD]at h))
 ·(refine bni ?_;repeat (refine bnk ?_;(try simp (disch:=first|omega|(simp only[LN];omega)) only[↓EC,EW,seval,↓reduceIte,↓ED,EE])))
  rw[short (by omega)]
 ·(refine bni ?_;repeat (refine bnk ?_;(try simp (disch:=first|omega|(simp only[LN];omega)) only[↓EC,EW,seval,↓reduceIte,↓ED,EE])))
  (refine Split.mB (fun h=>?_) (fun h=>?_) <;> (try simp only[SD]at h))
  ·(refine bni ?_;repeat (refine bnk ?_;(try simp (disch:=first|omega|(simp only[LN];omega)) only[↓EC,EW,seval,↓reduceIte,↓ED,EE])))
   rw[short (by omega)]
  ·(refine bni ?_;repeat (refine bnk ?_;(try simp (disch:=first|omega|(simp only[LN];omega)) only[↓EC,EW,seval,↓reduceIte,↓ED,EE])))
   refine LPx_of (σ:=Nat × Nat) 100000 [] (fun t=>[.int .i64 t.1,.int .i64 t.2]) (fun t=>[]) (fun t=>t.2 <= s.length /\ brR (s.take t.2) 0 = some t.1 /\ t.1 <= 1000) (fun t=>s.length - t.2) (0,0) (by simp[frameOk,names,lpz,sclp,scv,scvs,nrfs,nrf,FRB]) ⟨Nat.zero_le _,rfl,by simp only; omega⟩ ?_ ?_
   ·(refine bni ?_;repeat (refine bnk ?_;simp (disch:=first|omega|(simp only[LN];omega)) only[↓EC,EW,seval,↓reduceIte,↓ED,EE,CVd]))
    try exact ⟨rfl,rfl⟩
   ·rintro ⟨d,i⟩ ⟨h1,h2,h3⟩
    simp only at h1 h2 h3
    by_cases hi:i < s.length
    ·have hb:=br_take hi
     rw[h2] at hb
     have hb:brR (s.take (i + 1)) 0 = brR [s.getD i 0] d:=hb
     have hlen:=fun e (h:brR (s.take (i + 1)) 0 = some e)=>br_len h
     rw[List.length_take] at hlen
     generalize hc:s.getD i 0 = c at *
     (refine bni ?_;repeat (refine bnk ?_;simp (disch:=first|omega|(simp only[LN];omega)) only[↓EC,EW,seval,↓reduceIte,↓ED,EE,CVd,lhd]))
     (refine Split.mB (fun h=>?_) (fun h=>?_) <;> (try simp only[SD]at h))
     ·refine JNx_un ?_
      (refine bni ?_;repeat (refine bnk ?_;(try simp (disch:=first|omega|(simp only[LN];omega)) only[↓EC,EW,seval,↓reduceIte,↓ED,EE,hc])))
      (refine Split.mB (fun h=>?_) (fun h=>?_) <;> (try simp only[SD]at h))
      ·have hc40:c = 40:=by
        have h5:c.toNat = 40:=by omega
        exact UInt8.toNat_inj.1 h5
       subst hc40
       have hb2:brR (s.take (i + 1)) 0 = some (d + 1):=hb
       have:=hlen _ hb2
       (refine bni ?_;repeat (refine bnk ?_;(try simp (disch:=first|omega|(simp only[LN];omega)) only[↓EC,EW,seval,↓reduceIte,↓ED,EE])))
       (refine Split.mB (fun h=>?_) (fun h=>?_) <;> (try simp only[SD]at h))
       ·exfalso; omega
       ·(refine bni ?_;repeat (refine bnk ?_;(try simp (disch:=first|omega|(simp only[LN];omega)) only[↓EC,EW,seval,↓reduceIte,↓ED,EE])))
        exact ⟨(d + 1,i + 1),by simp,⟨by simp only; omega,hb2,by simp only; omega⟩,by simp only; omega⟩
      ·have hn40:¬ c = 40:=fun e=>h (by rw[e]; rfl)
       (refine bni ?_;repeat (refine bnk ?_;(try simp (disch:=first|omega|(simp only[LN];omega)) only[↓EC,EW,seval,↓reduceIte,↓ED,EE,hc])))
       (refine Split.mB (fun h=>?_) (fun h=>?_) <;> (try simp only[SD]at h))
       ·have hc41:c = 41:=by
         have h5:c.toNat = 41:=by omega
         exact UInt8.toNat_inj.1 h5
        subst hc41
        (refine bni ?_;repeat (refine bnk ?_;(try simp (disch:=first|omega|(simp only[LN];omega)) only[↓EC,EW,seval,↓reduceIte,↓ED,EE])))
        (refine Split.mB (fun h=>?_) (fun h=>?_) <;> (try simp only[SD]at h))
        ·have hd:d = 0:=by omega
         subst hd
         have hb2:brR (s.take (i + 1)) 0 = none:=hb
         (refine bni ?_;repeat (refine bnk ?_;(try simp (disch:=first|omega|(simp only[LN];omega)) only[↓EC,EW,seval,↓reduceIte,↓ED,EE])))
         simp[bkB,br_none hb2]
        ·obtain ⟨d',rfl⟩:∃ d',d = d' + 1:=⟨d - 1,by omega⟩
         have hb2:brR (s.take (i + 1)) 0 = some d':=hb
         (refine bni ?_;repeat (refine bnk ?_;(try simp (disch:=first|omega|(simp only[LN];omega)) only[↓EC,EW,seval,↓reduceIte,↓ED,EE])))
         exact ⟨(d',i + 1),by simp,⟨by simp only; omega,hb2,by simp only; omega⟩,by simp only; omega⟩
       ·have hn41:¬ c = 41:=fun e=>h (by rw[e]; rfl)
        have hb2:brR (s.take (i + 1)) 0 = none:=by rw[hb,brR_cons,if_neg hn40,if_neg hn41]
        (refine bni ?_;repeat (refine bnk ?_;(try simp (disch:=first|omega|(simp only[LN];omega)) only[↓EC,EW,seval,↓reduceIte,↓ED,EE])))
        simp[bkB,br_none hb2]
     ·exfalso; omega
    ·have hi2:i = s.length:=by omega
     subst hi2
     rw[List.take_length] at h2
     (refine bni ?_;repeat (refine bnk ?_;simp (disch:=first|omega|(simp only[LN];omega)) only[↓EC,EW,seval,↓reduceIte,↓ED,EE,CVd,lhd]))
     (refine Split.mB (fun h=>?_) (fun h=>?_) <;> (try simp only[SD]at h))
     ·exfalso; omega
     ·(refine bni ?_;repeat (refine bnk ?_;(try simp (disch:=first|omega|(simp only[LN];omega)) only[↓EC,EW,seval,↓reduceIte,↓ED,EE])))
      unfold bkB
      rw[h2]
      by_cases q:d = 0
      ·subst q
       have q1:2 <= s.length:=by omega
       have q2:s.length <= 32:=by omega
       simp[q1,q2]
      ·have:¬ (d:Int) = 0:=by omega
       simp[q]
end
section
set_option maxHeartbeats 1000000
section
variable {n:Int} {b w b' w':List Int} {x:Nat} {A B:Frs} {s:List UInt8}
theorem bk_word (h:bkB s = true):∃ A B,s = (Frs.cons A B).word /\ A.size + B.size + 1 <= 16 /\ s.length = 2 * (A.size + B.size + 1):=by
 simp only[bkB,decide_eq_true_eq] at h
 obtain ⟨h1,h2,h3⟩:=h
 obtain ⟨F,rfl⟩:=br_word h1
 have l:=F.word_len
 cases F with
 | nil=>simp[Frs.word] at h2
 | cons A B =>
  simp only[Frs.size] at l
  exact ⟨A,B,rfl,by omega,l⟩
theorem word_bk (hs:A.size + B.size + 1 <= 16):bkB (Frs.cons A B).word = true:=by
 have l:=(Frs.cons A B).word_len
 simp only[Frs.size] at l
 have hb:=word_br (Frs.cons A B) 0 []
 rw[List.append_nil] at hb
 simp only[bkB,decide_eq_true_eq]
 exact ⟨by rw[hb]; rfl,by omega,by omega⟩
theorem bk_mk (h:bkB s = true):∃ A B,s = (Frs.cons A B).word /\ Mkd ((s.length / 2:Nat):Int) (tms0.run s).fin.B (tms0.run s).fin.W A B:=by
 obtain ⟨A,B,e,hs,l⟩:=bk_word h
 refine ⟨A,B,e,?_⟩
 have k:=(made_ok hs).1
 rw[<-e] at k
 rw[show s.length / 2 = A.size + B.size + 1 by omega]
 exact k
theorem Tre.word_mk (h:Tre n b w) (hx:x < n.toNat):bkB (wd b w n x) = true /\ ((wd b w n x).length / 2:Nat) = n /\ ∃ A B,Mkd n (tms0.run (wd b w n x)).fin.B (tms0.run (wd b w n x)).fin.W A B /\ Alk n b w (tms0.run (wd b w n x)).fin.B (tms0.run (wd b w n x)).fin.W:=by
 obtain ⟨A,B,LA,LB,hW⟩:=h.whole hx
 have hn:=h.Z.B.hn
 have l:=hW.len (by omega)
 have e:=hW.wd
 have hs:A.size + B.size + 1 <= 16:=by omega
 have lw:=(Frs.cons A B).word_len
 simp only[Frs.size] at lw
 have k:=(made_ok hs).1
 rw[l,<-e] at k
 rw[<-e] at lw
 obtain ⟨σ,i,_⟩:=hW.iso (by omega) k
 refine ⟨by rw[e]; exact word_bk hs,by omega,A,B,k,Alk.symm k.dz ⟨σ,i⟩⟩
theorem Tre.lw (h:Tre n b w):Lw (wd b w n) n.toNat (lwT (wd b w n) n.toNat):=by
 have hn:=h.Z.B.hn
 obtain ⟨k,hk⟩:∃ k,n.toNat = k + 1:=⟨n.toNat - 1,by omega⟩
 rw[hk]
 exact lwT_ok k
theorem Tre.can (h:Tre n b w):∃ x,x < n.toNat /\ (lwT (wd b w n) n.toNat).1 = wd b w n x:=by
 obtain ⟨x,hx,e⟩:=h.lw.mem
 exact ⟨x,hx,e.symm⟩
theorem Tre.can_alk (h:Tre n b w) (h':Tre n b' w') (a:Alk n b w b' w'):(lwT (wd b w n) n.toNat).1 = (lwT (wd b' w' n) n.toNat).1:=by
 obtain ⟨σ,i⟩:=a
 obtain ⟨x,hx,ex⟩:=h.lw.mem
 obtain ⟨y,hy,ey⟩:=h'.lw.mem
 obtain ⟨z,hz,rfl⟩:=i.pf.onto hy
 have w1:=h.wd_iso h' i hx
 have w2:=h.wd_iso h' i hz
 refine bl_tot ?_ ?_
 ·rw[<-ex,<-w1]
  exact h'.lw.le _ (i.pf.lt x hx)
 ·rw[<-ey,w2]
  exact h.lw.le z hz
theorem Tre.sym_ok (h:Tre n b w):1 <= (lwT (wd b w n) n.toNat).2 /\ n % (lwT (wd b w n) n.toNat).2 = 0:=by
 obtain ⟨x,hx,ex⟩:=h.lw.mem
 have hc:=h.lw.cnt
 have e:(lwT (wd b w n) n.toNat).2 = cw b w n x:=by
  rw[hc]
  unfold cw
  rw[ex]
 have ha:=h.cw_all mkd_ex x hx
 obtain ⟨k,hk⟩:=h.sym mkd_ex
 have pos:1 <= cw b w n x:=by
  unfold cw
  have:=smE_ge (f:=fun z=>if wd b w n z = wd b w n x then (1:Int) else 0) (n:=n.toNat) (fun z _=>by split <;> omega) hx
  rw[if_pos rfl] at this
  exact this
 rw[e]
 refine ⟨pos,?_⟩
 rw[<-ha] at hk
 generalize cw b w n x = c at *
 rw[hk]
 exact Int.mul_emod_left k c
end
end
section
set_option maxHeartbeats 4000000
noncomputable def toR (s:List UInt8):DCode:=if bkB s = true then ((((s.length / 2:Nat):Int),(tms0.run s).fin.B,(tms0.run s).fin.W),0) else ((0,z16,z16),1)
theorem toR_yes {s:List UInt8} (h:bkB s = true):toR s = ((((s.length / 2:Nat):Int),(tms0.run s).fin.B,(tms0.run s).fin.W),0):=by unfold toR; rw[if_pos h]
theorem toR_no {s:List UInt8} (h:bkB s = false):toR s = ((0,z16,z16),1):=by unfold toR; rw[if_neg (by simp[h])]
theorem bk_ws {s:List UInt8} (h:bkB s = true):Ws s (s.length / 2) /\ 1 <= s.length / 2 /\ s.length / 2 <= 16:=by
 obtain ⟨A,B,e,hs,l⟩:=bk_word h
 simp only[bkB,decide_eq_true_eq] at h
 exact ⟨⟨h.1,by omega⟩,by omega,by omega⟩
theorem c_spec_TreeOfWord {s:List UInt8} (hs:s.length <= 1000):PSpec Tryz.prog 8 [.str s] fun v=>v = vDC (toR s):=by
 refine spec_TreeOfWord_f.f ?_
 dsimp only[spec_TreeOfWord_F,pcal_B,pcalp_B,pcala_B,pcond_B,pgk_B,JN_B,LP_B]
 (refine bni ?_;repeat (refine bnk ?_;(try simp (disch:=first|omega|(simp only[LN];omega)) only[↓EC,EW,seval,↓reduceIte,↓ED,EE])))
 refine pcd_v (c_spec_l05Word hs) ?_
 cases hk:bkB s with
 | false =>
  (refine bni ?_;repeat (refine bnk ?_;(try simp (disch:=first|omega|(simp only[LN];omega)) only[↓EC,EW,seval,↓reduceIte,↓ED,EE])))
  rw[toR_no hk]; rfl
 | true =>
  obtain ⟨ws,h1,h2⟩:=bk_ws hk
  have k:=c_spec_l05MadeX ws ⟨h1,h2⟩
  obtain ⟨A,B,e,M⟩:=bk_mk hk
  have hbl:=M.lb.1
  have hwl:=M.lw.1
  rw[toR_yes hk]
  generalize (tms0.run s).fin.B = b at *
  generalize (tms0.run s).fin.W = w at *
  generalize s.length / 2 = n at *
  unfold vD at k
  (refine bni ?_;repeat (refine bnk ?_;(try simp (disch:=first|omega|(simp only[LN];omega)) only[↓EC,EW,seval,↓reduceIte,↓ED,EE])))
  refine pcd_v k ?_
  (refine bni ?_;repeat (refine bnk ?_;(try simp (disch:=first|omega|(simp only[LN];omega)) only[↓EC,EW,seval,↓reduceIte,↓ED,EE])))
  try rfl
end
section
set_option maxHeartbeats 4000000
theorem c_spec_DrawSymmetryOf {x:Value} {l:List Int} (hB:okB l):PSpec Tryz.prog 14 [.fz x l] fun v=>∃ n p q,v = vD n p q /\ okP p /\ okP q /\ -1 <= n /\ n <= 17:=by
 refine spec_DrawSymmetryOf_f.f ?_
 simp (disch:=first|omega|(simp only[LN];omega)) only[↓EC,EW,seval,↓reduceIte,spec_DrawSymmetryOf_F]
 (refine pcn_q (c_spec_l01From hB) rfl ?_; rintro _ _ ⟨rfl,z,rfl⟩; have hs_:=okS_0 hB; (try simp (disch:=first|omega|(simp only[LN];omega)) only[↓EC,EW,seval,↓reduceIte,srcC]))
 (refine pcm [68] rfl ?_; (try simp (disch:=first|omega|(simp only[LN];omega)) only[↓EC,EW,seval,↓reduceIte]); refine callM_d (c_spec_l05Spoil (by assumption)) ?_; rintro _ _ ⟨n,p,q,a1,z1,rfl,rfl,hs_,hp,hq,hn,hnm⟩; (try simp (disch:=first|omega|(simp only[LN];omega)) only[↓EC,EW,seval,↓reduceIte,srcC]))
 have hpl:=hp.1
 have hql:=hq.1
 (try simp (disch:=first|omega|(simp only[LN];omega)) only[↓EC,EW,seval,↓reduceIte,vD])
 exact ⟨n,p,q,rfl,hp,hq,hn,hnm⟩
theorem c_spec_DrawCanonicalWord {x:Value} {l:List Int} (hB:okB l):PSpec Tryz.prog 19 [.fz x l] fun v=>∃ n p q,v = vD n p q /\ okP p /\ okP q /\ -1 <= n /\ n <= 17:=by
 refine spec_DrawCanonicalWord_f.f ?_
 simp (disch:=first|omega|(simp only[LN];omega)) only[↓EC,EW,seval,↓reduceIte,spec_DrawCanonicalWord_F]
 (refine pcn_q (c_spec_l01From hB) rfl ?_; rintro _ _ ⟨rfl,z,rfl⟩; have hs_:=okS_0 hB; (try simp (disch:=first|omega|(simp only[LN];omega)) only[↓EC,EW,seval,↓reduceIte,srcC]))
 (refine pcm [68] rfl ?_; (try simp (disch:=first|omega|(simp only[LN];omega)) only[↓EC,EW,seval,↓reduceIte]); refine callM_d (c_spec_l05Spoil (by assumption)) ?_; rintro _ _ ⟨n,p,q,a1,z1,rfl,rfl,hs_,hp,hq,hn,hnm⟩; (try simp (disch:=first|omega|(simp only[LN];omega)) only[↓EC,EW,seval,↓reduceIte,srcC]))
 have hpl:=hp.1
 have hql:=hq.1
 (try simp (disch:=first|omega|(simp only[LN];omega)) only[↓EC,EW,seval,↓reduceIte,vD])
 exact ⟨n,p,q,rfl,hp,hq,hn,hnm⟩
theorem c_spec_DrawIsTree {x:Value} {l:List Int} (hB:okB l):PSpec Tryz.prog 21 [.fz x l] fun v=>∃ n p q,v = vD n p q /\ okP p /\ okP q /\ -1 <= n /\ n <= 17:=by
 refine spec_DrawIsTree_f.f ?_
 simp (disch:=first|omega|(simp only[LN];omega)) only[↓EC,EW,seval,↓reduceIte,spec_DrawIsTree_F]
 (refine pcn_q (c_spec_l01From hB) rfl ?_; rintro _ _ ⟨rfl,z,rfl⟩; have hs_:=okS_0 hB; (try simp (disch:=first|omega|(simp only[LN];omega)) only[↓EC,EW,seval,↓reduceIte,srcC]))
 (refine pcm [69] rfl ?_; (try simp (disch:=first|omega|(simp only[LN];omega)) only[↓EC,EW,seval,↓reduceIte]); refine callM_d (c_spec_l01Next (by assumption) (by omega)) ?_; rintro _ _ ⟨r1,_,_,rfl,rfl,hs_,hr_⟩; (try simp (disch:=first|omega|(simp only[LN];omega)) only[↓EC,EW,seval,↓reduceIte,srcC]))
 (refine Split.mk (fun h=>?_) (fun h=>?_) <;> (try simp only[SD]at h))
 ·(refine pcm [69] rfl ?_; (try simp (disch:=first|omega|(simp only[LN];omega)) only[↓EC,EW,seval,↓reduceIte]); refine callM_d (c_spec_l01Spoil (m:=6) (by omega) (by assumption)) ?_; rintro _ _ ⟨n,p,q,a1,z1,rfl,rfl,hs_,hp,hq,hn,hnm⟩; (try simp (disch:=first|omega|(simp only[LN];omega)) only[↓EC,EW,seval,↓reduceIte,srcC]))
  have hpl:=hp.1
  have hql:=hq.1
  (try simp (disch:=first|omega|(simp only[LN];omega)) only[↓EC,EW,seval,↓reduceIte,vD])
  exact ⟨n,p,q,rfl,hp,hq,by omega,by omega⟩
 ·(refine pcm [69] rfl ?_; (try simp (disch:=first|omega|(simp only[LN];omega)) only[↓EC,EW,seval,↓reduceIte]); refine callM_d (c_spec_l05Spoil (by assumption)) ?_; rintro _ _ ⟨n,p,q,a1,z1,rfl,rfl,hs_,hp,hq,hn,hnm⟩; (try simp (disch:=first|omega|(simp only[LN];omega)) only[↓EC,EW,seval,↓reduceIte,srcC]))
  have hpl:=hp.1
  have hql:=hq.1
  (try simp (disch:=first|omega|(simp only[LN];omega)) only[↓EC,EW,seval,↓reduceIte,vD])
  exact ⟨n,p,q,rfl,hp,hq,hn,hnm⟩
theorem c_spec_DrawWordOfTree {x:Value} {l:List Int} (hB:okB l):PSpec Tryz.prog 17 [.fz x l] fun v=>∃ n p q k,v = .tup [vD n p q,.int .i64 k] /\ okP p /\ okP q /\ -1 <= n /\ n <= 17:=by
 refine spec_DrawWordOfTree_f.f ?_
 dsimp only[spec_DrawWordOfTree_F,pcal_B,pcalp_B,pcala_B,pcond_B,pgk_B,JN_B,LP_B]
 (refine bni ?_;repeat (refine bnk ?_;(try simp (disch:=first|omega|(simp only[LN];omega)) only[↓EC,EW,seval,↓reduceIte,↓ED,EE])))
 (refine pcn_q (c_spec_l01From hB) rfl ?_; rintro _ _ ⟨rfl,z,rfl⟩; have hs_:=okS_0 hB; (try simp (disch:=first|omega|(simp only[LN];omega)) only[↓EC,EW,seval,↓reduceIte,srcC]))
 (refine bni ?_;repeat (refine bnk ?_;(try simp (disch:=first|omega|(simp only[LN];omega)) only[↓EC,EW,seval,↓reduceIte,↓ED,EE])))
 (refine pcm [71] rfl ?_; (refine bni ?_;repeat (refine bnk ?_;(try simp (disch:=first|omega|(simp only[LN];omega)) only[↓EC,EW,seval,↓reduceIte,↓ED,EE]))); refine callM_d (c_spec_l05Spoil (by assumption)) ?_; rintro _ _ ⟨n,p,q,a1,z1,rfl,rfl,hs_,hp,hq,hn,hnm⟩; (refine bni ?_;repeat (refine bnk ?_;(try simp (disch:=first|omega|(simp only[LN];omega)) only[↓EC,EW,seval,↓reduceIte,↓ED,EE,srcC]))))
 have hpl:=hp.1
 have hql:=hq.1
 (refine bni ?_;repeat (refine bnk ?_;(try simp (disch:=first|omega|(simp only[LN];omega)) only[↓EC,EW,seval,↓reduceIte,↓ED,EE,vD])))
 (refine pcma [71] rfl ?_; (refine bni ?_;repeat (refine bnk ?_;(try simp (disch:=first|omega|(simp only[LN];omega)) only[↓EC,EW,seval,↓reduceIte,↓ED,EE]))); refine callM_d (c_spec_l01Next (by assumption) (by omega)) ?_; rintro _ _ ⟨r1,_,_,rfl,rfl,hs_,hr_⟩; (refine bni ?_;repeat (refine bnk ?_;(try simp (disch:=first|omega|(simp only[LN];omega)) only[↓EC,EW,seval,↓reduceIte,↓ED,EE,srcC]))))
 have e1:r1.tdiv 23 = r1 / 23:=Int.tdiv_eq_ediv_of_nonneg (by omega)
 (refine bni ?_;repeat (refine bnk ?_;(try simp (disch:=first|omega|(simp only[LN];omega)) only[↓EC,EW,seval,↓reduceIte,↓ED,EE,e1])))
 (refine pcma [71] rfl ?_; (refine bni ?_;repeat (refine bnk ?_;(try simp (disch:=first|omega|(simp only[LN];omega)) only[↓EC,EW,seval,↓reduceIte,↓ED,EE]))); refine callM_d (c_spec_l01Next (by assumption) (by omega)) ?_; rintro _ _ ⟨r2,_,_,rfl,rfl,hs_,hr_⟩; (refine bni ?_;repeat (refine bnk ?_;(try simp (disch:=first|omega|(simp only[LN];omega)) only[↓EC,EW,seval,↓reduceIte,↓ED,EE,srcC]))))
 (refine bni ?_;repeat (refine bnk ?_;(try simp (disch:=first|omega|(simp only[LN];omega)) only[↓EC,EW,seval,↓reduceIte,↓ED,EE])))
 (refine pcma [71] rfl ?_; (refine bni ?_;repeat (refine bnk ?_;(try simp (disch:=first|omega|(simp only[LN];omega)) only[↓EC,EW,seval,↓reduceIte,↓ED,EE]))); refine callM_d (c_spec_l01Next (by assumption) (by omega)) ?_; rintro _ _ ⟨r3,_,_,rfl,rfl,hs_,hr_⟩; (refine bni ?_;repeat (refine bnk ?_;(try simp (disch:=first|omega|(simp only[LN];omega)) only[↓EC,EW,seval,↓reduceIte,↓ED,EE,srcC]))))
 have e3:r3.tdiv 39 = r3 / 39:=Int.tdiv_eq_ediv_of_nonneg (by omega)
 (refine bni ?_;repeat (refine bnk ?_;(try simp (disch:=first|omega|(simp only[LN];omega)) only[↓EC,EW,seval,↓reduceIte,↓ED,EE,e3])))
 exact ⟨n,p,q,_,rfl,hp,hq,hn,hnm⟩
end
section
set_option maxHeartbeats 1000000
def wyZ (t:List Int):Nat:=if t.length = 0 then 0 else 1
def wyL (l:List (List Int)):List V:=l.map fun t=>V.own 5 (wyZ t) t.length (vi .u8 t)
theorem wyL_len {l:List (List Int)}:(wyL l).length = l.length:=by simp[wyL]
theorem wyL_last {l:List (List Int)} {t:List Int}:(wyL (l ++ [t])).getD l.length .und = .own 5 (wyZ t) t.length (vi .u8 t):=by
 simp[wyL,List.getD]
theorem wyL_set {l:List (List Int)} {t:List Int} {v:V}:(wyL (l ++ [t])).set l.length v = wyL l ++ [v]:=by
 simp only[wyL,List.map_append,List.map_cons,List.map_nil]
 rw[List.set_append_right _ _ (by simp),List.length_map,Nat.sub_self]; rfl
theorem wyL_fin {q:Nat} {h:Hp}:∀ l:List (List Int),folds (fin (q + 1)) h (wyL l) = some (wyL l,h)
 | []=>rfl
 | t :: l=>by
  show (fin (q + 1) h (.own 5 (wyZ t) t.length (vi .u8 t))).bind (fun p=>(folds (fin (q + 1)) p.2 (wyL l)).map fun r=>(p.1 :: r.1,r.2)) = _
  rw[fin_own]
  show (folds (fin (q + 1)) h (wyL l)).map _ = _
  rw[wyL_fin l]; rfl
theorem wyL_take {l:List (List Int)} {v:V}:(wyL l ++ [v]).take l.length = wyL l:=by
 rw[show l.length = (wyL l).length from wyL_len.symm,List.take_left]
theorem wyL_clos {l:List (List Int)}:clos (wyL l) = true:=by
 induction l with
 | nil=>rfl
 | cons t l ih=>simp only[wyL,List.map_cons,clos,clo_own] at ih ⊢; rw[ih]; simp[vi_clo]
theorem wyL_nrf {l:List (List Int)}:nrfs (wyL l) = true:=by
 induction l with
 | nil=>rfl
 | cons t l ih=>simp only[wyL,List.map_cons,nrfs,nrf_own] at ih ⊢; rw[ih]; simp[vi_nrf]
theorem c_leave {ws:List (List Int)} {t:List Int} {n:Int} {b w:List Int} (hk:ws.length <= 100) (ht:t.length <= 100) (h16:∀ j,j < t.length -> 0 <= gi t j /\ gi t j < 16) (hb:b.length = 16) (hw:w.length = 16) :
  PSpecM Tryz.prog 90 [.ptr 0 0,.ptr 1 0] [(0,99,1),(1,28,1)] [[.own 22 1 (ws.length + 1) (wyL (ws ++ [t]))],.int .i64 n :: vi .u8 (b ++ w)]
   fun v cs=>v = .tup [] /\ cs = [[.own 22 1 ws.length (wyL ws)],.int .i64 n :: vi .u8 (if ws.length % 2 = 1 then b ++ lvE w t t.length else lvE b t t.length ++ w)]:=by
 refine impl_treeOfWord_1_f.m rfl rfl ?_
 simp (disch:=first|omega|(simp only[LN];omega)) only[↓EC,EW,seval,↓reduceIte,impl_treeOfWord_1_F,hb,hw]
 refine ldc_open 500 (by decide) ?_
 have e0:((ws.length + 1:Nat):Int) - 1 = (ws.length:Int):=by omega
 have e1:=wyL_last (l:=ws) (t:=t)
 have e2:=wyL_len (l:=ws ++ [t])
 have e3:(ws ++ [t]).length = ws.length + 1:=by simp
 have e4:=fun v=>wyL_set (l:=ws) (t:=t) (v:=v)
 have d1:decide ((ws.length:Int).tmod 2 = 1) = decide (ws.length % 2 = 1):=by
  have:(ws.length:Int).tmod 2 = ((ws.length % 2:Nat):Int):=by rw[Int.tmod_eq_emod_of_nonneg (by omega)]; omega
  rw[this]; congr 1; rw[eq_iff_iff]; omega
 (try simp (disch:=first|omega|(simp only[LN];omega)) only[↓EC,EW,seval,↓reduceIte,hb,hw,e0,e1,e2,e3,Int.toNat_natCast])
 refine ldc_frz ?_
 (try simp (disch:=first|omega|(simp only[LN];omega)) only[↓EC,EW,seval,↓reduceIte,hb,hw,e0,e1,e2,e3,e4,d1,Int.toNat_natCast])
 have f0:∀ (q:Nat) (h:Hp),folds (fin (q + 1)) h (wyL ws) = some (wyL ws,h):=fun q h=>wyL_fin ws
 have f1:=fun v=>wyL_take (l:=ws) (v:=v)
 have f2:=wyL_clos (l:=ws)
 have f3:=wyL_len (l:=ws)
 have f4:=wyL_nrf (l:=ws)
 (refine Split.mk (fun h=>?_) (fun h=>?_) <;> (try simp only[SD]at h))
 ·have hq:ws.length % 2 = 1:=by rw[Int.tmod_eq_emod_of_nonneg (by omega)] at h; omega
  simp only[hq,if_true]
  refine LP_of (σ:=Nat) 100000 [(0,99,1),(1,28,1)] (fun i=>[.int .i64 i])
   (fun i=>[[.own 22 1 (ws.length + 1) (wyL ws ++ [.sl t.length (vi .u8 t)])],.int .i64 n :: vi .u8 (b ++ lvE w t i)])
   (fun i=>i <= t.length) (fun i=>t.length - i) 0 (by simp[frameOk,names,lpz,sclp,scv,scvs,nrfs,nrf,FRB]) (Nat.zero_le _) ?_ ?_
  ·simp (disch:=first|omega|(simp only[LN];omega)) only[↓EC,EW,seval,↓reduceIte,CVd,f0,f1,f2,f3,f4]
   rfl
  ·rintro i hi
   have lv:(lvE w t i).length = 16:=by rw[lvE_len,hw]
   simp (disch:=first|omega|(simp only[LN];omega)) only[↓EC,EW,seval,↓reduceIte,CVd,lhd,hb,hw,lv]
   (refine Split.mk (fun h=>?_) (fun h=>?_) <;> (try simp only[SD]at h))
   ·have h1:=h16 i (by omega)
    have m1:((i:Int) + 1).tmod (t.length:Int) = (((i + 1) % t.length:Nat):Int):=(Int.ofNat_tmod (i + 1) t.length).symm
    have m2:=Nat.mod_lt (i + 1) (show 0 < t.length by omega)
    (try simp (disch:=first|omega|(simp only[LN];omega)) only[↓EC,EW,seval,↓reduceIte,hb,hw,lv,m1,f4,Int.toNat_natCast])
    exact ⟨i + 1,by simp,rfl,by omega,by omega⟩
   ·have:i = t.length:=by omega
    subst this
    (try simp (disch:=first|omega|(simp only[LN];omega)) only[↓EC,EW,seval,↓reduceIte,hb,hw,lv,f0,f1,f2,f3])
    refine ldc_open 700 (by decide) ?_
    (try simp (disch:=first|omega|(simp only[LN];omega)) only[↓EC,EW,seval,↓reduceIte,hb,hw,lv,f0,f1,f2,f3])
 ·have hq:¬ ws.length % 2 = 1:=by rw[Int.tmod_eq_emod_of_nonneg (by omega)] at h; omega
  simp only[hq,if_false]
  refine LP_of (σ:=Nat) 100000 [(0,99,1),(1,28,1)] (fun i=>[.int .i64 i])
   (fun i=>[[.own 22 1 (ws.length + 1) (wyL ws ++ [.sl t.length (vi .u8 t)])],.int .i64 n :: vi .u8 (lvE b t i ++ w)])
   (fun i=>i <= t.length) (fun i=>t.length - i) 0 (by simp[frameOk,names,lpz,sclp,scv,scvs,nrfs,nrf,FRB]) (Nat.zero_le _) ?_ ?_
  ·simp (disch:=first|omega|(simp only[LN];omega)) only[↓EC,EW,seval,↓reduceIte,CVd,f0,f1,f2,f3,f4]
   rfl
  ·rintro i hi
   have lv:(lvE b t i).length = 16:=by rw[lvE_len,hb]
   simp (disch:=first|omega|(simp only[LN];omega)) only[↓EC,EW,seval,↓reduceIte,CVd,lhd,hb,hw,lv]
   (refine Split.mk (fun h=>?_) (fun h=>?_) <;> (try simp only[SD]at h))
   ·have h1:=h16 i (by omega)
    have m1:((i:Int) + 1).tmod (t.length:Int) = (((i + 1) % t.length:Nat):Int):=(Int.ofNat_tmod (i + 1) t.length).symm
    have m2:=Nat.mod_lt (i + 1) (show 0 < t.length by omega)
    (try simp (disch:=first|omega|(simp only[LN];omega)) only[↓EC,EW,seval,↓reduceIte,hb,hw,lv,m1,f4,Int.toNat_natCast])
    exact ⟨i + 1,by simp,rfl,by omega,by omega⟩
   ·have:i = t.length:=by omega
    subst this
    (try simp (disch:=first|omega|(simp only[LN];omega)) only[↓EC,EW,seval,↓reduceIte,hb,hw,lv,f0,f1,f2,f3])
    refine ldc_open 700 (by decide) ?_
    (try simp (disch:=first|omega|(simp only[LN];omega)) only[↓EC,EW,seval,↓reduceIte,hb,hw,lv,f0,f1,f2,f3])
end
section
set_option maxHeartbeats 1000000
def wat (s:List UInt8) (i:Nat):Wst:=wst0.run (s.take i)
theorem wat_succ {s:List UInt8} {i:Nat} (h:i < s.length):wat s (i + 1) = (wat s i).step s[i]:=by
 unfold wat
 rw[List.take_succ_eq_append_getElem h,wrun_app]; rfl
theorem wat_len {s:List UInt8}:wat s s.length = wst0.run s:=by unfold wat; rw[List.take_length]
structure Won (r:List UInt8) (x:Wst) (i:Nat):Prop where
 ex:∃ ws t,x.wy = ws ++ [t] /\ brR r ws.length = some 0
 al:∀ l ∈ x.wy,l.length <= i /\ ∀ e ∈ l,0 <= e /\ e < x.nx
 le:x.wy.length <= i + 1
 nx:0 <= x.nx /\ x.nx + (r.count 40:Nat) <= 16
 lB:x.B.length = 16
 lW:x.W.length = 16
theorem Won.step {c:UInt8} {r:List UInt8} {x:Wst} {i:Nat} (h:Won (c :: r) x i):Won r (x.step c) (i + 1) /\ (c = 40 ∨ c = 41):=by
 obtain ⟨⟨ws,t,e,hb⟩,al,le,⟨n0,n1⟩,lB,lW⟩:=h
 obtain ⟨wy,nx,B,W⟩:=x
 simp only at e al le n0 n1 lB lW
 subst e
 rw[brR_cons] at hb
 have e1:(ws ++ [t]).length - 1 = ws.length:=by simp
 have e2:glW (ws ++ [t]) ws.length = t:=glW_top
 have e4:(ws ++ [t]).take ws.length = ws:=List.take_left
 have at_:=al t (by simp)
 simp only[List.length_append,List.length_cons,List.length_nil] at le
 by_cases q:c = 40
 ·subst q
  rw[if_pos rfl] at hb
  have e3:(ws ++ [t]).set ws.length (t ++ [nx]) = ws ++ [t ++ [nx]]:=by
   rw[List.set_append_right _ _ (Nat.le_refl _),Nat.sub_self]; rfl
  have st:Wst.step ⟨ws ++ [t],nx,B,W⟩ 40 = ⟨ws ++ [t ++ [nx]] ++ [[nx]],nx + 1,B,W⟩:=by
   simp only[Wst.step,Wst.op,e1,e2,e3]; rfl
  rw[st]
  rw[List.count_cons_self] at n1
  refine ⟨⟨⟨ws ++ [t ++ [nx]],[nx],rfl,by simpa using hb⟩,fun l hl=>?_,by simp; omega,⟨by simp only; omega,by simp only; omega⟩,lB,lW⟩,.inl rfl⟩
  simp only[List.append_assoc,List.mem_append,List.mem_cons,List.not_mem_nil,or_false] at hl
  rcases hl with hl | rfl | rfl
  ·have:=al l (by simp[hl])
   exact ⟨by omega,fun e he=>by have:=this.2 e he; simp only; omega⟩
  ·refine ⟨by simp; omega,fun e he=>?_⟩
   simp only[List.mem_append,List.mem_cons,List.not_mem_nil,or_false] at he
   rcases he with he | rfl
   ·have:=at_.2 e he; simp only; omega
   ·simp only; omega
  ·refine ⟨by simp,fun e he=>?_⟩
   simp only[List.mem_cons,List.not_mem_nil,or_false] at he
   subst he; simp only; omega
 ·rw[if_neg q] at hb
  by_cases q2:c = 41
  ·subst q2
   rw[if_pos rfl] at hb
   rw[List.count_cons_of_ne (by decide)] at n1
   have hb:∃ d,ws.length = d + 1 /\ brR r d = some 0:=by
    cases hw:ws.length with
    | zero=>rw[hw] at hb; cases hb
    | succ d=>rw[hw] at hb; exact ⟨d,rfl,hb⟩
   obtain ⟨d,hd,hb⟩:=hb
   have ne:ws ≠ []:=fun z=>by rw[z] at hd; cases hd
   have hx:ws = ws.dropLast ++ [ws.getLast ne]:=(List.dropLast_concat_getLast ne).symm
   refine ⟨?_,.inr rfl⟩
   have st:(Wst.step ⟨ws ++ [t],nx,B,W⟩ 41).wy = ws /\ (Wst.step ⟨ws ++ [t],nx,B,W⟩ 41).nx = nx /\ (Wst.step ⟨ws ++ [t],nx,B,W⟩ 41).B.length = 16 /\ (Wst.step ⟨ws ++ [t],nx,B,W⟩ 41).W.length = 16:=by
    simp only[Wst.step,Wst.lv,e1,e2,e4,if_true]
    split
    ·exact ⟨rfl,rfl,lB,by simp only[lvE_len,lW]⟩
    ·exact ⟨rfl,rfl,by simp only[lvE_len,lB],lW⟩
   obtain ⟨s1,s2,s3,s4⟩:=st
   refine ⟨⟨ws.dropLast,ws.getLast ne,by rw[s1]; exact hx,by rw[List.length_dropLast,hd]; exact hb⟩,fun l hl=>?_,by rw[s1]; omega,by rw[s2]; omega,s3,s4⟩
   rw[s1] at hl
   have:=al l (by simp[hl])
   exact ⟨by omega,fun e he=>by rw[s2]; exact this.2 e he⟩
  ·rw[if_neg q2] at hb; cases hb
theorem wat_won {s:List UInt8} (hb:brR s 0 = some 0) (hc:s.count 40 <= 16):∀ i,i <= s.length -> Won (s.drop i) (wat s i) i
 | 0,_=>⟨⟨[],[],rfl,hb⟩,fun l hl=>by
   have:l = []:=by simpa [wat,wst0,Wst.run] using hl
   subst this; exact ⟨Nat.le_refl _,fun e he=>by cases he⟩,Nat.le_refl _,⟨Int.le_refl _,by simp[wat,wst0,Wst.run]; omega⟩,rfl,rfl⟩
 | i + 1,hi=>by
  have ih:=wat_won hb hc i (by omega)
  rw[List.drop_eq_getElem_cons (by omega)] at ih
  rw[wat_succ (by omega)]
  exact ih.step.1
theorem wat_br {s:List UInt8} (hb:brR s 0 = some 0) (hc:s.count 40 <= 16) {i:Nat} (hi:i < s.length):s[i] = 40 ∨ s[i] = 41:=by
 have ih:=wat_won hb hc i (by omega)
 rw[List.drop_eq_getElem_cons (by omega)] at ih
 exact ih.step.2
end
section
set_option maxHeartbeats 4000000
theorem c_impl_treeOfWord {s:List UInt8} (hb:brR s 0 = some 0) (hc:s.count 40 <= 16) (hs:s.length <= 90):PSpec Tryz.prog 54 [.str s] fun v=>v = vD ((s.length / 2:Nat):Int) (wst0.run s).lv.B (wst0.run s).lv.W:=by
 have won:=wat_won hb hc
 have wbr:=fun i (hi:i < s.length)=>wat_br hb hc hi
 have f9:isFn Tryz.prog 90 = true:=by kernel_rfl
 have e0:(s.length:Int).tdiv 2 = ((s.length / 2:Nat):Int):=rfl
 refine impl_treeOfWord_f.f ?_
 simp (disch:=first|omega|(simp only[LN];omega)) only[↓EC,EW,seval,↓reduceIte,impl_treeOfWord_F,e0]
 refine LP_of (σ:=Nat) 100000 [(66,28,1),(67,28,1),(68,99,1)] (fun i=>[.int .u8 (wat s i).nx,.int .i64 i])
  (fun i=>[.int .i64 0 :: vi .u8 (List.replicate 32 0),.int .i64 ((s.length / 2:Nat):Int) :: vi .u8 ((wat s i).B ++ (wat s i).W),[.own 22 1 (wat s i).wy.length (wyL (wat s i).wy)]])
  (fun i=>i <= s.length) (fun i=>s.length - i) 0 (by simp[frameOk,names,lpz,sclp,scv,scvs,nrfs,nrf,FRB]) (Nat.zero_le _) ?_ ?_
 ·simp (disch:=first|omega|(simp only[LN];omega)) only[↓EC,EW,seval,↓reduceIte,CVd]
  exact ⟨fun h=>h,rfl,rfl⟩
 ·rintro i hi
  obtain ⟨⟨ws,t,e,_⟩,al,le,⟨n0,n1⟩,lB,lW⟩:=won i hi
  have at_:=al t (by rw[e]; simp)
  have ht16:∀ j,j < t.length -> 0 <= gi t j /\ gi t j < 16:=fun j hj=>by
   have:=at_.2 (gi t j) (by rw[gi_of hj]; exact List.getElem_mem _)
   omega
  by_cases hi2:i < s.length
  ·have sx:=wat_succ hi2
   have bx:=wbr i hi2
   have gx:s.getD i 0 = s[i]:=by simp[List.getD,hi2]
   generalize wat s i = X at *
   obtain ⟨wy,nx,B,W⟩:=X
   simp only at e al le n0 n1 lB lW sx
   subst e
   have e5:=wyL_last (l:=ws) (t:=t)
   have e6:=wyL_len (l:=ws ++ [t])
   have e7:(ws ++ [t]).length = ws.length + 1:=by simp
   have e8:((ws.length + 1:Nat):Int) - 1 = (ws.length:Int):=by omega
   have e9:=fun v=>wyL_set (l:=ws) (t:=t) (v:=v)
   simp (disch:=first|omega|(simp only[LN];omega)) only[↓EC,EW,seval,↓reduceIte,CVd,lhd,lB,lW,gx]
   (refine Split.mk (fun h=>?_) (fun h=>?_) <;> (try simp only[SD]at h))
   ·(refine Split.mk (fun h=>?_) (fun h=>?_) <;> (try simp only[SD]at h))
    ·(try simp (disch:=first|omega|(simp only[LN];omega)) only[↓EC,EW,seval,↓reduceIte,f9])
     refine pcm [68,67] rfl ?_
     (try simp (disch:=first|omega|(simp only[LN];omega)) only[↓EC,EW,seval,↓reduceIte,wyL_nrf,lB,lW])
     refine callM_v (c_leave (by omega) (by omega) ht16 lB lW) ?_
     have c41:s[i] = 41:=bx.resolve_left fun z=>by rw[z] at h; exact absurd h (by decide)
     rw[c41] at sx
     have e1:(ws ++ [t]).length - 1 = ws.length:=by simp
     have e2:glW (ws ++ [t]) ws.length = t:=glW_top
     have e4:(ws ++ [t]).take ws.length = ws:=List.take_left
     simp only[Wst.step,Wst.lv,e1,e2,e4,if_true] at sx
     by_cases hq:ws.length % 2 = 1
     ·simp only[hq,if_true] at sx ⊢
      (try simp (disch:=first|omega|(simp only[LN];omega)) only[↓EC,EW,seval,↓reduceIte,wyL_nrf,lB,lW])
      exact ⟨i + 1,by rw[sx]; simp,by rw[sx],by omega,by omega⟩
     ·simp only[hq,if_false] at sx ⊢
      (try simp (disch:=first|omega|(simp only[LN];omega)) only[↓EC,EW,seval,↓reduceIte,wyL_nrf,lB,lW])
      exact ⟨i + 1,by rw[sx]; simp,by rw[sx],by omega,by omega⟩
    ·refine ldc_open 1000 (by decide) ?_
     (try simp (disch:=first|omega|(simp only[LN];omega)) only[↓EC,EW,seval,↓reduceIte,e5,e6,e7,e8,e9,lB,lW,Int.toNat_natCast])
     refine ldc_open 1001 (by decide) ?_
     have f0:∀ (q:Nat) (h:Hp),folds (fin (q + 1)) h (wyL ws) = some (wyL ws,h):=fun q h=>wyL_fin ws
     have f3:=wyL_len (l:=ws)
     have f4:=wyL_nrf (l:=ws)
     have z0:(wyZ t = 1 ∨ wyZ t = 0) = True:=by unfold wyZ; split <;> simp
     (try simp (disch:=first|omega|(simp only[LN];omega)) only[↓EC,EW,seval,↓reduceIte,e5,e6,e7,e8,e9,f0,f3,f4,z0,lB,lW,Int.toNat_natCast])
     have c40:s[i] = 40:=bx.resolve_right fun z=>by rw[z] at h; exact absurd rfl h
     rw[c40] at sx
     have e1:(ws ++ [t]).length - 1 = ws.length:=by simp
     have e2:glW (ws ++ [t]) ws.length = t:=glW_top
     have e3:(ws ++ [t]).set ws.length (t ++ [nx]) = ws ++ [t ++ [nx]]:=by
      rw[List.set_append_right _ _ (Nat.le_refl _),Nat.sub_self]; rfl
     have sx:wat s (i + 1) = ⟨ws ++ [t ++ [nx]] ++ [[nx]],nx + 1,B,W⟩:=by
      rw[sx]; simp only[Wst.step,Wst.op,e1,e2,e3]; rfl
     have z1:wyL (ws ++ [t ++ [nx]] ++ [[nx]]) = wyL ws ++ [.own 5 1 (t.length + 1) (vi .u8 (t ++ [nx])),.own 5 1 1 [.int .u8 nx]]:=by
      simp[wyL,wyZ,vi]
     refine ⟨i + 1,by rw[sx]; simp,?_,by omega,by omega⟩
     rw[sx]
     simp only[z1]
     simp
   ·omega
  ·have:i = s.length:=by omega
   subst this
   rw[wat_len] at *
   generalize wst0.run s = X at *
   obtain ⟨wy,nx,B,W⟩:=X
   simp only at e al le n0 n1 lB lW
   subst e
   simp (disch:=first|omega|(simp only[LN];omega)) only[↓EC,EW,seval,↓reduceIte,CVd,lhd,lB,lW,f9]
   (refine Split.mk (fun h=>?_) (fun h=>?_) <;> (try simp only[SD]at h))
   ·omega
   refine pcm [68,67] rfl ?_
   (try simp (disch:=first|omega|(simp only[LN];omega)) only[↓EC,EW,seval,↓reduceIte,wyL_nrf,lB,lW])
   refine callM_v (c_leave (by simp at le; omega) (by omega) ht16 lB lW) ?_
   have e1:(ws ++ [t]).length - 1 = ws.length:=by simp
   have e2:glW (ws ++ [t]) ws.length = t:=glW_top
   have e4:(ws ++ [t]).take ws.length = ws:=List.take_left
   have l1:(lvE B t t.length).length = 16:=by rw[lvE_len,lB]
   have l2:(lvE W t t.length).length = 16:=by rw[lvE_len,lW]
   simp only[Wst.lv,e1,e2,e4]
   by_cases hq:ws.length % 2 = 1
   ·simp only[hq,if_true]
    (try simp (disch:=first|omega|(simp only[LN];omega)) only[↓EC,EW,seval,↓reduceIte,wyL_nrf,lB,lW,l1,l2])
    try rfl
   ·simp only[hq,if_false]
    (try simp (disch:=first|omega|(simp only[LN];omega)) only[↓EC,EW,seval,↓reduceIte,wyL_nrf,lB,lW,l1,l2])
    try rfl
end
section
set_option maxHeartbeats 4000000
theorem word_cnt:∀ F:Frs,F.word.count 40 = F.size /\ F.word.length = 2 * F.size
 | .nil=>⟨rfl,rfl⟩
 | .cons A B=>by
  obtain ⟨a1,a2⟩:=word_cnt A
  obtain ⟨b1,b2⟩:=word_cnt B
  have h41:∀ l:List UInt8,(41 :: l).count 40 = l.count 40:=fun l=>List.count_cons_of_ne (by decide)
  constructor
  ·simp only[Frs.word,Frs.size,List.cons_append,List.append_assoc,List.count_cons_self,List.count_append,h41,a1,b1]
   try omega
  ·simp only[Frs.word,Frs.size,List.cons_append,List.append_assoc,List.length_append,List.length_cons,a2,b2]
   try omega
theorem c_impl_TreeOfWord {s:List UInt8} (hs:s.length <= 1000):PSpec Tryz.prog 7 [.str s] fun v=>v = vDC (toR s):=by
 refine impl_TreeOfWord_f.f ?_
 simp (disch:=first|omega|(simp only[LN];omega)) only[↓EC,EW,seval,↓reduceIte,impl_TreeOfWord_F]
 refine pcd_v (c_impl_isBrackets hs) ?_
 cases hk:bkB s with
 | false =>
  (try simp (disch:=first|omega|(simp only[LN];omega)) only[↓EC,EW,seval,↓reduceIte])
  rw[toR_no hk]; rfl
 | true =>
  obtain ⟨A,B,e,M⟩:=bk_mk hk
  have hbl:=M.lb.1
  have hwl:=M.lw.1
  obtain ⟨ws,h1,h2⟩:=bk_ws hk
  obtain ⟨A',B',e',hs',l'⟩:=bk_word hk
  obtain ⟨c1,c2⟩:=word_cnt (.cons A' B')
  have cn:s.count 40 <= 16:=by rw[e',c1]; simp only[Frs.size]; omega
  have k:=c_impl_treeOfWord ws.1 cn (by omega)
  have q:=wmade_eq (A:=A') (B:=B') (by omega)
  rw[<-e'] at q
  rw[q.1,q.2] at k
  rw[toR_yes hk]
  generalize (tms0.run s).fin.B = b at *
  generalize (tms0.run s).fin.W = w at *
  unfold vD at k
  (try simp (disch:=first|omega|(simp only[LN];omega)) only[↓EC,EW,seval,↓reduceIte])
  refine pcd_v k ?_
  (try simp (disch:=first|omega|(simp only[LN];omega)) only[↓EC,EW,seval,↓reduceIte,hbl,hwl])
  try rfl
end
section
set_option maxHeartbeats 1000000
theorem Mkd.eul {n:Int} {b w:List Int} {A B:Frs} (h:Mkd n b w A B):eulN n b w = 2:=by
 have f:=h.face
 have v:=h.tre.v
 unfold eulN
 omega
end
section
set_option maxHeartbeats 1000000
variable {n:Int} {b w:List Int}
theorem Tre.codes (h:Tre n b w) (ht:trB n b w = true):tcR n b w = 0 /\ ∀ x:Nat,x < n.toNat -> tcX n b w x = 0:=by
 have hd:=h.Z.isB
 refine ⟨by simp[tcR,hd,ht],fun x hx=>?_⟩
 have:(0:Int) <= (x:Int) /\ (x:Int) < n:=by omega
 simp[tcX,hd,ht,this]
theorem Tre.from (h:Tre n b w) {x:Nat} (hx:x < n.toNat):∃ b' w',toR (Sep.wd b w n x) = ((n,b',w'),0) /\ okP b' /\ okP w' /\ akR n n b w b' w' = (true,0) /\ ∃ A B,Mkd n b' w' A B:=by
 obtain ⟨k1,k2,A,B,M,a⟩:=h.word_mk hx
 refine ⟨_,_,by rw[toR_yes k1,k2],M.lb.ok,M.lw.ok,?_,A,B,M⟩
 have d1:=h.Z.isB
 have d2:=M.dz.isB
 simp[akR,akB,d1,d2,a]
theorem t_one {s:List UInt8} (h:bkB s = true):∃ n b w c b' w',toR s = ((n,b,w),0) /\ okP b /\ okP w /\ isDB n b w = true /\ trB n b w = true /\ eulN n b w = 2 /\ woR n b w 0 = (s,0) /\ cnR n b w = (c,0) /\ c.length <= 32 /\ Op.bytesLess s c = false /\ toR c = ((n,b',w'),0) /\ okP b' /\ okP w' /\ akR n n b w b' w' = (true,0):=by
 obtain ⟨A,B,e,M⟩:=bk_mk h
 have T:=M.tre
 have hn:=T.Z.B.hn
 have ht:=M.trB
 obtain ⟨c1,c2⟩:=T.codes ht
 obtain ⟨x,hx,ex⟩:=T.can
 obtain ⟨b',w',t1,t2,t3,t4,_⟩:=T.from hx
 have w0:=M.wd0
 refine ⟨_,_,_,_,b',w',toR_yes h,M.lb.ok,M.lw.ok,T.Z.isB,ht,M.eul,?_,by rw[cnR,if_pos c1],?_,?_,by rw[ex]; exact t1,t2,t3,t4⟩
 ·have:=c2 0 (by omega)
  unfold woR
  rw[if_pos (show tcX _ _ _ 0 = 0 from this)]
  show (Sep.wd _ _ _ 0,(0:Int)) = _
  rw[w0,<-e]
 ·rw[ex]; exact T.wd_len hx
 ·have:=T.lw.le 0 (by omega)
  rw[w0,<-e] at this
  exact this
theorem t_sym (hb:okP b) (hw:okP w) (h:(syR n b w).2 = 0):1 <= (syR n b w).1 /\ n % (syR n b w).1 = 0 /\ 1 <= n /\ n <= 16:=by
 unfold syR at h ⊢
 by_cases q:tcR n b w = 0
 ·rw[if_pos q]
  obtain ⟨_,_,T⟩:=tcR_0 hb hw q
  obtain ⟨a,c⟩:=T.sym_ok
  exact ⟨a,c,T.Z.B.hn⟩
 ·rw[if_neg q] at h
  exact absurd h q
theorem t_wo (hb:okP b) (hw:okP w) {x:Int} (h:(woR n b w x).2 = 0):∃ b' w' c,toR (woR n b w x).1 = ((n,b',w'),0) /\ okP b' /\ okP w' /\ akR n n b w b' w' = (true,0) /\ cnR n b w = (c,0) /\ cnR n b' w' = (c,0):=by
 unfold woR at h ⊢
 by_cases q:tcX n b w x = 0
 ·rw[if_pos q]
  obtain ⟨hd,ht,T,h1,h2⟩:=tcX_0 hb hw q
  obtain ⟨k1,k2,A,B,M,a⟩:=T.word_mk (x:=x.toNat) (by omega)
  have c1:=(T.codes ht).1
  have c2:=(M.tre.codes M.trB).1
  have e:=T.can_alk M.tre a
  refine ⟨_,_,(lwT (Sep.wd b w n) n.toNat).1,by rw[toR_yes k1,k2],M.lb.ok,M.lw.ok,?_,by rw[cnR,if_pos c1],by rw[cnR,if_pos c2,e]⟩
  simp[akR,akB,hd,M.dz.isB,a]
 ·rw[if_neg q] at h
  exact absurd h q
end
section
set_option maxHeartbeats 4000000
theorem c_spec_l01Damage {x:Value} {l:List Int} {a z:Int} {s:List UInt8} (hl:s.length <= 100) (hs:okS l a):PSpecM Tryz.prog 52 [.ptr 0 0,.str s] [(0,96,1)] [srcC x l a z] fun v c =>
  ∃ t a' z',v = .str t /\ c = [srcC x l a' z'] /\ okS l a' /\ t.length <= 200:=by
 refine spec_l01Damage_f.m rfl rfl ?_
 unfold srcC
 dsimp only[spec_l01Damage_F,pcal_B,pcalp_B,pcala_B,pcond_B,pgk_B,JN_B,LP_B]
 (refine bni ?_;repeat (refine bnk ?_;(try simp (disch:=first|omega|(simp only[LN];omega)) only[↓EC,EW,seval,↓reduceIte,↓ED,EE])))
 (refine pcm [0] rfl ?_; (refine bni ?_;repeat (refine bnk ?_;(try simp (disch:=first|omega|(simp only[LN];omega)) only[↓EC,EW,seval,↓reduceIte,↓ED,EE]))); refine callM_d (c_spec_l01Next (by assumption) (by omega)) ?_; rintro _ _ ⟨r1,_,_,rfl,rfl,hs_,hr_⟩; (refine bni ?_;repeat (refine bnk ?_;(try simp (disch:=first|omega|(simp only[LN];omega)) only[↓EC,EW,seval,↓reduceIte,↓ED,EE,srcC]))))
 have hr1:r1 = 0 ∨ r1 = 1 ∨ r1 = 2 ∨ r1 = 3 ∨ r1 = 4 ∨ r1 = 5 ∨ r1 = 6 ∨ r1 = 7 ∨ r1 = 8 ∨ r1 = 9 ∨ r1 = 10 ∨ r1 = 11 ∨ r1 = 12:=by omega
 obtain ⟨c,hc1,hc2⟩:∃ c:List UInt8,c.length <= 1 /\ ([V.str [48],V.str [49],V.str [50],V.str [57],V.str [120],V.str [40],V.str [41],V.str [32],V.str [124],V.str [44],V.str [45],V.str [43],V.str [10]]:List V).getD r1.toNat .und = .str c:=by
  rcases hr1 with rfl | rfl | rfl | rfl | rfl | rfl | rfl | rfl | rfl | rfl | rfl | rfl | rfl <;> exact ⟨_,by decide,rfl⟩
 rw[hc2,ldc_str]
 (refine Split.mB (fun h=>?_) (fun h=>?_) <;> (try simp only[SD]at h))
 ·(refine bni ?_;repeat (refine bnk ?_;(try simp (disch:=first|omega|(simp only[LN];omega)) only[↓EC,EW,seval,↓reduceIte,↓ED,EE])))
  exact ⟨c,_,_,rfl,rfl,by assumption,by omega⟩
 ·(refine bni ?_;repeat (refine bnk ?_;(try simp (disch:=first|omega|(simp only[LN];omega)) only[↓EC,EW,seval,↓reduceIte,↓ED,EE])))
  (refine pcm [0] rfl ?_; (refine bni ?_;repeat (refine bnk ?_;(try simp (disch:=first|omega|(simp only[LN];omega)) only[↓EC,EW,seval,↓reduceIte,↓ED,EE]))); refine callM_d (c_spec_l01Next (by assumption) (by omega)) ?_; rintro _ _ ⟨r2,_,_,rfl,rfl,hs_,hr_⟩; (refine bni ?_;repeat (refine bnk ?_;(try simp (disch:=first|omega|(simp only[LN];omega)) only[↓EC,EW,seval,↓reduceIte,↓ED,EE,srcC]))))
  have hr2:0 <= r2 /\ r2 < s.length:=by omega
  (refine pcm [0] rfl ?_; (refine bni ?_;repeat (refine bnk ?_;(try simp (disch:=first|omega|(simp only[LN];omega)) only[↓EC,EW,seval,↓reduceIte,↓ED,EE]))); refine callM_d (c_spec_l01Next (by assumption) (by omega)) ?_; rintro _ _ ⟨r3,_,_,rfl,rfl,hs_,hr_⟩; (refine bni ?_;repeat (refine bnk ?_;(try simp (disch:=first|omega|(simp only[LN];omega)) only[↓EC,EW,seval,↓reduceIte,↓ED,EE,srcC]))))
  (refine Split.mB (fun h=>?_) (fun h=>?_) <;> (try simp only[SD]at h))
  ·(refine bni ?_;repeat (refine bnk ?_;(try simp (disch:=first|omega|(simp only[LN];omega)) only[↓EC,EW,seval,↓reduceIte,↓ED,EE])))
   exact ⟨_,_,_,rfl,rfl,by assumption,by simp; omega⟩
  ·(refine bni ?_;repeat (refine bnk ?_;(try simp (disch:=first|omega|(simp only[LN];omega)) only[↓EC,EW,seval,↓reduceIte,↓ED,EE])))
   (refine Split.mB (fun h=>?_) (fun h=>?_) <;> (try simp only[SD]at h))
   ·(refine bni ?_;repeat (refine bnk ?_;(try simp (disch:=first|omega|(simp only[LN];omega)) only[↓EC,EW,seval,↓reduceIte,↓ED,EE])))
    exact ⟨_,_,_,rfl,rfl,by assumption,by simp; omega⟩
   ·(refine bni ?_;repeat (refine bnk ?_;(try simp (disch:=first|omega|(simp only[LN];omega)) only[↓EC,EW,seval,↓reduceIte,↓ED,EE])))
    exact ⟨_,_,_,rfl,rfl,by assumption,by simp; omega⟩
theorem c_spec_DrawTreeOfWord {x:Value} {l:List Int} (hB:okB l):PSpec Tryz.prog 6 [.fz x l] fun v=>∃ t,v = .str t /\ t.length <= 1000:=by
 refine spec_DrawTreeOfWord_f.f ?_
 dsimp only[spec_DrawTreeOfWord_F,pcal_B,pcalp_B,pcala_B,pcond_B,pgk_B,JN_B,LP_B]
 (refine bni ?_;repeat (refine bnk ?_;(try simp (disch:=first|omega|(simp only[LN];omega)) only[↓EC,EW,seval,↓reduceIte,↓ED,EE])))
 (refine pcn_q (c_spec_l01From hB) rfl ?_; rintro _ _ ⟨rfl,z,rfl⟩; have hs_:=okS_0 hB; (try simp (disch:=first|omega|(simp only[LN];omega)) only[↓EC,EW,seval,↓reduceIte,srcC]))
 (refine bni ?_;repeat (refine bnk ?_;(try simp (disch:=first|omega|(simp only[LN];omega)) only[↓EC,EW,seval,↓reduceIte,↓ED,EE])))
 (refine pcm [70] rfl ?_; (refine bni ?_;repeat (refine bnk ?_;(try simp (disch:=first|omega|(simp only[LN];omega)) only[↓EC,EW,seval,↓reduceIte,↓ED,EE]))); refine callM_d (c_spec_l01Next (by assumption) (by omega)) ?_; rintro _ _ ⟨r1,_,_,rfl,rfl,hs_,hr_⟩; (refine bni ?_;repeat (refine bnk ?_;(try simp (disch:=first|omega|(simp only[LN];omega)) only[↓EC,EW,seval,↓reduceIte,↓ED,EE,srcC]))))
 obtain ⟨n,hn⟩:∃ n:Nat,1 + r1 = n:=⟨(1 + r1).toNat,by omega⟩
 rw[hn]
 (refine pcm [70] rfl ?_; (refine bni ?_;repeat (refine bnk ?_;(try simp (disch:=first|omega|(simp only[LN];omega)) only[↓EC,EW,seval,↓reduceIte,↓ED,EE]))); refine callM_d (c_spec_l05DrawWord (n:=n) (by omega) (by assumption)) ?_; rintro _ _ ⟨s,a2,z2,rfl,rfl,hs_,hws⟩; (refine bni ?_;repeat (refine bnk ?_;(try simp (disch:=first|omega|(simp only[LN];omega)) only[↓EC,EW,seval,↓reduceIte,↓ED,EE,srcC]))))
 have hsl:=hws.len
 (refine pcm [70] rfl ?_; (refine bni ?_;repeat (refine bnk ?_;(try simp (disch:=first|omega|(simp only[LN];omega)) only[↓EC,EW,seval,↓reduceIte,↓ED,EE]))); refine callM_d (c_spec_l01Next (by assumption) (by omega)) ?_; rintro _ _ ⟨r2,_,_,rfl,rfl,hs_,hr_⟩; (refine bni ?_;repeat (refine bnk ?_;(try simp (disch:=first|omega|(simp only[LN];omega)) only[↓EC,EW,seval,↓reduceIte,↓ED,EE,srcC]))))
 (refine Split.mB (fun h=>?_) (fun h=>?_) <;> (try simp only[SD]at h))
 ·(refine bni ?_;repeat (refine bnk ?_;(try simp (disch:=first|omega|(simp only[LN];omega)) only[↓EC,EW,seval,↓reduceIte,↓ED,EE])))
  (refine pcm [70] rfl ?_; (refine bni ?_;repeat (refine bnk ?_;(try simp (disch:=first|omega|(simp only[LN];omega)) only[↓EC,EW,seval,↓reduceIte,↓ED,EE]))); refine callM_d (c_spec_l01Damage (s:=s) (by omega) (by assumption)) ?_; rintro _ _ ⟨t,a3,z3,rfl,rfl,hs_,ht⟩; (refine bni ?_;repeat (refine bnk ?_;(try simp (disch:=first|omega|(simp only[LN];omega)) only[↓EC,EW,seval,↓reduceIte,↓ED,EE,srcC]))))
  exact ⟨t,rfl,by omega⟩
 ·(refine bni ?_;repeat (refine bnk ?_;(try simp (disch:=first|omega|(simp only[LN];omega)) only[↓EC,EW,seval,↓reduceIte,↓ED,EE])))
  exact ⟨s,rfl,by omega⟩
end
section
set_option maxHeartbeats 1000000
abbrev Cst:=List Int × List Int
def cst (y x:Int) (s:Cst):Option Cst:=if gi s.2 y.toNat = 0 then some (s.1 ++ [y],s.2.set y.toNat (3 - gi s.2 x.toNat)) else if gi s.2 y.toNat = gi s.2 x.toNat then none else some s
def clV:List (List Int) -> Int -> Cst -> Option Cst
 | [],_,s=>some s
 | l :: L,x,s=>(cst (gi l x.toNat) x s).bind (clV L x)
def clRun (L:List (List Int)):Nat -> Nat -> Cst -> Option Cst
 | 0,_,s=>some s
 | f + 1,k,s=>if k < s.1.length then (clV L (gi s.1 k) s).bind (clRun L f (k + 1)) else some s
def cls0:Cst:=([0],(List.replicate 32 0).set 0 1)
def clsR (L:List (List Int)):Option Cst:=clRun L 33 0 cls0
section
variable {L:List (List Int)} {N:Nat} {s s':Cst} {x y:Int}
structure Cx (N:Nat) (s:Cst):Prop where
 l2:s.2.length = 32
 nd:s.1.Nodup
 lt:∀ y ∈ s.1,0 <= y /\ y < N
 has:∀ y:Nat,y < 32 -> (gi s.2 y ≠ 0 ↔ (y:Int) ∈ s.1)
 vs:∀ y:Nat,gi s.2 y = 0 ∨ gi s.2 y = 1 ∨ gi s.2 y = 2
structure Pre (s s':Cst):Prop where
 le:s.1.length <= s'.1.length
 eq:∀ j,j < s.1.length -> gi s'.1 j = gi s.1 j
 cl:∀ y:Nat,gi s.2 y ≠ 0 -> gi s'.2 y = gi s.2 y
theorem Pre.refl:Pre s s:=⟨Nat.le_refl _,fun _ _=>rfl,fun _ _=>rfl⟩
theorem Pre.trans {t:Cst} (h:Pre s s') (h':Pre s' t):Pre s t:=⟨Nat.le_trans h.le h'.le,fun j hj=>(h'.eq j (Nat.lt_of_lt_of_le hj h.le)).trans (h.eq j hj),fun y hy=>by
 have:=h.cl y hy
 rw[h'.cl y (by rw[this]; exact hy),this]⟩
theorem Pre.mem (h:Pre s s') (hx:x ∈ s.1):x ∈ s'.1:=by
 obtain ⟨j,hj,rfl⟩:=List.getElem_of_mem hx
 have e:=h.eq j hj
 rw[gi_of hj,gi_of (show j < s'.1.length from Nat.lt_of_lt_of_le hj h.le)] at e
 rw[<-e]; exact List.getElem_mem _
theorem Cx.cl (hN:N <= 32) (h:Cx N s) (hx:x ∈ s.1):gi s.2 x.toNat = 1 ∨ gi s.2 x.toNat = 2:=by
 have hl:=h.lt x hx
 have:=(h.has x.toNat (by omega)).2 (by rw[show ((x.toNat:Nat):Int) = x by omega]; exact hx)
 have:=h.vs x.toNat
 omega
theorem Cx.len (h:Cx N s):s.1.length <= N:=by
 have:=nodup_len N (s.1.map Int.toNat) (List.pairwise_map.2 (List.Pairwise.imp_of_mem (fun {a c} ha hc hne ee=>by
  have:=h.lt a ha
  have:=h.lt c hc
  omega) h.nd)) fun z hz=>by
  obtain ⟨u,hu,rfl⟩:=List.mem_map.1 hz
  have:=h.lt u hu
  omega
 simpa using this
theorem Cx.add (hN:N <= 32) (h:Cx N s) (hx:x ∈ s.1) (hy:0 <= y /\ y < N) (h0:gi s.2 y.toNat = 0):Cx N (s.1 ++ [y],s.2.set y.toNat (3 - gi s.2 x.toNat)):=by
 have hc:=h.cl hN hx
 have hno:y ∉ s.1:=fun hm=>(h.has y.toNat (by omega)).2 (by rw[show ((y.toNat:Nat):Int) = y by omega]; exact hm) h0
 refine ⟨by simp[h.l2],List.nodup_append.2 ⟨h.nd,by simp,fun a ha c hcm e=>?_⟩,fun z hz=>?_,fun z hz=>?_,fun z=>?_⟩
 ·rw[List.mem_singleton.1 hcm] at e
  exact hno (e ▸ ha)
 ·rcases List.mem_append.1 hz with hz | hz
  ·exact h.lt z hz
  ·rw[List.mem_singleton.1 hz]; exact hy
 ·simp only[List.mem_append,List.mem_singleton]
  rw[gi_set,h.l2]
  by_cases e:y.toNat = z
  ·rw[if_pos ⟨e,hz⟩]
   exact ⟨fun _=>.inr (by omega),fun _=>by omega⟩
  ·rw[if_neg fun q=>e q.1,h.has z hz]
   exact ⟨.inl,fun q=>q.elim id fun q=>absurd (by omega) e⟩
 ·rw[gi_set]
  split
  ·omega
  ·exact h.vs z
theorem cst_ok (hN:N <= 32) (h:Cx N s) (hx:x ∈ s.1) (hy:0 <= y /\ y < N) (e:cst y x s = some s'):Cx N s' /\ Pre s s' /\ gi s'.2 y.toNat = 3 - gi s'.2 x.toNat:=by
 have hc:=h.cl hN hx
 unfold cst at e
 split at e
 ·rename_i h0
  cases e
  have hne:¬ (y.toNat = x.toNat):=fun q=>by rw[q] at h0; omega
  refine ⟨h.add hN hx hy h0,⟨by simp,fun j hj=>by simp only[gi_app]; rw[if_pos hj],fun z hz=>?_⟩,?_⟩
  ·simp only
   rw[gi_set,if_neg]
   rintro ⟨q,_⟩
   rw[q] at h0; exact hz h0
  ·simp only
   rw[gi_set,if_pos ⟨rfl,by rw[h.l2]; omega⟩,gi_set,if_neg fun q=>hne q.1]
 ·split at e
  ·cases e
  ·cases e
   have:=h.vs y.toNat
   exact ⟨h,.refl,by omega⟩
theorem clV_ok (hN:N <= 32) (hv:Ivs L N):∀ (M:List (List Int)) {s s':Cst},(∀ l ∈ M,l ∈ L) -> Cx N s -> x ∈ s.1 -> clV M x s = some s' -> Cx N s' /\ Pre s s' /\ ∀ l ∈ M,gi s'.2 (fp l x.toNat) = 3 - gi s'.2 x.toNat
 | [],s,s',_,h,_,e=>by cases e; exact ⟨h,.refl,fun l hl=>absurd hl List.not_mem_nil⟩
 | l :: M,s,s',hM,h,hx,e=>by
  have hl:=hM l (by simp)
  have hxl:=h.lt x hx
  have l1:=(hv l hl).lt x.toNat (by omega)
  have l2:=(hv l hl).nn x.toNat
  have l3:gi l x.toNat = (fp l x.toNat:Int):=by unfold fp; omega
  simp only[clV] at e
  cases e1:cst (gi l x.toNat) x s with
  | none=>rw[e1] at e; cases e
  | some t =>
   rw[e1] at e
   obtain ⟨c1,c2,c3⟩:=cst_ok hN h hx (by omega) e1
   obtain ⟨d1,d2,d3⟩:=clV_ok hN hv M (s:=t) (fun l hl=>hM l (by simp[hl])) c1 (c2.mem hx) e
   have hc:=c1.cl hN (c2.mem hx)
   refine ⟨d1,c2.trans d2,fun k hk=>?_⟩
   rcases List.mem_cons.1 hk with rfl | hk
   ·rw[l3,Int.toNat_natCast] at c3
    rw[d2.cl _ (by omega),d2.cl _ (by omega)]; exact c3
   ·exact d3 k hk
theorem clRun_ok (hN:N <= 32) (hv:Ivs L N):∀ (f k:Nat) {s s':Cst},k + f = 33 -> Cx N s -> (∀ j,j < k -> ∀ l ∈ L,gi s.2 (fp l (gi s.1 j).toNat) = 3 - gi s.2 (gi s.1 j).toNat) -> k <= s.1.length -> clRun L f k s = some s' ->
  Cx N s' /\ Pre s s' /\ ∀ z ∈ s'.1,∀ l ∈ L,gi s'.2 (fp l z.toNat) = 3 - gi s'.2 z.toNat
 | 0,k,s,s',e,h,hc,hk,_=>by have:=h.len; omega
 | f + 1,k,s,s',e,h,hc,hk,e1=>by
  simp only[clRun] at e1
  split at e1
  ·rename_i hlt
   have hz:gi s.1 k ∈ s.1:=by rw[gi_of hlt]; exact List.getElem_mem hlt
   cases e2:clV L (gi s.1 k) s with
   | none=>rw[e2] at e1; cases e1
   | some t =>
    rw[e2] at e1
    obtain ⟨c1,c2,c3⟩:=clV_ok hN hv L (fun l hl=>hl) h hz e2
    obtain ⟨d1,d2,d3⟩:=clRun_ok hN hv f (k + 1) (s:=t) (by omega) c1 (fun j hj l hl=>by
     rw[c2.eq j (by omega)]
     by_cases q:j = k
     ·subst q; exact c3 l hl
     ·have hjm:gi s.1 j ∈ s.1:=by rw[gi_of (show j < s.1.length by omega)]; exact List.getElem_mem _
      have h1:=hc j (by omega) l hl
      have h2:=h.cl hN hjm
      rw[c2.cl _ (by omega),c2.cl _ (by omega)]; exact h1) (by have:=c2.le; omega) e1
    exact ⟨d1,c2.trans d2,d3⟩
  ·cases e1
   refine ⟨h,.refl,fun z hz l hl=>?_⟩
   obtain ⟨j,hj,rfl⟩:=List.getElem_of_mem hz
   have:=hc j (by omega) l hl
   rw[gi_of hj] at this; exact this
theorem Cx.zero (h0:0 < N):Cx N cls0:=by
 refine ⟨by simp[cls0],by simp[cls0],fun y hy=>?_,fun y hy=>?_,fun y=>?_⟩
 ·rw[show y = 0 from List.mem_singleton.1 hy]; omega
 ·unfold cls0
  simp only[List.mem_singleton]
  rw[gi_set,gi_rep]
  by_cases e:0 = y
  ·subst e; simp
  ·rw[if_neg fun q=>e q.1]
   constructor
   ·intro q; split at q <;> exact absurd rfl q
   ·intro q; omega
 ·unfold cls0
  rw[gi_set,gi_rep]
  split
  ·exact .inr (.inl rfl)
  ·left; split <;> rfl
structure Clr (L:List (List Int)) (N:Nat) (c:List Int):Prop where
 l2:c.length = 32
 z:gi c 0 = 1
 vs:∀ x,x < N -> gi c x = 1 ∨ gi c x = 2
 ne:∀ x,x < N -> ∀ l ∈ L,gi c (fp l x) = 3 - gi c x
 out:∀ x:Nat,N <= x -> gi c x = 0
theorem clsR_col (hN:N <= 32) (h0:0 < N) (hv:Ivs L N) (hall:∀ x,x < N -> Rl L 0 x) (e:clsR L = some s):Clr L N s.2:=by
 obtain ⟨c1,c2,c3⟩:=clRun_ok hN hv 33 0 rfl (Cx.zero h0) (fun j hj=>absurd hj (Nat.not_lt_zero j)) (Nat.zero_le _) e
 have hz:(0:Int) ∈ s.1:=c2.mem (by simp[cls0])
 have mem:∀ x,x < N -> (x:Int) ∈ s.1:=fun x hx=>by
  have:=hall x hx
  induction this with
  | refl=>exact hz
  | @step y l r hl ih =>
   have hyN:y < N:=r.lt hv h0
   have hy:=ih hyN
   have h1:=c3 _ hy l hl
   rw[Int.toNat_natCast] at h1
   have h2:=c1.cl hN hy
   rw[Int.toNat_natCast] at h2
   exact (c1.has _ (by omega)).1 (by omega)
 refine ⟨c1.l2,?_,fun x hx=>?_,fun x hx l hl=>?_,fun x hx=>?_⟩
 ·have:=c2.cl 0 (by simp[cls0,gi])
  rw[this]; rfl
 ·have:=c1.cl hN (mem x hx)
  rw[Int.toNat_natCast] at this; exact this
 ·have:=c3 _ (mem x hx) l hl
  rw[Int.toNat_natCast] at this; exact this
 ·by_cases q:x < 32
  ·refine Classical.byContradiction fun hne=>?_
   have:=c1.lt _ ((c1.has x q).1 hne)
   omega
  ·rw[gi_over (by rw[c1.l2]; omega)]
theorem clV_some {c:List Int} (hN:N <= 32) (hv:Ivs L N) (hc:Clr L N c):∀ (M:List (List Int)) {s:Cst},(∀ l ∈ M,l ∈ L) -> Cx N s -> x ∈ s.1 -> (∀ y:Nat,gi s.2 y ≠ 0 -> gi s.2 y = gi c y) -> ∃ s',clV M x s = some s' /\ (∀ y:Nat,gi s'.2 y ≠ 0 -> gi s'.2 y = gi c y)
 | [],s,_,h,_,he=>⟨s,rfl,he⟩
 | l :: M,s,hM,h,hx,he=>by
  have hl:=hM l (by simp)
  have hxl:=h.lt x hx
  have l1:=(hv l hl).lt x.toNat (by omega)
  have l2:=(hv l hl).nn x.toNat
  have l3:gi l x.toNat = (fp l x.toNat:Int):=by unfold fp; omega
  have hcx:=h.cl hN hx
  have ecx:=he x.toNat (by omega)
  have ecn:=hc.ne x.toNat (by omega) l hl
  obtain ⟨t,e1,he'⟩:∃ t,cst (gi l x.toNat) x s = some t /\ ∀ y:Nat,gi t.2 y ≠ 0 -> gi t.2 y = gi c y:=by
   unfold cst
   split
   ·rename_i h0
    refine ⟨_,rfl,fun y hy=>?_⟩
    simp only at hy ⊢
    rw[gi_set] at hy ⊢
    split
    ·rename_i q
     rw[l3,Int.toNat_natCast] at q
     rw[<-q.1,ecn,ecx]
    ·rename_i q
     rw[if_neg q] at hy
     exact he y hy
   ·rename_i h0
    split
    ·rename_i h1
     have:=he (gi l x.toNat).toNat h0
     rw[l3,Int.toNat_natCast] at this h1
     rw[l3,Int.toNat_natCast] at h0
     omega
    ·exact ⟨s,rfl,he⟩
  obtain ⟨c1,c2,c3⟩:=cst_ok hN h hx (by omega) e1
  obtain ⟨s',e2,he2⟩:=clV_some hN hv hc M (s:=t) (fun l hl=>hM l (by simp[hl])) c1 (c2.mem hx) he'
  exact ⟨s',by simp only[clV]; rw[e1]; exact e2,he2⟩
theorem clRun_some {c:List Int} (hN:N <= 32) (hv:Ivs L N) (hc:Clr L N c):∀ (f k:Nat) {s:Cst},Cx N s -> (∀ y:Nat,gi s.2 y ≠ 0 -> gi s.2 y = gi c y) -> ∃ s',clRun L f k s = some s' /\ (∀ y:Nat,gi s'.2 y ≠ 0 -> gi s'.2 y = gi c y)
 | 0,k,s,h,he=>⟨s,rfl,he⟩
 | f + 1,k,s,h,he=>by
  simp only[clRun]
  split
  ·rename_i hlt
   have hz:gi s.1 k ∈ s.1:=by rw[gi_of hlt]; exact List.getElem_mem hlt
   obtain ⟨t,e1,he1⟩:=clV_some hN hv hc L (fun l hl=>hl) h hz he
   obtain ⟨c1,c2,c3⟩:=clV_ok hN hv L (fun l hl=>hl) h hz e1
   obtain ⟨s',e2,he2⟩:=clRun_some hN hv hc f (k + 1) c1 he1
   exact ⟨s',by rw[e1]; exact e2,he2⟩
  ·exact ⟨s,rfl,he⟩
theorem clsR_some {c:List Int} (hN:N <= 32) (h0:0 < N) (hv:Ivs L N) (hall:∀ x,x < N -> Rl L 0 x) (hc:Clr L N c):∃ q,clsR L = some (q,c):=by
 obtain ⟨s',e,he⟩:=clRun_some hN hv hc 33 0 (Cx.zero h0) fun y hy=>by
  have:y = 0:=Classical.byContradiction fun q=>hy (by
   unfold cls0; rw[gi_set,if_neg fun z=>q z.1.symm,gi_rep]; split <;> rfl)
  subst this
  rw[hc.z]; rfl
 have C:=clsR_col hN h0 hv hall e
 have:s'.2 = c:=gi_ext (by rw[C.l2,hc.l2]) fun j hj=>by
  by_cases q:j < N
  ·exact he j (by have:=C.vs j q; omega)
  ·rw[C.out j (by omega),hc.out j (by omega)]
 exact ⟨s'.1,by rw[<-this]; exact e⟩
end
end
section
set_option maxHeartbeats 4000000
section
variable {L:List (List Int)} {N:Nat} {s t:Cst} {x:Int}
theorem drop_gl {j:Nat} (hj:j < L.length):L.drop j = gl L j :: L.drop (j + 1):=by rw[gl_of hj,<-List.drop_eq_getElem_cons hj]
structure Ci (L:List (List Int)) (N k:Nat) (x:Int) (j:Nat) (t:Cst):Prop where
 jl:j <= L.length
 cx:Cx N t
 kl:k < t.1.length
 xe:gi t.1 k = x
 e:(clV (L.drop j) x t).bind (clRun L (32 - k) (k + 1)) = clsR L
theorem Ci.mem {k j:Nat} (h:Ci L N k x j t):x ∈ t.1:=by rw[<-h.xe,gi_of h.kl]; exact List.getElem_mem _
theorem Ci.step {k j:Nat} {t':Cst} (hN:N <= 32) (hv:Ivs L N) (h:Ci L N k x j t) (hj:j < L.length) (e:cst (gi (gl L j) x.toNat) x t = some t'):Ci L N k x (j + 1) t':=by
 have hx:=h.cx.lt x h.mem
 obtain ⟨c1,c2,c3⟩:=cst_ok hN h.cx h.mem (row_lt hv hj hx) e
 refine ⟨hj,c1,Nat.lt_of_lt_of_le h.kl c2.le,by rw[c2.eq k h.kl]; exact h.xe,?_⟩
 have:=h.e
 rw[drop_gl hj] at this
 simp only[clV] at this
 rw[e] at this
 exact this
theorem Ci.none {k j:Nat} (h:Ci L N k x j t) (hj:j < L.length) (e:cst (gi (gl L j) x.toNat) x t = Option.none):clsR L = Option.none:=by
 have:=h.e
 rw[drop_gl hj] at this
 simp only[clV] at this
 rw[e] at this
 exact this.symm
end
end
section
set_option maxHeartbeats 4000000
def euF (n:Int) (C T S:List Int):Int:=(obs [T,S] n.toNat).length - (obs [C,S] n.toNat).length + (obs [T,C] n.toNat).length
end
section
set_option maxHeartbeats 4000000
def nbC (c:List Int) (s:Nat):Int:=smE s fun x=>if gi c x = 1 then 1 else 0
def nbT (c:List Int):Nat -> List Int
 | 0=>List.replicate 32 0
 | s + 1=>if gi c s = 1 then (nbT c s).set s (nbC c s) else nbT c s
section
variable {c:List Int} {N:Nat}
theorem nbT_len:∀ s,(nbT c s).length = 32
 | 0=>by simp[nbT]
 | s + 1=>by simp only[nbT]; split <;> simp[nbT_len s]
theorem nbC_succ {s:Nat}:nbC c (s + 1) = nbC c s + if gi c s = 1 then 1 else 0:=rfl
theorem nbC_nn:∀ s,0 <= nbC c s
 | 0=>Int.le_refl _
 | s + 1=>by have:=nbC_nn s; rw[nbC_succ]; split <;> omega
theorem nbC_mono {s t:Nat} (h:s <= t):nbC c s <= nbC c t:=by
 induction t with
 | zero=>rw[Nat.le_zero.1 h]; exact Int.le_refl _
 | succ t ih =>
  by_cases e:s = t + 1
  ·subst e; exact Int.le_refl _
  ·have:=ih (by omega)
   rw[nbC_succ]; split <;> omega
theorem nbC_lt {s t:Nat} (h:s < t) (h1:gi c s = 1):nbC c s < nbC c t:=by
 have:=nbC_mono (c:=c) (show s + 1 <= t from h)
 rw[nbC_succ,if_pos h1] at this
 omega
theorem nbC_inj {s t:Nat} (hs:gi c s = 1) (ht:gi c t = 1) (e:nbC c s = nbC c t):s = t:=by
 rcases Nat.lt_trichotomy s t with q | q | q
 ·have:=nbC_lt q hs; omega
 ·exact q
 ·have:=nbC_lt q ht; omega
theorem nbC_onto {j:Nat}:∀ s,(j:Int) < nbC c s -> ∃ x,x < s /\ gi c x = 1 /\ nbC c x = j
 | 0,h=>by have:nbC c 0 = 0:=rfl; omega
 | s + 1,h=>by
  by_cases q:(j:Int) < nbC c s
  ·obtain ⟨x,hx,h1,h2⟩:=nbC_onto s q
   exact ⟨x,by omega,h1,h2⟩
  ·rw[nbC_succ] at h
   split at h
   ·rename_i h1
    exact ⟨s,by omega,h1,by omega⟩
   ·omega
theorem nbT_at {y:Nat}:∀ s,s <= 32 -> gi (nbT c s) y = if y < s /\ gi c y = 1 then nbC c y else 0
 | 0,_=>by simp only[nbT]; rw[gi_rep]; simp
 | s + 1,hs=>by
  simp only[nbT]
  split
  ·rename_i h1
   rw[gi_set,nbT_len,nbT_at s (by omega)]
   by_cases e:s = y
   ·subst e; rw[if_pos ⟨rfl,by omega⟩,if_pos ⟨by omega,h1⟩]
   ·rw[if_neg fun q=>e q.1]
    by_cases q:y < s /\ gi c y = 1
    ·rw[if_pos q,if_pos ⟨by omega,q.2⟩]
    ·rw[if_neg q,if_neg fun z=>q ⟨by omega,z.2⟩]
  ·rename_i h1
   rw[nbT_at s (by omega)]
   by_cases q:y < s /\ gi c y = 1
   ·rw[if_pos q,if_pos ⟨by omega,q.2⟩]
   ·rw[if_neg q,if_neg fun z=>q ⟨by
     by_cases e:y = s
     ·subst e; exact absurd z.2 h1
     ·omega,z.2⟩]
theorem Clr.half {L:List (List Int)} {l:List Int} (h:Clr L N c) (hl:l ∈ L) (iv:Iv l N):2 * nbC c N = N:=by
 have e1:smE N (fun x=>if gi c (fp l x) = 1 then (1:Int) else 0) = smE N fun x=>if gi c x = 1 then 1 else 0:=smE_iv iv (g:=fun x=>if gi c x = 1 then (1:Int) else 0)
 have e2:smE N (fun x=>(if gi c x = 1 then (1:Int) else 0) + if gi c (fp l x) = 1 then (1:Int) else 0) = smE N fun _=>1:=smE_congr _ fun x hx=>by
  have h1:=h.vs x hx
  have h2:=h.ne x hx l hl
  rcases h1 with h1 | h1
  ·rw[if_pos h1,if_neg (by omega)]; rfl
  ·rw[if_neg (by omega),if_pos (by omega)]; rfl
 rw[smE_add,e1,smE_const] at e2
 unfold nbC
 omega
end
def mpL (c X S ν:List Int):Nat -> List Int
 | 0=>List.replicate 16 0
 | s + 1=>if gi c s = 1 then (mpL c X S ν s).set (gi ν s).toNat (gi ν (gi X (gi S s).toNat).toNat) else mpL c X S ν s
theorem mpL_len {c X S ν:List Int}:∀ s,(mpL c X S ν s).length = 16
 | 0=>by simp[mpL]
 | s + 1=>by simp only[mpL]; split <;> simp[mpL_len s]
def mpB (c X S:List Int) (N:Nat):List Int:=mpL c X S (nbT c N) N
section
variable {n:Int} {C T S:List Int}
theorem Fls.col (F:Fls n C T S) {s:Cst} (e:clsR [C,T,S] = some s):Clr [C,T,S] n.toNat s.2:=clsR_col F.h32.1 (by have:=F.h32; omega) (ivs3 F.iC F.iT F.iS) F.all e
theorem Fls.half (F:Fls n C T S) {c:List Int} (h:Clr [C,T,S] n.toNat c):2 * nbC c n.toNat = n:=by
 have:=h.half (l:=S) (by simp) F.iS
 have:=F.h32
 omega
theorem Fls.nb16 (F:Fls n C T S) {c:List Int} (h:Clr [C,T,S] n.toNat c) {s y:Nat} (hs:s <= n.toNat):0 <= gi (nbT c s) y /\ gi (nbT c s) y < 16:=by
 have h32:=F.h32
 rw[nbT_at s (by omega)]
 split
 ·rename_i q
  have:=nbC_nn (c:=c) y
  have:=nbC_lt (c:=c) (show y < n.toNat by omega) q.2
  have:=F.half h
  omega
 ·omega
end
end
section
set_option maxHeartbeats 4000000
end
section
set_option maxHeartbeats 4000000
theorem fl32_set {l:List Int} {i:Nat} {a:Int} (h:fl32 l) (ha:0 <= a /\ a < 32):fl32 (l.set i a):=⟨by simp[h.1],fun j hj=>by
 rw[gi_set]; split
 ·exact ha
 ·exact h.2 j hj⟩
theorem fl32_zero:fl32 (List.replicate 32 0):=⟨by simp,fun i hi=>by rw[gi_rep]; split <;> omega⟩
theorem fgC_lo {w:List Int} (hw:lo16 w):∀ s,s <= 16 -> fl32 (fgC w s)
 | 0,_=>fl32_zero
 | s + 1,hs=>by
  have:=hw.2 s (by omega)
  exact fl32_set (fl32_set (fgC_lo hw s (by omega)) (by omega)) (by omega)
theorem fgS_lo:∀ s,s <= 16 -> fl32 (fgS s)
 | 0,_=>fl32_zero
 | s + 1,hs=>fl32_set (fl32_set (fgS_lo s (by omega)) (by omega)) (by omega)
theorem fgT_lo {b:List Int} (hb:lo16 b):∀ s,s <= 16 -> fl32 (fgT b s)
 | 0,_=>fl32_zero
 | s + 1,hs=>by
  have:=hb.2 s (by omega)
  exact fl32_set (fl32_set (fgT_lo hb s (by omega)) (by omega)) (by omega)
end
section
set_option linter.unusedSectionVars false
set_option maxHeartbeats 1000000
section
variable {n:Int} {C T S c X:List Int}
theorem mpL_at {ν:List Int} (hinj:∀ x y,x < 32 -> y < 32 -> gi c x = 1 -> gi c y = 1 -> (gi ν x).toNat = (gi ν y).toNat -> x = y) (hν:∀ y,0 <= gi ν y /\ gi ν y < 16) {y:Nat} (hy:y < 32) (h1:gi c y = 1):∀ s,s <= 32 ->
  gi (mpL c X S ν s) (gi ν y).toNat = if y < s then gi ν (gi X (gi S y).toNat).toNat else 0
 | 0,_=>by simp only[mpL]; rw[gi_rep]; simp
 | s + 1,hs=>by
  have ih:=mpL_at hinj hν hy h1 s (by omega)
  simp only[mpL]
  split
  ·rename_i h2
   rw[gi_set,mpL_len,ih]
   by_cases e:s = y
   ·subst e
    rw[if_pos ⟨rfl,by have:=hν s; omega⟩,if_pos (by omega)]
   ·rw[if_neg fun q=>e (hinj s y (by omega) hy h2 h1 q.1)]
    by_cases q:y < s
    ·rw[if_pos q,if_pos (by omega)]
    ·rw[if_neg q,if_neg (by omega)]
  ·rename_i h2
   rw[ih]
   have:s ≠ y:=fun e=>h2 (e ▸ h1)
   by_cases q:y < s
   ·rw[if_pos q,if_pos (by omega)]
   ·rw[if_neg q,if_neg (by omega)]
theorem mpL_out {ν:List Int} {j:Nat} (h:∀ x,x < 32 -> gi c x = 1 -> (gi ν x).toNat ≠ j):∀ s,s <= 32 -> gi (mpL c X S ν s) j = 0
 | 0,_=>by simp only[mpL]; rw[gi_rep]; split <;> rfl
 | s + 1,hs=>by
  have ih:=mpL_out h s (by omega)
  simp only[mpL]
  split
  ·rename_i h2
   rw[gi_set,if_neg fun q=>h s (by omega) h2 q.1,ih]
  ·exact ih
theorem mpL_vals {ν:List Int} (hν:∀ y,0 <= gi ν y /\ gi ν y < 16) {j:Nat}:∀ s,0 <= gi (mpL c X S ν s) j /\ gi (mpL c X S ν s) j < 16
 | 0=>by simp only[mpL]; rw[gi_rep]; split <;> omega
 | s + 1=>by
  have ih:=mpL_vals hν (j:=j) s
  simp only[mpL]
  split
  ·rw[gi_set]; split
   ·exact hν _
   ·exact ih
  ·exact ih
structure Fmp (n:Int) (C T S c:List Int):Prop where
 F:Fls n C T S
 col:Clr [C,T,S] n.toNat c
variable (h:Fmp n C T S c)
include h
theorem Fmp.half:2 * nbC c n.toNat = n:=h.F.half h.col
theorem Fmp.lt1 {x:Nat} (h1:gi c x = 1):x < n.toNat:=Classical.byContradiction fun q=>by
 have:=h.col.out x (by omega); omega
theorem Fmp.nu {x:Nat} (h1:gi c x = 1):gi (nbT c n.toNat) x = nbC c x:=by
 rw[nbT_at _ h.F.h32.1,if_pos ⟨h.lt1 h1,h1⟩]
theorem Fmp.nu16 (y:Nat):0 <= gi (nbT c n.toNat) y /\ gi (nbT c n.toNat) y < 16:=h.F.nb16 h.col (Nat.le_refl _)
theorem Fmp.inj:∀ x y,x < 32 -> y < 32 -> gi c x = 1 -> gi c y = 1 -> (gi (nbT c n.toNat) x).toNat = (gi (nbT c n.toNat) y).toNat -> x = y:=fun x y _ _ hx hy e=>by
 rw[h.nu hx,h.nu hy] at e
 exact nbC_inj hx hy (by have:=nbC_nn (c:=c) x; have:=nbC_nn (c:=c) y; omega)
theorem Fmp.i1 {x:Nat} (h1:gi c x = 1):(nbC c x).toNat < (nbC c n.toNat).toNat:=by
 have:=nbC_lt (h.lt1 h1) h1
 have:=nbC_nn (c:=c) x
 omega
structure Fx (n:Int) (C T S X:List Int):Prop where
 m:X ∈ [C,T,S]
 iv:Iv X n.toNat
theorem Fmp.fc:Fx n C T S C:=⟨by simp,h.F.iC⟩
theorem Fmp.ft:Fx n C T S T:=⟨by simp,h.F.iT⟩
theorem Fmp.fs:Fx n C T S S:=⟨by simp,h.F.iS⟩
theorem Fmp.flip {x:Nat} (k:Fx n C T S X) (hx:x < n.toNat):gi c (fp X x) = 3 - gi c x:=h.col.ne x hx X k.m
theorem Fmp.xs1 {x:Nat} (k:Fx n C T S X) (h1:gi c x = 1):gi c (fp X (fp S x)) = 1:=by
 have hx:=h.lt1 h1
 rw[h.flip k (h.F.iS.lt x hx),h.flip h.fs hx]; omega
theorem Fmp.val {x:Nat} (k:Fx n C T S X) (h1:gi c x = 1):gi (mpB c X S n.toNat) (nbC c x).toNat = nbC c (fp X (fp S x)):=by
 have hx:=h.lt1 h1
 have h32:=h.F.h32
 have e:=mpL_at (X:=X) (S:=S) h.inj h.nu16 (y:=x) (by omega) h1 n.toNat h32.1
 rw[h.nu h1,if_pos hx] at e
 unfold mpB
 rw[e]
 have:=h.nu (h.xs1 k h1)
 unfold fp at this ⊢
 rw[this]
theorem Fmp.lo (X:List Int):lo16 (mpB c X S n.toNat):=⟨mpL_len _,fun i _=>mpL_vals h.nu16 _⟩
theorem Fmp.vfp {x:Nat} (k:Fx n C T S X) (h1:gi c x = 1):fp (mpB c X S n.toNat) (nbC c x).toNat = (nbC c (fp X (fp S x))).toNat:=by
 unfold fp
 have:=h.val k h1
 unfold fp at this
 rw[this]
theorem Fmp.onto {j:Nat} (hj:j < (nbC c n.toNat).toNat):∃ x,gi c x = 1 /\ (nbC c x).toNat = j:=by
 obtain ⟨x,_,h1,h2⟩:=nbC_onto (c:=c) (j:=j) n.toNat (by omega)
 exact ⟨x,h1,by omega⟩
theorem Fmp.hn:1 <= nbC c n.toNat /\ nbC c n.toNat <= 16:=by have:=h.half; have:=h.F.F.hn; omega
theorem Fmp.pf (k:Fx n C T S X):Pf (mpB c X S n.toNat) (nbC c n.toNat).toNat:=by
 refine ⟨fun j hj=>?_,fun i j hi hj e=>?_,by have:=h.hn; omega⟩
 ·obtain ⟨x,h1,rfl⟩:=h.onto hj
  rw[h.vfp k h1]
  exact h.i1 (h.xs1 k h1)
 ·obtain ⟨x,h1,rfl⟩:=h.onto hi
  obtain ⟨y,h2,rfl⟩:=h.onto hj
  rw[h.vfp k h1,h.vfp k h2] at e
  have a1:=nbC_nn (c:=c) (fp X (fp S x))
  have a2:=nbC_nn (c:=c) (fp X (fp S y))
  have e1:=nbC_inj (h.xs1 k h1) (h.xs1 k h2) (by omega)
  have hx:=h.lt1 h1
  have hy:=h.lt1 h2
  have e2:fp S x = fp S y:=by
   rw[<-k.iv.iv _ (h.F.iS.lt x hx),<-k.iv.iv _ (h.F.iS.lt y hy),e1]
  have e3:x = y:=by rw[<-h.F.iS.iv x hx,<-h.F.iS.iv y hy,e2]
  rw[e3]
theorem Fmp.out (X:List Int) {j:Nat} (hj:nbC c n.toNat <= j):gi (mpB c X S n.toNat) j = 0:=mpL_out (fun x _ h1 e=>by
 rw[h.nu h1] at e
 have:=h.i1 h1
 omega) n.toNat h.F.h32.1
theorem Fmp.pd (k:Fx n C T S X):Pd (mpB c X S n.toNat) (nbC c n.toNat) /\ isPm (mpB c X S n.toNat) (nbC c n.toNat) :=
 ⟨pd_of h.hn (h.lo X) (h.pf k),isPm_of h.hn (h.lo X) (h.pf k) fun j hj=>h.out X hj⟩
theorem Fmp.dz:Dz (nbC c n.toNat) (mpB c T S n.toNat) (mpB c C S n.toNat):=dz_of (h.pd h.ft).1 (h.pd h.fc).1 (h.pd h.ft).2 (h.pd h.fc).2 fun Q h0 hB hW=>by
 have h32:=h.F.h32
 have z1:gi c 0 = 1:=h.col.z
 have key:∀ y,y < n.toNat -> (gi c y = 1 -> Q (nbC c y).toNat) /\ (gi c y = 2 -> Q (nbC c (fp S y)).toNat):=fun y hy=>by
  have r:=h.F.all y hy
  induction r with
  | refl=>exact ⟨fun _=>h0,fun e=>by omega⟩
  | @step y l r hl ih =>
   have hyN:y < n.toNat:=r.lt (ivs3 h.F.iC h.F.iT h.F.iS) (by omega)
   obtain ⟨i1,i2⟩:=ih hyN
   have hv:=h.col.vs y hyN
   have hsy:=h.F.iS.lt y hyN
   have hss:=h.F.iS.iv y hyN
   have fS:=h.flip h.fs hyN
   -- what 'X' does,where 'X S' is one of the permutations
   have gen:∀ {X:List Int} (k:Fx n C T S X),(∀ x,x < (nbC c n.toNat).toNat -> Q x -> Q (fp (mpB c X S n.toNat) x)) -> (gi c (fp X y) = 1 -> Q (nbC c (fp X y)).toNat) /\ (gi c (fp X y) = 2 -> Q (nbC c (fp S (fp X y))).toNat):=fun {X} k hX=>by
    have hXy:=k.iv.lt y hyN
    have fX:=h.flip k hyN
    constructor
    ·intro e
     have e2:gi c y = 2:=by omega
     have s1:gi c (fp S y) = 1:=by omega
     have:=hX _ (h.i1 s1) (i2 e2)
     rw[h.vfp k s1,hss] at this
     exact this
    ·intro e
     have e1:gi c y = 1:=by omega
     have s1:gi c (fp S (fp X y)) = 1:=by rw[h.flip h.fs hXy]; omega
     refine cl_back (h.pf k) hX (h.i1 s1) ?_
     rw[h.vfp k s1,h.F.iS.iv _ hXy,k.iv.iv y hyN]
     exact i1 e1
   simp only[List.mem_cons,List.not_mem_nil,or_false] at hl
   rcases hl with rfl | rfl | rfl
   ·exact gen h.fc hW
   ·exact gen h.ft hB
   ·constructor
    ·intro e; exact i2 (by omega)
    ·intro e
     rw[hss]; exact i1 (by omega)
 intro x hx
 obtain ⟨y,h1,rfl⟩:=h.onto hx
 exact (key y (h.lt1 h1)).1 h1
end
end
section
set_option linter.unusedSectionVars false
set_option maxHeartbeats 1000000
section
variable {b w:List Int} {n:Int}
theorem fgC_at {y:Nat}:∀ s,s <= 16 -> gi (fgC w s) y = if y < 2 * s then (if y % 2 = 0 then 2 * gi w (y / 2) + 1 else 2 * gi w (y / 2)) else 0
 | 0,_=>by simp only[fgC]; rw[gi_rep]; simp
 | s + 1,hs=>by
  have l:=fgC_len (w:=w) s
  have e:fgC w (s + 1) = ((fgC w s).set (2 * s) (2 * gi w s + 1)).set (2 * s + 1) (2 * gi w s):=rfl
  rw[e,gi_set,gi_set,List.length_set,l,fgC_at s (by omega)]
  by_cases e1:2 * s + 1 = y
  ·subst e1
   rw[if_pos ⟨rfl,by omega⟩,if_pos (by omega),if_neg (by omega),show (2 * s + 1) / 2 = s by omega]
  ·rw[if_neg fun q=>e1 q.1]
   by_cases e2:2 * s = y
   ·subst e2
    rw[if_pos ⟨rfl,by omega⟩,if_pos (by omega),if_pos (by omega),show 2 * s / 2 = s by omega]
   ·rw[if_neg fun q=>e2 q.1]
    by_cases q:y < 2 * s
    ·rw[if_pos q,if_pos (show y < 2 * (s + 1) by omega)]
    ·rw[if_neg q,if_neg (by omega)]
theorem fgS_at {y:Nat}:∀ s,s <= 16 -> gi (fgS s) y = if y < 2 * s then (if y % 2 = 0 then (y:Int) + 1 else (y:Int) - 1) else 0
 | 0,_=>by simp only[fgS]; rw[gi_rep]; simp
 | s + 1,hs=>by
  have l:=fgS_len s
  have e:fgS (s + 1) = ((fgS s).set (2 * s) (2 * s + 1)).set (2 * s + 1) (2 * s):=rfl
  rw[e,gi_set,gi_set,List.length_set,l,fgS_at s (by omega)]
  by_cases e1:2 * s + 1 = y
  ·subst e1
   rw[if_pos ⟨rfl,by omega⟩,if_pos (by omega),if_neg (by omega)]; omega
  ·rw[if_neg fun q=>e1 q.1]
   by_cases e2:2 * s = y
   ·subst e2
    rw[if_pos ⟨rfl,by omega⟩,if_pos (by omega),if_pos (by omega)]; omega
   ·rw[if_neg fun q=>e2 q.1]
    by_cases q:y < 2 * s
    ·rw[if_pos q,if_pos (show y < 2 * (s + 1) by omega)]
    ·rw[if_neg q,if_neg (by omega)]
structure Cl (n:Int) (b w:List Int):Prop where
 Z:Dz n b w
 pr:∀ x,x < n.toNat -> fp w x ≠ x /\ fp w (fp w x) = x
variable (h:Cl n b w)
include h
theorem Cl.nn:1 <= n.toNat /\ n.toNat <= 16 /\ ((n.toNat:Nat):Int) = n /\ (2 * n).toNat = 2 * n.toNat:=by have:=h.Z.B.hn; omega
theorem Cl.bl {x:Nat} (hx:x < n.toNat):fp b x < n.toNat:=h.Z.B.pf.lt x hx
theorem Cl.wl {x:Nat} (hx:x < n.toNat):fp w x < n.toNat:=h.Z.W.pf.lt x hx
theorem Cl.gb (x:Nat):gi b x = (fp b x:Int):=fp_nn h.Z.B.lo x
theorem Cl.gw (x:Nat):gi w x = (fp w x:Int):=fp_nn h.Z.W.lo x
theorem Cl.c0 {x:Nat} (hx:x < n.toNat):fp (fgC w n.toNat) (2 * x) = 2 * fp w x + 1:=by
 have:=h.nn
 unfold fp
 rw[fgC_at _ (by omega),if_pos (by omega),if_pos (by omega),show 2 * x / 2 = x by omega,h.gw]; omega
theorem Cl.c1 {x:Nat} (hx:x < n.toNat):fp (fgC w n.toNat) (2 * x + 1) = 2 * fp w x:=by
 have:=h.nn
 unfold fp
 rw[fgC_at _ (by omega),if_pos (by omega),if_neg (by omega),show (2 * x + 1) / 2 = x by omega,h.gw]; omega
theorem Cl.s0 {x:Nat} (hx:x < n.toNat):fp (fgS n.toNat) (2 * x) = 2 * x + 1:=by
 have:=h.nn
 unfold fp
 rw[fgS_at _ (by omega),if_pos (by omega),if_pos (by omega)]; omega
theorem Cl.s1 {x:Nat} (hx:x < n.toNat):fp (fgS n.toNat) (2 * x + 1) = 2 * x:=by
 have:=h.nn
 unfold fp
 rw[fgS_at _ (by omega),if_pos (by omega),if_neg (by omega)]; omega
theorem Cl.tAt:∀ s,s <= n.toNat -> (∀ y,y < s -> gi (fgT b s) (2 * y + 1) = 2 * fp b y) /\ (∀ y,y < s -> gi (fgT b s) (2 * fp b y) = 2 * y + 1) /\ ∀ i,2 * n.toNat <= i -> gi (fgT b s) i = 0
 | 0,_=>⟨fun y hy=>absurd hy (Nat.not_lt_zero y),fun y hy=>absurd hy (Nat.not_lt_zero y),fun i _=>by simp only[fgT]; rw[gi_rep]; split <;> rfl⟩
 | s + 1,hs=>by
  obtain ⟨i1,i2,i3⟩:=Cl.tAt s (by omega)
  have l:=fgT_len (b:=b) s
  have nn:=h.nn
  have hb:=h.bl (x:=s) (by omega)
  have eg:(gi b s).toNat = fp b s:=rfl
  have e:fgT b (s + 1) = ((fgT b s).set (2 * s + 1) (2 * gi b s)).set (2 * fp b s) (2 * s + 1):=rfl
  rw[e,h.gb]
  refine ⟨fun y hy=>?_,fun y hy=>?_,fun i hi=>?_⟩
  ·rw[gi_set,if_neg (by omega),gi_set,l]
   by_cases e1:y = s
   ·subst e1; rw[if_pos ⟨rfl,by omega⟩]
   ·rw[if_neg (by omega),i1 y (by omega)]
  ·rw[gi_set,List.length_set,l]
   by_cases e1:y = s
   ·subst e1; rw[if_pos ⟨rfl,by omega⟩]
   ·rw[if_neg fun q=>e1 (h.Z.B.pf.inj y s (by omega) (by omega) (by omega)),gi_set,if_neg (by omega),i2 y (by omega)]
  ·rw[gi_set,if_neg (by omega),gi_set,if_neg (by omega),i3 i hi]
theorem Cl.t1 {x:Nat} (hx:x < n.toNat):fp (fgT b n.toNat) (2 * x + 1) = 2 * fp b x:=by
 have:=(h.tAt n.toNat (Nat.le_refl _)).1 x hx
 unfold fp at this ⊢
 rw[this]; omega
theorem Cl.t0 {x:Nat} (hx:x < n.toNat):fp (fgT b n.toNat) (2 * fp b x) = 2 * x + 1:=by
 have:=(h.tAt n.toNat (Nat.le_refl _)).2.1 x hx
 show (gi _ _).toNat = _
 rw[this]; omega
theorem Cl.cases {y:Nat} (hy:y < 2 * n.toNat):∃ x,x < n.toNat /\ (y = 2 * x ∨ y = 2 * x + 1):=⟨y / 2,by omega,by omega⟩
theorem Cl.casesT {y:Nat} (hy:y < 2 * n.toNat):∃ x,x < n.toNat /\ (y = 2 * fp b x ∨ y = 2 * x + 1):=by
 obtain ⟨x,hx,e | e⟩:=h.cases hy
 ·obtain ⟨z,hz,rfl⟩:=h.Z.B.pf.onto hx
  exact ⟨z,hz,.inl e⟩
 ·exact ⟨x,hx,.inr e⟩
theorem Cl.lC:fl32 (fgC w n.toNat):=fgC_lo h.Z.W.lo _ h.nn.2.1
theorem Cl.lT:fl32 (fgT b n.toNat):=fgT_lo h.Z.B.lo _ h.nn.2.1
theorem Cl.lS:fl32 (fgS n.toNat):=fgS_lo _ h.nn.2.1
omit h in
theorem fl32.nn {l:List Int} (hl:fl32 l) (x:Nat):0 <= gi l x:=by
 by_cases q:x < 32
 ·exact (hl.2 x q).1
 ·rw[gi_over (by rw[hl.1]; omega)]; omega
theorem Cl.iC:Iv (fgC w n.toNat) (2 * n).toNat:=by
 obtain ⟨_,_,_,e⟩:=h.nn
 rw[e]
 refine ⟨fun y hy=>?_,fun y hy=>?_,fun y hy=>?_,h.lC.nn⟩
 all_goals
  obtain ⟨x,hx,rfl | rfl⟩:=h.cases hy
  all_goals
   have hw:=h.wl hx
   obtain ⟨p1,p2⟩:=h.pr x hx
 ·rw[h.c0 hx]; omega
 ·rw[h.c1 hx]; omega
 ·rw[h.c0 hx]; omega
 ·rw[h.c1 hx]; omega
 ·rw[h.c0 hx,h.c1 hw,p2]
 ·rw[h.c1 hx,h.c0 hw,p2]
theorem Cl.iS:Iv (fgS n.toNat) (2 * n).toNat:=by
 obtain ⟨_,_,_,e⟩:=h.nn
 rw[e]
 refine ⟨fun y hy=>?_,fun y hy=>?_,fun y hy=>?_,h.lS.nn⟩
 all_goals obtain ⟨x,hx,rfl | rfl⟩:=h.cases hy
 ·rw[h.s0 hx]; omega
 ·rw[h.s1 hx]; omega
 ·rw[h.s0 hx]; omega
 ·rw[h.s1 hx]; omega
 ·rw[h.s0 hx,h.s1 hx]
 ·rw[h.s1 hx,h.s0 hx]
theorem Cl.iT:Iv (fgT b n.toNat) (2 * n).toNat:=by
 obtain ⟨_,_,_,e⟩:=h.nn
 rw[e]
 refine ⟨fun y hy=>?_,fun y hy=>?_,fun y hy=>?_,h.lT.nn⟩
 all_goals
  obtain ⟨x,hx,rfl | rfl⟩:=h.casesT hy
  all_goals have hb:=h.bl hx
 ·rw[h.t0 hx]; omega
 ·rw[h.t1 hx]; omega
 ·rw[h.t0 hx]; omega
 ·rw[h.t1 hx]; omega
 ·rw[h.t0 hx,h.t1 hx]
 ·rw[h.t1 hx,h.t0 hx]
theorem Cl.ev:n % 2 = 0:=by
 have iv:Iv w n.toNat:=⟨fun x hx=>h.wl hx,fun x hx=>(h.pr x hx).1,fun x hx=>(h.pr x hx).2,lo16_nn h.Z.W.lo⟩
 have:=smE_even iv (g:=fun _=>1) fun x hx=>rfl
 rw[smE_const] at this
 have:=h.nn
 omega
theorem Cl.toDart {L:List (List Int)} {y:Nat} (hs:fgS n.toNat ∈ L) (hy:y < 2 * n.toNat):Rl L y (2 * (y / 2)):=by
 obtain ⟨x,hx,rfl | rfl⟩:=h.cases hy
 ·rw[show 2 * x / 2 = x by omega]; exact .refl
 ·have:=Rl.one (L:=L) (x:=2 * x + 1) hs
  rw[h.s1 hx] at this
  rw[show (2 * x + 1) / 2 = x by omega]; exact this
theorem Cl.fls:Fls (2 * n) (fgC w n.toNat) (fgT b n.toNat) (fgS n.toNat):=by
 obtain ⟨n1,n2,n3,e⟩:=h.nn
 have ev:=h.ev
 have iC:=h.iC
 have iT:=h.iT
 have iS:=h.iS
 have out:∀ {l:List Int},(∀ x:Nat,2 * n.toNat <= x -> gi l x = 0) -> ∀ x:Nat,2 * n <= x -> gi l x = 0:=fun hl x hx=>hl x (by omega)
 have pC:Prs (fgC w n.toNat) (2 * n):=Prs.of iC (out fun x hx=>by rw[fgC_at _ n2,if_neg (by omega)]) (by omega)
 have pS:Prs (fgS n.toNat) (2 * n):=Prs.of iS (out fun x hx=>by rw[fgS_at _ n2,if_neg (by omega)]) (by omega)
 have pT:Prs (fgT b n.toNat) (2 * n):=Prs.of iT (out fun x hx=>(h.tAt n.toNat (Nat.le_refl _)).2.2 x hx) (by omega)
 refine Fl.fo ⟨⟨by omega,by omega⟩,by omega,pC,pT,pS,fun y hy=>?_,fun y hy=>?_,?_⟩ h.lC.ok h.lT.ok h.lS.ok
 ·obtain ⟨x,hx,rfl | rfl⟩:=h.cases (y:=y) (by omega)
  ·have hw:=h.wl hx
   have a1:=h.c0 hx
   have a2:=h.s1 hw
   have a3:=h.s0 hx
   have a4:=h.c1 hx
   have b1:=h.lS.nn (2 * fp w x + 1)
   have b2:=h.lC.nn (2 * x + 1)
   rw[<-a1] at a2 b1
   rw[<-a3] at a4 b2
   unfold fp at *; omega
  ·have hw:=h.wl hx
   have a1:=h.c1 hx
   have a2:=h.s0 hw
   have a3:=h.s1 hx
   have a4:=h.c0 hx
   have b1:=h.lS.nn (2 * fp w x)
   have b2:=h.lC.nn (2 * x)
   rw[<-a1] at a2 b1
   rw[<-a3] at a4 b2
   unfold fp at *; omega
 ·obtain ⟨x,hx,rfl | rfl⟩:=h.cases (y:=y) (by omega)
  ·have hw:=h.wl hx
   obtain ⟨p1,p2⟩:=h.pr x hx
   have a1:=h.c0 hx
   have a2:=h.s1 hw
   rw[<-a1] at a2
   unfold fp at *; omega
  ·have hw:=h.wl hx
   obtain ⟨p1,p2⟩:=h.pr x hx
   have a1:=h.c1 hx
   have a2:=h.s0 hw
   rw[<-a1] at a2
   unfold fp at *; omega
 ·refine (obs_one (by omega) (by omega) (ivs3 iC iT iS)).2 fun y hy=>?_
  have hv:=ivs3 iC iT iS
  have key:∀ x,x < n.toNat -> Rl [fgC w n.toNat,fgT b n.toNat,fgS n.toNat] 0 (2 * x):=h.Z.alls .refl (fun x hx r=>by
   have r1:=r.step (l:=fgS n.toNat) (by simp)
   rw[h.s0 hx] at r1
   have r2:=r1.step (l:=fgT b n.toNat) (by simp)
   rw[h.t1 hx] at r2
   exact r2) fun x hx r=>by
   have r1:=r.step (l:=fgS n.toNat) (by simp)
   rw[h.s0 hx] at r1
   have r2:=r1.step (l:=fgC w n.toNat) (by simp)
   rw[h.c1 hx] at r2
   exact r2
  have hy2:y < 2 * n.toNat:=by omega
  have r1:=h.toDart (L:=[fgC w n.toNat,fgT b n.toNat,fgS n.toNat]) (by simp) hy2
  exact (key (y / 2) (by omega)).trans (r1.symm hv hy)
def clp (n:Int):List Int:=(List.range 32).map fun x:Nat=>if x < 2 * n.toNat then (if x % 2 = 0 then 1 else 2) else 0
omit h in
theorem clp_at {x:Nat} (hx:x < 32):gi (clp n) x = if x < 2 * n.toNat then (if x % 2 = 0 then 1 else 2) else 0:=by
 rw[gi_of (by simp[clp]; exact hx)]; simp[clp]
theorem Cl.col:Clr [fgC w n.toNat,fgT b n.toNat,fgS n.toNat] (2 * n).toNat (clp n):=by
 obtain ⟨n1,n2,n3,e⟩:=h.nn
 have z0:∀ x,x < n.toNat -> gi (clp n) (2 * x) = 1:=fun x hx=>by rw[clp_at (by omega),if_pos (by omega),if_pos (by omega)]
 have z1:∀ x,x < n.toNat -> gi (clp n) (2 * x + 1) = 2:=fun x hx=>by rw[clp_at (by omega),if_pos (by omega),if_neg (by omega)]
 rw[e]
 refine ⟨by simp[clp],z0 0 (by omega),fun y hy=>?_,fun y hy l hl=>?_,fun y hy=>?_⟩
 ·obtain ⟨x,hx,rfl | rfl⟩:=h.cases hy
  ·exact .inl (z0 x hx)
  ·exact .inr (z1 x hx)
 ·simp only[List.mem_cons,List.not_mem_nil,or_false] at hl
  rcases hl with rfl | rfl | rfl
  ·obtain ⟨x,hx,rfl | rfl⟩:=h.cases hy
   ·rw[h.c0 hx,z1 _ (h.wl hx),z0 x hx]; rfl
   ·rw[h.c1 hx,z0 _ (h.wl hx),z1 x hx]; rfl
  ·obtain ⟨x,hx,rfl | rfl⟩:=h.casesT hy
   ·rw[h.t0 hx,z1 x hx,z0 _ (h.bl hx)]; rfl
   ·rw[h.t1 hx,z0 _ (h.bl hx),z1 x hx]; rfl
  ·obtain ⟨x,hx,rfl | rfl⟩:=h.cases hy
   ·rw[h.s0 hx,z1 x hx,z0 x hx]; rfl
   ·rw[h.s1 hx,z0 x hx,z1 x hx]; rfl
 ·by_cases q:y < 32
  ·rw[clp_at q,if_neg (by omega)]
  ·rw[gi_over (by simp[clp]; omega)]
theorem Cl.some:∃ q,clsR [fgC w n.toNat,fgT b n.toNat,fgS n.toNat] = Option.some (q,clp n):=by
 have F:=h.fls
 exact clsR_some F.h32.1 (by have:=F.h32; omega) (ivs3 F.iC F.iT F.iS) F.all h.col
theorem Cl.one {x:Nat} (hx:x < n.toNat):gi (clp n) (2 * x) = 1:=by have:=h.nn; rw[clp_at (by omega),if_pos (by omega),if_pos (by omega)]
theorem Cl.kR {L:List (List Int)} {p:List Int} (hv:Ivs L (2 * n).toNat) (hp:Pf p n.toNat) (δ:Nat -> Nat) (d0:∀ x,x < n.toNat -> δ (2 * x) = x) (dl:∀ y,y < 2 * n.toNat -> δ y < n.toNat)
  (hst:∀ y,y < 2 * n.toNat -> ∀ l ∈ L,Rch p (δ y) (δ (fp l y))) (hb:∀ y,y < 2 * n.toNat -> Rl L y (2 * δ y)) (hq:∀ x,x < n.toNat -> Rl L (2 * x) (2 * fp p x)):Sep.kR (Rl L) (2 * n).toNat = Sep.kR (Rch p) n.toNat:=by
 obtain ⟨n1,n2,n3,e⟩:=h.nn
 refine kR_map (Rl.eqv hv) hp.eqv δ (fun x=>2 * x) (fun y hy=>dl y (by omega)) (fun x hx=>⟨by omega,d0 x hx⟩) fun i j hi hj=>⟨fun r=>?_,fun r=>?_⟩
 ·clear hj
  induction r with
  | refl=>exact .refl
  | step r hl ih=>exact ih.trans (hst _ (by have:=r.lt hv hi; omega) _ hl)
 ·have hi':i < 2 * n.toNat:=by omega
  have hj':j < 2 * n.toNat:=by omega
  obtain ⟨k,hk⟩:=r
  have key:∀ k,Rl L (2 * δ i) (2 * it p k (δ i)):=fun k=>by
   induction k with
   | zero=>exact .refl
   | succ k ih=>exact ih.trans (hq _ (it_lt hp (dl i hi') k))
  have:=key k
  rw[hk] at this
  exact ((hb i hi').trans this).trans ((hb j hj').symm hv hj)
theorem Cl.half:2 * ((cyc w n).length:Int) = n:=by
 obtain ⟨n1,n2,n3,e⟩:=h.nn
 have iv:Iv w n.toNat:=⟨fun x hx=>h.wl hx,fun x hx=>(h.pr x hx).1,fun x hx=>(h.pr x hx).2,lo16_nn h.Z.W.lo⟩
 have h1:=smE_even iv (g:=fun _=>1) fun x hx=>rfl
 rw[smE_const] at h1
 have h2:=h.Z.W.cyc_kR
 have h3:Sep.kR (Rch w) n.toNat = smE n.toNat fun x=>if x < fp w x then (1:Int) else 0:=by
  unfold Sep.kR
  refine smE_congr _ fun x hx=>?_
  obtain ⟨p1,p2⟩:=h.pr x hx
  have orb:∀ j,Rch w j x -> j < n.toNat -> j = x ∨ j = fp w x:=fun j ⟨k,hk⟩ hj=>by
   have:∀ k,it w k j = j ∨ it w k j = fp w j:=fun k=>by
    induction k with
    | zero=>exact .inl rfl
    | succ k ih =>
     simp only[it]
     rcases ih with e | e
     ·rw[e]; exact .inr rfl
     ·rw[e,(h.pr j hj).2]; exact .inl rfl
   rcases this k with e | e
   ·left; omega
   ·right
    rw[<-hk,e,(h.pr j hj).2]
  by_cases q:x < fp w x
  ·rw[if_pos q,if_pos fun j hj r=>by
    rcases orb j r (by omega) with e | e <;> omega]
  ·rw[if_neg q,if_neg fun z=>z (fp w x) (by omega) ⟨1,by simp only[it]; exact p2⟩]
 rw[h2,h3]
 omega
theorem Cl.eul:euF (2 * n) (fgC w n.toNat) (fgT b n.toNat) (fgS n.toNat) = eulN n b w:=by
 obtain ⟨n1,n2,n3,e⟩:=h.nn
 have F:=h.fls
 have f4:=F.four
 have hw:=h.half
 have hn:=h.Z.B.hn
 have k1:=obs_kR F.h32.1 (ivs2 F.iT F.iS)
 have k3:=obs_kR F.h32.1 (ivs2 F.iT F.iC)
 have P:Pd (thenP w b n) n:=pd_of hn (thenP_lo h.Z.W.lo h.Z.B.lo hn) (then_pf hn h.Z.W.pf h.Z.B.pf)
 have q1:Sep.kR (Rl [fgT b n.toNat,fgS n.toNat]) (2 * n).toNat = Sep.kR (Rch b) n.toNat:=by
  refine h.kR (ivs2 F.iT F.iS) h.Z.B.pf (fun y=>y / 2) (fun x hx=>by omega) (fun y hy=>by omega) (fun y hy l hl=>?_) (fun y hy=>h.toDart (by simp) hy) fun x hx=>?_
  ·simp only[List.mem_cons,List.not_mem_nil,or_false] at hl
   rcases hl with rfl | rfl
   ·obtain ⟨x,hx,rfl | rfl⟩:=h.casesT hy
    ·rw[h.t0 hx,show 2 * fp b x / 2 = fp b x by omega,show (2 * x + 1) / 2 = x by omega]
     exact Rch.symm h.Z.B.pf hx ⟨1,rfl⟩
    ·rw[h.t1 hx,show 2 * fp b x / 2 = fp b x by omega,show (2 * x + 1) / 2 = x by omega]
     exact ⟨1,rfl⟩
   ·obtain ⟨x,hx,rfl | rfl⟩:=h.cases hy
    ·rw[h.s0 hx,show 2 * x / 2 = x by omega,show (2 * x + 1) / 2 = x by omega]; exact .refl
    ·rw[h.s1 hx,show 2 * x / 2 = x by omega,show (2 * x + 1) / 2 = x by omega]; exact .refl
  ·have r1:=Rl.one (L:=[fgT b n.toNat,fgS n.toNat]) (l:=fgS n.toNat) (x:=2 * x) (by simp)
   rw[h.s0 hx] at r1
   have r2:=r1.step (l:=fgT b n.toNat) (by simp)
   rw[h.t1 hx] at r2
   exact r2
 have q3:Sep.kR (Rl [fgT b n.toNat,fgC w n.toNat]) (2 * n).toNat = Sep.kR (Rch (thenP w b n)) n.toNat:=by
  have d0:∀ x,(if 2 * x % 2 = 0 then 2 * x / 2 else fp w (2 * x / 2)) = x:=fun x=>by rw[if_pos (by omega)]; omega
  have d1:∀ x,(if (2 * x + 1) % 2 = 0 then (2 * x + 1) / 2 else fp w ((2 * x + 1) / 2)) = fp w x:=fun x=>by rw[if_neg (by omega),show (2 * x + 1) / 2 = x by omega]
  have st:∀ x,x < n.toNat -> Rch (thenP w b n) (fp w x) (fp b x):=fun x hx=>⟨1,by simp only[it]; rw[then_fp hn (h.wl hx),(h.pr x hx).2]⟩
  refine h.kR (ivs2 F.iT F.iC) P.pf (fun y=>if y % 2 = 0 then y / 2 else fp w (y / 2)) (fun x hx=>d0 x) (fun y hy=>?_) (fun y hy l hl=>?_) (fun y hy=>?_) fun x hx=>?_
  ·obtain ⟨x,hx,rfl | rfl⟩:=h.cases hy
   ·rw[d0]; exact hx
   ·rw[d1]; exact h.wl hx
  ·simp only[List.mem_cons,List.not_mem_nil,or_false] at hl
   rcases hl with rfl | rfl
   ·obtain ⟨x,hx,rfl | rfl⟩:=h.casesT hy
    ·rw[h.t0 hx,d0,d1]
     exact Rch.symm P.pf (h.wl hx) (st x hx)
    ·rw[h.t1 hx,d0,d1]
     exact st x hx
   ·obtain ⟨x,hx,rfl | rfl⟩:=h.cases hy
    ·rw[h.c0 hx,d0,d1,(h.pr x hx).2]; exact .refl
    ·rw[h.c1 hx,d0,d1]; exact .refl
  ·obtain ⟨x,hx,rfl | rfl⟩:=h.cases hy
   ·rw[d0]; exact .refl
   ·rw[d1]
    have r1:=Rl.one (L:=[fgT b n.toNat,fgC w n.toNat]) (l:=fgC w n.toNat) (x:=2 * x + 1) (by simp)
    rw[h.c1 hx] at r1
    exact r1
  ·have r1:=Rl.one (L:=[fgT b n.toNat,fgC w n.toNat]) (l:=fgC w n.toNat) (x:=2 * x) (by simp)
   rw[h.c0 hx] at r1
   have r2:=r1.step (l:=fgT b n.toNat) (by simp)
   rw[h.t1 (h.wl hx)] at r2
   rw[then_fp hn hx]
   exact r2
 have c1:=h.Z.B.cyc_kR
 have c2:=P.cyc_kR
 have c3:=lens_nC h.Z.lf_swap
 have c4:=lens_nC (back_lens P)
 have c5:faceP w b n = backP (thenP w b n) n:=rfl
 rw[c5] at c3
 unfold euF eulN
 omega
end
end
section
set_option maxHeartbeats 16000000
section
variable {n k:Int} {b w C T S:List Int}
end
end
section
set_option maxHeartbeats 4000000
theorem ls_gtrT {a c:List UInt8}:lift2 (abin .gtr) (.str a) (.str c) = some (.bool !(Op.bytesLess a c || a == c)):=by
 simp[lift2,toVal,abin,isSh,grd,ofVal,astr]
theorem gtr_no {c s:List UInt8} (h:Op.bytesLess s c = false):(Op.bytesLess c s || c == s) = true:=by
 cases q:Op.bytesLess c s with
 | true=>rfl
 | false=>simp[bl_tot q h]
theorem toR_len {s:List UInt8}:(toR s).1.2.1.length = 16 /\ (toR s).1.2.2.length = 16:=by
 cases h:bkB s with
 | false=>rw[toR_no h]; exact ⟨rfl,rfl⟩
 | true =>
  obtain ⟨A,B,e,M⟩:=bk_mk h
  rw[toR_yes h]; exact ⟨M.lb.1,M.lw.1⟩
theorem wo_len {n x:Int} {b w:List Int} (hb:okP b) (hw:okP w):(woR n b w x).1.length <= 32:=by
 unfold woR
 by_cases q:tcX n b w x = 0
 ·rw[if_pos q]
  obtain ⟨_,_,T,h1,h2⟩:=tcX_0 hb hw q
  exact T.wd_len (by omega)
 ·rw[if_neg q]; exact Nat.zero_le _
theorem c_FnTrees {x:Value} {l:List Int} (hl:∀ a ∈ l,0 <= a /\ a <= 255):PSpec Tryz.prog 3 [.fz x l] fun v=>v = .bool true:=by
 refine laws_FnTrees_f.f ?_
 dsimp only[laws_FnTrees_F,pcal_B,pcalp_B,pcala_B,pcond_B,pgk_B,JN_B,LP_B]
 (refine bni ?_;repeat (refine bnk ?_;(try simp (disch:=first|omega|(simp only[LN];omega)) only[↓EC,EW,seval,↓reduceIte,↓ED,EE])))
 refine pcd_v c_laws_bigT ?_
 (refine bni ?_;repeat (refine bnk ?_;(try simp (disch:=first|omega|(simp only[LN];omega)) only[↓EC,EW,seval,↓reduceIte,↓ED,EE])))
 (refine Split.mB (fun h=>?_) (fun h=>?_) <;> (try simp only[SD]at h))
 ·(refine bni ?_;repeat (refine bnk ?_;(try simp (disch:=first|omega|(simp only[LN];omega)) only[↓EC,EW,seval,↓reduceIte,↓ED,EE])))
 have hll:l.length <= 4096:=by omega
 have hB:okB l:=⟨by omega,hl⟩
 (refine bni ?_;repeat (refine bnk ?_;(try simp (disch:=first|omega|(simp only[LN];omega)) only[↓EC,EW,seval,↓reduceIte,↓ED,EE])))
 refine pcd_r (c_spec_DrawTreeOfWord hB) ?_
 rintro _ ⟨s,rfl,hs⟩
 have i1:=c_impl_TreeOfWord hs
 have s1:=c_spec_TreeOfWord hs
 obtain ⟨x1,x2⟩:=toR_len (s:=s)
 have ex0:(toR s).2 = 0 -> bkB s = true:=fun q=>by
  cases h:bkB s with
  | true=>rfl
  | false=>rw[toR_no h] at q; cases q
 have one:=fun h=>t_one (s:=s) h
 simp only[vDC,vD] at i1 s1
 generalize toR s = r at *
 have v1:=vleq32r (l:=r.1.2.1 ++ r.1.2.2) (by simp[x1,x2])
 (refine bni ?_;repeat (refine bnk ?_;(try simp (disch:=first|omega|(simp only[LN];omega)) only[↓EC,EW,seval,↓reduceIte,↓ED,EE])))
 refine pcd_v i1 ?_
 (refine bni ?_;repeat (refine bnk ?_;(try simp (disch:=first|omega|(simp only[LN];omega)) only[↓EC,EW,seval,↓reduceIte,↓ED,EE,x1,x2])))
 refine pcd_v s1 ?_
 (refine bni ?_;repeat (refine bnk ?_;(try simp (disch:=first|omega|(simp only[LN];omega)) only[↓EC,EW,seval,↓reduceIte,↓ED,EE,v1,x1,x2])))
 refine JNx_of (fun o h=>o = [.fz x l] /\ Fre 82 h) ?_ ?_
 ·intro K hK
  (refine bni ?_;repeat (refine bnk ?_;(try simp (disch:=first|omega|(simp only[LN];omega)) only[↓EC,EW,seval,↓reduceIte,↓ED,EE])))
  (refine Split.mB (fun h=>?_) (fun h=>?_) <;> (try simp only[SD]at h))
  ·obtain ⟨n,b,w,c,b',w',rfl,hb,hw,hd,ht,eu,hwo,hcn,cl,bl,tc,hb',hw',ak⟩:=one (ex0 h)
   have hbl:=hb.1
   have hwl:=hw.1
   have hbl':=hb'.1
   have hwl':=hw'.1
   have g1:=c_impl_WordOfTree (n:=n) (x:=0) hb hw
   have g2:=c_impl_IsTree (n:=n) hb hw
   have g3:=c_impl_GenusOf hb hw hd
   have g4:=c_impl_CanonicalWord (n:=n) hb hw
   have g5:=c_impl_TreeOfWord (s:=c) (by omega)
   have g6:=c_impl_AreAlike (n:=n) (m:=n) hb hw hb' hw'
   rw[hwo] at g1
   rw[if_pos hd,ht] at g2
   rw[eu] at g3
   rw[hcn] at g4
   rw[tc] at g5
   rw[ak] at g6
   have gt:=gtr_no bl
   simp only[vDC,vD] at g1 g2 g3 g4 g5 g6
   clear one ex0 i1 s1 v1
   (refine bni ?_;repeat (refine bnk ?_;(try simp (disch:=first|omega|(simp only[LN];omega)) only[↓EC,EW,seval,↓reduceIte,↓ED,EE])))
   refine pcd_v g1 ?_
   (refine bni ?_;repeat (refine bnk ?_;(try simp (disch:=first|omega|(simp only[LN];omega)) only[↓EC,EW,seval,↓reduceIte,↓ED,EE])))
   refine pcd_v g2 ?_
   (refine bni ?_;repeat (refine bnk ?_;(try simp (disch:=first|omega|(simp only[LN];omega)) only[↓EC,EW,seval,↓reduceIte,↓ED,EE])))
   refine pcd_v g3 ?_
   (refine bni ?_;repeat (refine bnk ?_;(try simp (disch:=first|omega|(simp only[LN];omega)) only[↓EC,EW,seval,↓reduceIte,↓ED,EE])))
   refine pcd_v g4 ?_
   (refine bni ?_;repeat (refine bnk ?_;(try simp (disch:=first|omega|(simp only[LN];omega)) only[↓EC,EW,seval,↓reduceIte,↓ED,EE])))
   refine pcd_v g5 ?_
   (refine bni ?_;repeat (refine bnk ?_;(try simp (disch:=first|omega|(simp only[LN];omega)) only[↓EC,EW,seval,↓reduceIte,↓ED,EE,hbl',hwl'])))
   refine pcd_v g6 ?_
   (refine bni ?_;repeat (refine bnk ?_;(try simp (disch:=first|omega|(simp only[LN];omega)) only[↓EC,EW,seval,↓reduceIte,↓ED,EE,ls_gtrT,gt])))
   exact hK _ _ ⟨rfl,by repeat' (first | exact Fre.nil | refine Fre.put ?_ (by decide))⟩
  ·(refine bni ?_;repeat (refine bnk ?_;(try simp (disch:=first|omega|(simp only[LN];omega)) only[↓EC,EW,seval,↓reduceIte,↓ED,EE])))
   exact hK _ _ ⟨rfl,by repeat' (first | exact Fre.nil | refine Fre.put ?_ (by decide))⟩
 ·rintro o h0 ⟨rfl,hf⟩
  clear ex0 one x1 x2 v1 i1 s1 r hs s
  have f84:=hf 84 (by decide)
  have f89:=hf 89 (by decide)
  (refine bni ?_;repeat (refine bnk ?_;(try simp (disch:=first|omega|(simp only[LN];omega)) only[↓EC,EW,seval,↓reduceIte,↓ED,EE])))
  refine pcd_r (c_spec_DrawSymmetryOf hB) ?_
  rintro _ ⟨n,b,w,rfl,hb,hw,hn1,hn2⟩
  have hbl:=hb.1
  have hwl:=hw.1
  have i1:=c_impl_SymmetryOf (n:=n) hb hw
  have s1:=c_spec_SymmetryOf (n:=n) hb hw
  have sy:=fun h=>t_sym (n:=n) hb hw h
  simp only[vD] at i1 s1
  generalize syR n b w = r at *
  (refine bni ?_;repeat (refine bnk ?_;(try simp (disch:=first|omega|(simp only[LN];omega)) only[↓EC,EW,seval,↓reduceIte,↓ED,EE,vD,f84])))
  refine pcd_v i1 ?_
  (refine bni ?_;repeat (refine bnk ?_;(try simp (disch:=first|omega|(simp only[LN];omega)) only[↓EC,EW,seval,↓reduceIte,↓ED,EE])))
  refine pcd_v s1 ?_
  have step:∀ (q:r.2 = 0),n.tmod r.1 = 0 /\ ¬ r.1 < 1 /\ 1 <= r.1 /\ 1 <= n /\ n <= 16 /\ r.1 ≠ 0:=fun q=>by
   obtain ⟨a,c,d,e⟩:=sy q
   exact ⟨by rw[Int.tmod_eq_emod_of_nonneg (by omega)]; exact c,by omega,a,d,e,by omega⟩
  (refine bni ?_;repeat (refine bnk ?_;(try simp (disch:=first|omega|(simp only[LN];omega)) only[↓EC,EW,seval,↓reduceIte,↓ED,EE])))
  (refine Split.mB (fun h=>?_) (fun h=>?_) <;> (try simp only[SD]at h))
  ·obtain ⟨u1,u2,u3,u4,u5,u6⟩:=step (by assumption)
   have u7:decide (r.1 < 1) = false:=by simp[u2]
   (refine bni ?_;repeat (refine bnk ?_;(try simp (disch:=first|omega|(simp only[LN];omega)) only[↓EC,EW,seval,↓reduceIte,↓ED,EE,u1,u7])))
   refine pcd_r (c_spec_DrawWordOfTree hB) ?_
   rintro _ ⟨n2,b2,w2,k,rfl,hb2,hw2,hm1,hm2⟩
   have hbl2:=hb2.1
   have hwl2:=hw2.1
   have j1:=c_impl_WordOfTree (n:=n2) (x:=k) hb2 hw2
   have j2:=c_spec_WordOfTree (n:=n2) (x:=k) hb2 hw2 ⟨hm1,hm2⟩
   have wl:=wo_len (n:=n2) (x:=k) hb2 hw2
   have two:=fun h=>t_wo (n:=n2) hb2 hw2 (x:=k) h
   simp only[vD] at j1 j2
   generalize woR n2 b2 w2 k = r2 at *
   (refine bni ?_;repeat (refine bnk ?_;(try simp (disch:=first|omega|(simp only[LN];omega)) only[↓EC,EW,seval,↓reduceIte,↓ED,EE,vD,f89])))
   refine pcd_v j1 ?_
   (refine bni ?_;repeat (refine bnk ?_;(try simp (disch:=first|omega|(simp only[LN];omega)) only[↓EC,EW,seval,↓reduceIte,↓ED,EE])))
   refine pcd_v j2 ?_
   (refine bni ?_;repeat (refine bnk ?_;(try simp (disch:=first|omega|(simp only[LN];omega)) only[↓EC,EW,seval,↓reduceIte,↓ED,EE])))
   refine JNx_of (fun o h=>o = [.fz x l] /\ Fre 96 h) ?_ ?_
   ·intro K hK
    (refine bni ?_;repeat (refine bnk ?_;(try simp (disch:=first|omega|(simp only[LN];omega)) only[↓EC,EW,seval,↓reduceIte,↓ED,EE])))
    (refine Split.mB (fun h=>?_) (fun h=>?_) <;> (try simp only[SD]at h))
    ·obtain ⟨b3,w3,c,tc,hb3,hw3,ak,cn2,cn3⟩:=two (by assumption)
     have hbl3:=hb3.1
     have hwl3:=hw3.1
     have ln:r2.1.length <= 1000:=by omega
     have g1:=c_impl_TreeOfWord ln
     have g2:=c_impl_AreAlike (n:=n2) (m:=n2) hb2 hw2 hb3 hw3
     have g3:=c_impl_CanonicalWord (n:=n2) hb2 hw2
     have g4:=c_impl_CanonicalWord (n:=n2) hb3 hw3
     rw[tc] at g1
     rw[ak] at g2
     rw[cn2] at g3
     rw[cn3] at g4
     simp only[vDC,vD] at g1 g2 g3 g4
     have f95:=hf 95 (by decide)
     (refine bni ?_;repeat (refine bnk ?_;(try simp (disch:=first|omega|(simp only[LN];omega)) only[↓EC,EW,seval,↓reduceIte,↓ED,EE])))
     refine pcd_v g1 ?_
     (refine bni ?_;repeat (refine bnk ?_;(try simp (disch:=first|omega|(simp only[LN];omega)) only[↓EC,EW,seval,↓reduceIte,↓ED,EE,hbl3,hwl3,f95])))
     refine pcd_v g2 ?_
     (refine bni ?_;repeat (refine bnk ?_;(try simp (disch:=first|omega|(simp only[LN];omega)) only[↓EC,EW,seval,↓reduceIte,↓ED,EE])))
     refine pcd_v g3 ?_
     (refine bni ?_;repeat (refine bnk ?_;(try simp (disch:=first|omega|(simp only[LN];omega)) only[↓EC,EW,seval,↓reduceIte,↓ED,EE])))
     refine pcd_v g4 ?_
     (refine bni ?_;repeat (refine bnk ?_;(try simp (disch:=first|omega|(simp only[LN];omega)) only[↓EC,EW,seval,↓reduceIte,↓ED,EE])))
     exact hK _ _ ⟨rfl,by repeat' (first | exact hf.up (by decide) | refine Fre.put ?_ (by decide))⟩
    ·(refine bni ?_;repeat (refine bnk ?_;(try simp (disch:=first|omega|(simp only[LN];omega)) only[↓EC,EW,seval,↓reduceIte,↓ED,EE])))
     exact hK _ _ ⟨rfl,by repeat' (first | exact hf.up (by decide) | refine Fre.put ?_ (by decide))⟩
   ·rintro o h1 ⟨rfl,hg⟩
    clear two j1 j2 i1 s1 sy step
    have f103:=hg 103 (by decide)
    have f108:=hg 108 (by decide)
    (refine bni ?_;repeat (refine bnk ?_;(try simp (disch:=first|omega|(simp only[LN];omega)) only[↓EC,EW,seval,↓reduceIte,↓ED,EE])))
    refine pcd_r (c_spec_DrawCanonicalWord hB) ?_
    rintro _ ⟨n4,b4,w4,rfl,hb4,hw4,_,_⟩
    have hbl4:=hb4.1
    have hwl4:=hw4.1
    have k1:=c_impl_CanonicalWord (n:=n4) hb4 hw4
    have k2:=c_spec_CanonicalWord (n:=n4) hb4 hw4
    simp only[vD] at k1 k2
    generalize cnR n4 b4 w4 = r4 at *
    (refine bni ?_;repeat (refine bnk ?_;(try simp (disch:=first|omega|(simp only[LN];omega)) only[↓EC,EW,seval,↓reduceIte,↓ED,EE,vD,f103])))
    refine pcd_v k1 ?_
    (refine bni ?_;repeat (refine bnk ?_;(try simp (disch:=first|omega|(simp only[LN];omega)) only[↓EC,EW,seval,↓reduceIte,↓ED,EE])))
    refine pcd_v k2 ?_
    (refine bni ?_;repeat (refine bnk ?_;(try simp (disch:=first|omega|(simp only[LN];omega)) only[↓EC,EW,seval,↓reduceIte,↓ED,EE])))
    refine pcd_r (c_spec_DrawIsTree hB) ?_
    rintro _ ⟨n5,b5,w5,rfl,hb5,hw5,_,_⟩
    have hbl5:=hb5.1
    have hwl5:=hw5.1
    have k3:=c_impl_IsTree (n:=n5) hb5 hw5
    have k4:=c_spec_IsTree (n:=n5) hb5 hw5
    simp only[vD] at k3 k4
    by_cases hd5:isDB n5 b5 w5 = true
    ·rw[if_pos hd5] at k3 k4
     (refine bni ?_;repeat (refine bnk ?_;(try simp (disch:=first|omega|(simp only[LN];omega)) only[↓EC,EW,seval,↓reduceIte,↓ED,EE,vD,f108])))
     refine pcd_v k3 ?_
     (refine bni ?_;repeat (refine bnk ?_;(try simp (disch:=first|omega|(simp only[LN];omega)) only[↓EC,EW,seval,↓reduceIte,↓ED,EE])))
     refine pcd_v k4 ?_
     (refine bni ?_;repeat (refine bnk ?_;(try simp (disch:=first|omega|(simp only[LN];omega)) only[↓EC,EW,seval,↓reduceIte,↓ED,EE])))
    ·rw[if_neg hd5] at k3 k4
     (refine bni ?_;repeat (refine bnk ?_;(try simp (disch:=first|omega|(simp only[LN];omega)) only[↓EC,EW,seval,↓reduceIte,↓ED,EE,vD,f108])))
     refine pcd_v k3 ?_
     (refine bni ?_;repeat (refine bnk ?_;(try simp (disch:=first|omega|(simp only[LN];omega)) only[↓EC,EW,seval,↓reduceIte,↓ED,EE])))
     refine pcd_v k4 ?_
     (refine bni ?_;repeat (refine bnk ?_;(try simp (disch:=first|omega|(simp only[LN];omega)) only[↓EC,EW,seval,↓reduceIte,↓ED,EE])))
  ·(refine bni ?_;repeat (refine bnk ?_;(try simp (disch:=first|omega|(simp only[LN];omega)) only[↓EC,EW,seval,↓reduceIte,↓ED,EE])))
   refine pcd_r (c_spec_DrawWordOfTree hB) ?_
   rintro _ ⟨n2,b2,w2,k,rfl,hb2,hw2,hm1,hm2⟩
   have hbl2:=hb2.1
   have hwl2:=hw2.1
   have j1:=c_impl_WordOfTree (n:=n2) (x:=k) hb2 hw2
   have j2:=c_spec_WordOfTree (n:=n2) (x:=k) hb2 hw2 ⟨hm1,hm2⟩
   have wl:=wo_len (n:=n2) (x:=k) hb2 hw2
   have two:=fun h=>t_wo (n:=n2) hb2 hw2 (x:=k) h
   simp only[vD] at j1 j2
   generalize woR n2 b2 w2 k = r2 at *
   (refine bni ?_;repeat (refine bnk ?_;(try simp (disch:=first|omega|(simp only[LN];omega)) only[↓EC,EW,seval,↓reduceIte,↓ED,EE,vD,f89])))
   refine pcd_v j1 ?_
   (refine bni ?_;repeat (refine bnk ?_;(try simp (disch:=first|omega|(simp only[LN];omega)) only[↓EC,EW,seval,↓reduceIte,↓ED,EE])))
   refine pcd_v j2 ?_
   (refine bni ?_;repeat (refine bnk ?_;(try simp (disch:=first|omega|(simp only[LN];omega)) only[↓EC,EW,seval,↓reduceIte,↓ED,EE])))
   refine JNx_of (fun o h=>o = [.fz x l] /\ Fre 96 h) ?_ ?_
   ·intro K hK
    (refine bni ?_;repeat (refine bnk ?_;(try simp (disch:=first|omega|(simp only[LN];omega)) only[↓EC,EW,seval,↓reduceIte,↓ED,EE])))
    (refine Split.mB (fun h=>?_) (fun h=>?_) <;> (try simp only[SD]at h))
    ·obtain ⟨b3,w3,c,tc,hb3,hw3,ak,cn2,cn3⟩:=two (by assumption)
     have hbl3:=hb3.1
     have hwl3:=hw3.1
     have ln:r2.1.length <= 1000:=by omega
     have g1:=c_impl_TreeOfWord ln
     have g2:=c_impl_AreAlike (n:=n2) (m:=n2) hb2 hw2 hb3 hw3
     have g3:=c_impl_CanonicalWord (n:=n2) hb2 hw2
     have g4:=c_impl_CanonicalWord (n:=n2) hb3 hw3
     rw[tc] at g1
     rw[ak] at g2
     rw[cn2] at g3
     rw[cn3] at g4
     simp only[vDC,vD] at g1 g2 g3 g4
     have f95:=hf 95 (by decide)
     (refine bni ?_;repeat (refine bnk ?_;(try simp (disch:=first|omega|(simp only[LN];omega)) only[↓EC,EW,seval,↓reduceIte,↓ED,EE])))
     refine pcd_v g1 ?_
     (refine bni ?_;repeat (refine bnk ?_;(try simp (disch:=first|omega|(simp only[LN];omega)) only[↓EC,EW,seval,↓reduceIte,↓ED,EE,hbl3,hwl3,f95])))
     refine pcd_v g2 ?_
     (refine bni ?_;repeat (refine bnk ?_;(try simp (disch:=first|omega|(simp only[LN];omega)) only[↓EC,EW,seval,↓reduceIte,↓ED,EE])))
     refine pcd_v g3 ?_
     (refine bni ?_;repeat (refine bnk ?_;(try simp (disch:=first|omega|(simp only[LN];omega)) only[↓EC,EW,seval,↓reduceIte,↓ED,EE])))
     refine pcd_v g4 ?_
     (refine bni ?_;repeat (refine bnk ?_;(try simp (disch:=first|omega|(simp only[LN];omega)) only[↓EC,EW,seval,↓reduceIte,↓ED,EE])))
     exact hK _ _ ⟨rfl,by repeat' (first | exact hf.up (by decide) | refine Fre.put ?_ (by decide))⟩
    ·(refine bni ?_;repeat (refine bnk ?_;(try simp (disch:=first|omega|(simp only[LN];omega)) only[↓EC,EW,seval,↓reduceIte,↓ED,EE])))
     exact hK _ _ ⟨rfl,by repeat' (first | exact hf.up (by decide) | refine Fre.put ?_ (by decide))⟩
   ·rintro o h1 ⟨rfl,hg⟩
    clear two j1 j2 i1 s1 sy step
    have f103:=hg 103 (by decide)
    have f108:=hg 108 (by decide)
    (refine bni ?_;repeat (refine bnk ?_;(try simp (disch:=first|omega|(simp only[LN];omega)) only[↓EC,EW,seval,↓reduceIte,↓ED,EE])))
    refine pcd_r (c_spec_DrawCanonicalWord hB) ?_
    rintro _ ⟨n4,b4,w4,rfl,hb4,hw4,_,_⟩
    have hbl4:=hb4.1
    have hwl4:=hw4.1
    have k1:=c_impl_CanonicalWord (n:=n4) hb4 hw4
    have k2:=c_spec_CanonicalWord (n:=n4) hb4 hw4
    simp only[vD] at k1 k2
    generalize cnR n4 b4 w4 = r4 at *
    (refine bni ?_;repeat (refine bnk ?_;(try simp (disch:=first|omega|(simp only[LN];omega)) only[↓EC,EW,seval,↓reduceIte,↓ED,EE,vD,f103])))
    refine pcd_v k1 ?_
    (refine bni ?_;repeat (refine bnk ?_;(try simp (disch:=first|omega|(simp only[LN];omega)) only[↓EC,EW,seval,↓reduceIte,↓ED,EE])))
    refine pcd_v k2 ?_
    (refine bni ?_;repeat (refine bnk ?_;(try simp (disch:=first|omega|(simp only[LN];omega)) only[↓EC,EW,seval,↓reduceIte,↓ED,EE])))
    refine pcd_r (c_spec_DrawIsTree hB) ?_
    rintro _ ⟨n5,b5,w5,rfl,hb5,hw5,_,_⟩
    have hbl5:=hb5.1
    have hwl5:=hw5.1
    have k3:=c_impl_IsTree (n:=n5) hb5 hw5
    have k4:=c_spec_IsTree (n:=n5) hb5 hw5
    simp only[vD] at k3 k4
    by_cases hd5:isDB n5 b5 w5 = true
    ·rw[if_pos hd5] at k3 k4
     (refine bni ?_;repeat (refine bnk ?_;(try simp (disch:=first|omega|(simp only[LN];omega)) only[↓EC,EW,seval,↓reduceIte,↓ED,EE,vD,f108])))
     refine pcd_v k3 ?_
     (refine bni ?_;repeat (refine bnk ?_;(try simp (disch:=first|omega|(simp only[LN];omega)) only[↓EC,EW,seval,↓reduceIte,↓ED,EE])))
     refine pcd_v k4 ?_
     (refine bni ?_;repeat (refine bnk ?_;(try simp (disch:=first|omega|(simp only[LN];omega)) only[↓EC,EW,seval,↓reduceIte,↓ED,EE])))
    ·rw[if_neg hd5] at k3 k4
     (refine bni ?_;repeat (refine bnk ?_;(try simp (disch:=first|omega|(simp only[LN];omega)) only[↓EC,EW,seval,↓reduceIte,↓ED,EE,vD,f108])))
     refine pcd_v k3 ?_
     (refine bni ?_;repeat (refine bnk ?_;(try simp (disch:=first|omega|(simp only[LN];omega)) only[↓EC,EW,seval,↓reduceIte,↓ED,EE])))
     refine pcd_v k4 ?_
     (refine bni ?_;repeat (refine bnk ?_;(try simp (disch:=first|omega|(simp only[LN];omega)) only[↓EC,EW,seval,↓reduceIte,↓ED,EE])))
theorem t_FnTrees:∀ xs,Ty.oks [.sl (.int .u8)] xs -> PSpec Tryz.prog 3 xs fun r=>r = .bool true:=by
 rintro xs ⟨v,r,rfl,hv,rfl⟩
 obtain ⟨l,rfl,h1,h2⟩:=ok_ints hv
 exact pspec_fz fun x=>c_FnTrees fun a ha=>h2 a ha
end
end Go.Proofs.YtbjbpmicnmjbfaaGreat.Sep

/- Texts put together: C125, C126, C130, C133, C127, C128, C129, C131, C132, C134, C137, C135, C136, C138, C139. -/
import Derived.Test.YtbjbpmicnmjbfaaGreatK5
namespace Go.Proofs.YtbjbpmicnmjbfaaGreat.Sep
open Go.RowKit
set_option linter.unusedVariables false
set_option linter.unusedSimpArgs false
set_option maxRecDepth 20000
section
set_option maxHeartbeats 4000000
theorem getD_33 {x d:V} {l:List V} {k:Nat}:(x :: l).getD (33 + k) d = l.getD (32 + k) d:=by rw [show 33 + k = (32 + k) + 1 from by omega]; rfl
theorem getD_65 {x d:V} {l:List V} {k:Nat}:(x :: l).getD (65 + k) d = l.getD (64 + k) d:=by rw [show 65 + k = (64 + k) + 1 from by omega]; rfl
theorem set_33 {x v:V} {l:List V} {k:Nat}:(x :: l).set (33 + k) v = x :: l.set (32 + k) v:=by rw [show 33 + k = (32 + k) + 1 from by omega]; rfl
theorem set_65 {x v:V} {l:List V} {k:Nat}:(x :: l).set (65 + k) v = x :: l.set (64 + k) v:=by rw [show 65 + k = (64 + k) + 1 from by omega]; rfl
theorem flat_gi {L:List (List Int)} {j i:Nat} (hl:∀ l ∈ L,l.length = 32) (hj:j < L.length) (hi:i < 32):gi L.flatten (j * 32 + i) = gi (gl L j) i:=by
 rw [<-flat_row hl hj]
 have:j * 32 + i < L.flatten.length:=by rw [flat32 hl]; omega
 have e:(gl L j).length = 32:=hl _ (gl_mem hj)
 rw [<-flat_row hl hj] at e
 rw [gi_of this,gi_of (show i < _ by rw [e]; exact hi)]; simp
theorem c_spec_l07Sets {L:List (List Int)} {N:Nat} {n:Int} (hn:(N:Int) = n) (hN:N <= 32) (hv:Ivs L N) (hl:∀ l ∈ L,l.length = 32) (hL:L.length <= 16):PSpec Tryz.prog 109 [.sl L.length (vi .u8 L.flatten),.int .i64 n] fun v=>v = .own 2 1 (obs L N).length (vi .i64 (obs L N)):=by
 subst hn
 have hfl:=flat32 hl
 refine spec_l07Sets_f.f ?_
 dsimp only [spec_l07Sets_F,pcal_B,pcalp_B,pcala_B,pcond_B,pgk_B,JN_B,LP_B]
 (refine bni ?_; repeat (refine bnk ?_; (try simp (disch:=first | omega | (simp only [LN]; omega)) only [↓EC,EW,seval,↓reduceIte,↓EBD,EBE])))
 refine LPx_ofE (σ:=Nat) [1,1] 100000 [(70,112,1)] (fun i=>[.own 2 1 (obO L i).2.length (vi .i64 (obO L i).2),.int .i64 i]) (fun i=>[vb (obO L i).1])
  (fun i=>i <= N) (fun i=>N - i) 0 (by simp [frameOk,names,lpz,sclp,scv,scvs,nrfs,nrf,FRB]) (Nat.zero_le _) ?_ ?_
 ·(refine bni ?_; repeat (refine bnk ?_; simp (disch:=first | omega | (simp only [LN]; omega)) only [↓EC,EW,seval,↓reduceIte,↓EBD,EBE,ColV_def]))
  exact ⟨fun _=>trivial,rfl,rfl⟩
 ·rintro i hi
  have h1:=obO_len hN hv hi
  have h1':=obO_le (L:=L) i
  (refine bni ?_; repeat (refine bnk ?_; simp (disch:=first | omega | (simp only [LN]; omega)) only [↓EC,EW,seval,↓reduceIte,↓EBD,EBE,ColV_def,lheap_def]))
  (refine Split.mkB (fun h=>?_) (fun h=>?_) <;> (try simp only [SD] at h))
  ·refine JNx_un ?_
   (refine bni ?_; repeat (refine bnk ?_; (try simp (disch:=first | omega | (simp only [LN]; omega)) only [↓EC,EW,seval,↓reduceIte,↓EBD,EBE])))
   (refine Split.mkB (fun h=>?_) (fun h=>?_) <;> (try simp only [SD] at h))
   ·(refine bni ?_; repeat (refine bnk ?_; (try simp (disch:=first | omega | (simp only [LN]; omega)) only [↓EC,EW,seval,↓reduceIte,↓EBD,EBE])))
    exact ⟨i + 1,by rw [obO_yes h]; rfl,by rw [obO_yes h],by omega,by omega⟩
   ·have hg:gb (obO L i).1 i = false:=by simpa using h
    have hm:=obO_cl hN hv hi
    have hst:=Ox.start (L:=L) h1 hN (show i < N by omega) hg
    have hi8:IntKind.u8.wrap (i:Int) = i:=by simp [IntKind.wrap,IntKind.signed,IntKind.bits]; omega
    (refine bni ?_; repeat (refine bnk ?_; (try simp (disch:=first | omega | (simp only [LN]; omega)) only [↓EC,EW,seval,↓reduceIte,↓EBD,EBE,hi8])))
    refine LPx_of (σ:=Sr × Nat) 200000 [(70,112,1),(100000,2,1)] (fun s=>[.own 2 1 s.1.1.length (vi .i64 s.1.1),.int .i64 s.2])
     (fun s=>[vb s.1.2,vi .i64 (obO L i).2]) (fun s=>Ox L N (obO L i).1 i s.1 /\ s.2 <= s.1.1.length /\ obRun L (33 - s.2) s.2 s.1 = obI L i (obO L i).1) (fun s=>33 - s.2) (([(i:Int)],(obO L i).1.set i true),0) (by simp [frameOk,names,lpz,sclp,scv,scvs,nrfs,nrf,FRB]) ⟨hst,Nat.zero_le _,rfl⟩ ?_ ?_
    ·(refine bni ?_; repeat (refine bnk ?_; simp (disch:=first | omega | (simp only [LN]; omega)) only [↓EC,EW,seval,↓reduceIte,↓EBD,EBE,ColV_def]))
     rfl
    ·rintro ⟨s,k⟩ ⟨g1,g2,g3⟩
     simp only at g1 g2 g3
     have gl2:=g1.l2
     have gle:=g1.len
     (refine bni ?_; repeat (refine bnk ?_; simp (disch:=first | omega | (simp only [LN]; omega)) only [↓EC,EW,seval,↓reduceIte,↓EBD,EBE,ColV_def,lheap_def]))
     (refine Split.mkB (fun h=>?_) (fun h=>?_) <;> (try simp only [SD] at h))
     ·have hk:k < s.1.length:=by omega
      have hz:=g1.lt (gi s.1 k) (by rw [gi_of hk]; exact List.getElem_mem hk)
      (refine bni ?_; repeat (refine bnk ?_; (try simp (disch:=first | omega | (simp only [LN]; omega)) only [↓EC,EW,seval,↓reduceIte,↓EBD,EBE])))
      refine LPx_of (σ:=Sr × Nat) 300000 [(70,112,1),(100000,2,1)] (fun s=>[.own 2 1 s.1.1.length (vi .i64 s.1.1),.int .i64 s.2])
       (fun s=>[vb s.1.2,vi .i64 (obO L i).2]) (fun t=>Om L N (obO L i).1 i s k t.2 t.1) (fun t=>L.length - t.2) (s,0) (by simp [frameOk,names,lpz,sclp,scv,scvs,nrfs,nrf,FRB]) ⟨Nat.zero_le _,rfl,g1⟩ ?_ ?_
      ·(refine bni ?_; repeat (refine bnk ?_; simp (disch:=first | omega | (simp only [LN]; omega)) only [↓EC,EW,seval,↓reduceIte,↓EBD,EBE,ColV_def]))
      ·rintro ⟨t,j⟩ hO
       simp only at hO
       have e1:=hO.ox.l2
       have e2:=hO.ox.len
       obtain ⟨p1,p2⟩:=hO.pre
       have hjl:=hO.jl
       (refine bni ?_; repeat (refine bnk ?_; simp (disch:=first | omega | (simp only [LN]; omega)) only [↓EC,EW,seval,↓reduceIte,↓EBD,EBE,ColV_def,lheap_def]))
       (refine Split.mkB (fun h=>?_) (fun h=>?_) <;> (try simp only [SD] at h))
       ·refine JNx_un ?_
        have hj:j < L.length:=by omega
        have hrow:=flat_row hl hj
        have hrl:=hl _ (gl_mem hj)
        have hst2:=hO.step hN hv hm g1 hk hj
        have hlt:=row_lt hv hj hz
        have hpk:=p2 k hk
        have hrg:=flat_gi hl hj (i:=(gi s.1 k).toNat) (by omega)
        (refine bni ?_; repeat (refine bnk ?_; (try simp (disch:=first | omega | (simp only [LN]; omega)) only [↓EC,EW,seval,↓reduceIte,↓EBD,EBE,hrow,hpk,hrg])))
        (refine Split.mkB (fun h=>?_) (fun h=>?_) <;> (try simp only [SD] at h))
        ·(refine bni ?_; repeat (refine bnk ?_; (try simp (disch:=first | omega | (simp only [LN]; omega)) only [↓EC,EW,seval,↓reduceIte,↓EBD,EBE])))
         exact ⟨(visit (gi (gl L j) (gi s.1 k).toNat) t,j + 1),by rw [visit_no h]; simp,by rw [visit_no h],hst2,by simp only; omega⟩
        ·(refine bni ?_; repeat (refine bnk ?_; (try simp (disch:=first | omega | (simp only [LN]; omega)) only [↓EC,EW,seval,↓reduceIte,↓EBD,EBE])))
         exact ⟨(visit (gi (gl L j) (gi s.1 k).toNat) t,j + 1),by rw [visit_yes h]; simp,by rw [visit_yes h],hst2,by simp only; omega⟩
       ·(refine bni ?_; repeat (refine bnk ?_; (try simp (disch:=first | omega | (simp only [LN]; omega)) only [↓EC,EW,seval,↓reduceIte,↓EBD,EBE])))
        have ej:j = L.length:=by omega
        have et:t = obV L (gi s.1 k) s:=by have:=hO.e; rw [ej,List.take_length] at this; exact this
        refine ⟨(t,k + 1),by simp,rfl,⟨hO.ox,by simp only; omega,?_⟩,by simp only; omega⟩
        rw [show 33 - k = 33 - (k + 1) + 1 by omega] at g3
        simp only [obRun,if_pos hk] at g3
        simp only
        rw [et]; exact g3
     ·(refine bni ?_; repeat (refine bnk ?_; (try simp (disch:=first | omega | (simp only [LN]; omega)) only [↓EC,EW,seval,↓reduceIte,↓EBD,EBE])))
      have es:s = obI L i (obO L i).1:=by
       rw [<-g3,show 33 - k = 32 - k + 1 by omega]
       simp only [obRun]
       rw [if_neg (by omega)]
      exact ⟨i + 1,by rw [obO_no hg,<-es]; simp,by rw [obO_no hg,<-es],by omega,by omega⟩
  ·(refine bni ?_; repeat (refine bnk ?_; (try simp (disch:=first | omega | (simp only [LN]; omega)) only [↓EC,EW,seval,↓reduceIte,↓EBD,EBE])))
   have:i = N:=by omega
   subst this
   rfl
def vF (n:Int) (C T S:List Int):V:=.agg (.int .i64 n :: vi .u8 (C ++ T ++ S))
def boT (C S:List Int):Nat -> List Int
 | 0=>List.replicate 32 0
 | s + 1=>(boT C S s).set s (gi S (gi C s).toNat)
theorem boT_len {C S:List Int}:∀ s,(boT C S s).length = 32
 | 0=>by simp [boT]
 | s + 1=>by simp [boT,boT_len s]
theorem boT_at {C S:List Int} {y:Nat}:∀ s,s <= 32 -> gi (boT C S s) y = if y < s then gi S (gi C y).toNat else 0
 | 0,_=>by simp only [boT]; rw [gi_rep]; simp
 | s + 1,hs=>by
  simp only [boT]
  rw [gi_set,boT_len,boT_at s (by omega)]
  by_cases e:s = y
  ·subst e; rw [if_pos ⟨rfl,by omega⟩,if_pos (by omega)]
  ·rw [if_neg fun q=>e q.1]
   by_cases q:y < s
   ·rw [if_pos q,if_pos (by omega)]
   ·rw [if_neg q,if_neg (by omega)]
theorem boT_bo {C S:List Int} {n:Int} (hn:0 <= n /\ n <= 32):boT C S n.toNat = bo C S n:=ext32 (boT_len _) bo_len fun i hi=>by
 rw [boT_at _ (by omega),bo_at hi]
 by_cases q:(i:Int) < n
 ·rw [if_pos (by omega),if_pos q]
 ·rw [if_neg (by omega),if_neg q]
theorem c_impl_both {n:Int} {C T S:List Int} (hC:fl32 C) (hT:T.length = 32) (hS:fl32 S) (hn:0 <= n /\ n <= 32):PSpec Tryz.prog 81 [vF n C T S] fun v=>v = .agg (vi .u8 (bo C S n)):=by
 have hCl:=hC.1
 have hSl:=hS.1
 have hct:(C ++ T).length = 64:=by simp [hCl,hT]
 refine impl_both_f.f ?_
 unfold vF
 dsimp only [impl_both_F,pcal_B,pcalp_B,pcala_B,pcond_B,pgk_B,JN_B,LP_B]
 (refine bni ?_; repeat (refine bnk ?_; (try simp (disch:=first | omega | (simp only [LN]; omega)) only [↓EC,EW,seval,↓reduceIte,↓EBD,EBE])))
 refine LPx_of (σ:=Nat) 100000 [(65,43,1),(66,41,1),(67,41,1)] (fun s=>[.int .i64 s]) (fun s=>[.int .i64 n :: vi .u8 (C ++ T ++ S),vi .u8 (List.replicate 32 0),vi .u8 (boT C S s)])
  (fun s=>(s:Int) <= n) (fun s=>(n - s).toNat) 0 (by simp [frameOk,names,lpz,sclp,scv,scvs,nrfs,nrf,FRB]) (by simp only [Int.natCast_zero]; omega) ?_ ?_
 ·(refine bni ?_; repeat (refine bnk ?_; simp (disch:=first | omega | (simp only [LN]; omega)) only [↓EC,EW,seval,↓reduceIte,↓EBD,EBE,ColV_def]))
  trivial
 ·intro s hs
  have q1:=boT_len (C:=C) (S:=S) s
  (refine bni ?_; repeat (refine bnk ?_; simp (disch:=first | omega | (simp only [LN]; omega)) only [↓EC,EW,seval,↓reduceIte,↓EBD,EBE,ColV_def,lheap_def]))
  (refine Split.mkB (fun h=>?_) (fun h=>?_) <;> (try simp only [SD] at h))
  ·have a1:=hC.2 s (by omega)
   have a2:=hS.2 (gi C s).toNat (by omega)
   (refine bni ?_; repeat (refine bnk ?_; (try simp (disch:=first | omega | (simp only [LN]; omega)) only [↓EC,EW,seval,↓reduceIte,↓EBD,EBE,getD_33,getD_65,hct,hCl])))
   exact ⟨s + 1,by simp,rfl,by omega,by omega⟩
  ·obtain rfl:(n:Int) = s:=by omega
   (refine bni ?_; repeat (refine bnk ?_; (try simp (disch:=first | omega | (simp only [LN]; omega)) only [↓EC,EW,seval,↓reduceIte,↓EBD,EBE])))
   rw [<-boT_bo (n:=(s:Int)) (by omega)]; rfl
theorem c_spec_l07Both {n:Int} {C S:List Int} (hC:fl32 C) (hS:fl32 S) (hn:0 <= n /\ n <= 32):PSpec Tryz.prog 89 [.agg (vi .u8 C),.agg (vi .u8 S),.int .i64 n] fun v=>v = .agg (vi .u8 (bo C S n)):=by
 have hCl:=hC.1
 have hSl:=hS.1
 refine spec_l07Both_f.f ?_
 dsimp only [spec_l07Both_F,pcal_B,pcalp_B,pcala_B,pcond_B,pgk_B,JN_B,LP_B]
 (refine bni ?_; repeat (refine bnk ?_; (try simp (disch:=first | omega | (simp only [LN]; omega)) only [↓EC,EW,seval,↓reduceIte,↓EBD,EBE])))
 refine LPx_of (σ:=Nat) 100000 [(67,41,1),(68,41,1),(70,41,1),(71,41,1)] (fun s=>[.int .i64 s]) (fun s=>[vi .u8 C,vi .u8 S,vi .u8 (List.replicate 32 0),vi .u8 (boT C S s)])
  (fun s=>(s:Int) <= n) (fun s=>(n - s).toNat) 0 (by simp [frameOk,names,lpz,sclp,scv,scvs,nrfs,nrf,FRB]) (by simp only [Int.natCast_zero]; omega) ?_ ?_
 ·(refine bni ?_; repeat (refine bnk ?_; simp (disch:=first | omega | (simp only [LN]; omega)) only [↓EC,EW,seval,↓reduceIte,↓EBD,EBE,ColV_def]))
  trivial
 ·intro s hs
  have q1:=boT_len (C:=C) (S:=S) s
  (refine bni ?_; repeat (refine bnk ?_; simp (disch:=first | omega | (simp only [LN]; omega)) only [↓EC,EW,seval,↓reduceIte,↓EBD,EBE,ColV_def,lheap_def]))
  (refine Split.mkB (fun h=>?_) (fun h=>?_) <;> (try simp only [SD] at h))
  ·have a1:=hC.2 s (by omega)
   have a2:=hS.2 (gi C s).toNat (by omega)
   (refine bni ?_; repeat (refine bnk ?_; (try simp (disch:=first | omega | (simp only [LN]; omega)) only [↓EC,EW,seval,↓reduceIte,↓EBD,EBE])))
   exact ⟨s + 1,by simp,rfl,by omega,by omega⟩
  ·obtain rfl:(n:Int) = s:=by omega
   (refine bni ?_; repeat (refine bnk ?_; (try simp (disch:=first | omega | (simp only [LN]; omega)) only [↓EC,EW,seval,↓reduceIte,↓EBD,EBE])))
   rw [<-boT_bo (n:=(s:Int)) (by omega)]; rfl
theorem c_spec_l07Pairs {n:Int} {l:List Int} (hl:fo32 l) (hn:0 <= n /\ n <= 32):PSpec Tryz.prog 108 [.agg (vi .u8 l),.int .i64 n] fun v=>v = .bool (prB l n):=by
 have hll:=hl.1
 refine spec_l07Pairs_f.f ?_
 dsimp only [spec_l07Pairs_F,pcal_B,pcalp_B,pcala_B,pcond_B,pgk_B,JN_B,LP_B]
 (refine bni ?_; repeat (refine bnk ?_; (try simp (disch:=first | omega | (simp only [LN]; omega)) only [↓EC,EW,seval,↓reduceIte,↓EBD,EBE])))
 refine LPx_of (σ:=Nat) 100000 [(66,41,1)] (fun s=>[.int .i64 s]) (fun s=>[vi .u8 l])
  (fun s=>s <= 32 /\ ∀ x,x < s -> PrAt l n x) (fun s=>32 - s) 0 (by simp [frameOk,names,lpz,sclp,scv,scvs,nrfs,nrf,FRB]) ⟨Nat.zero_le _,fun x hx=>absurd hx (Nat.not_lt_zero x)⟩ ?_ ?_
 ·(refine bni ?_; repeat (refine bnk ?_; simp (disch:=first | omega | (simp only [LN]; omega)) only [↓EC,EW,seval,↓reduceIte,↓EBD,EBE,ColV_def]))
 ·rintro s ⟨h1,h2⟩
  (refine bni ?_; repeat (refine bnk ?_; simp (disch:=first | omega | (simp only [LN]; omega)) only [↓EC,EW,seval,↓reduceIte,↓EBD,EBE,ColV_def,lheap_def]))
  (refine Split.mkB (fun h=>?_) (fun h=>?_) <;> (try simp only [SD] at h))
  ·have a1:=hl.2 s (by omega)
   refine JNx_un ?_
   have nx:PrAt l n s -> ∀ x,x < s + 1 -> PrAt l n x:=fun h x hx=>by
    by_cases e:x = s
    ·subst e; exact h
    ·exact h2 x (by omega)
   (refine bni ?_; repeat (refine bnk ?_; (try simp (disch:=first | omega | (simp only [LN]; omega)) only [↓EC,EW,seval,↓reduceIte,↓EBD,EBE])))
   (refine Split.mkB (fun h=>?_) (fun h=>?_) <;> (try simp only [SD] at h))
   ·(refine bni ?_; repeat (refine bnk ?_; (try simp (disch:=first | omega | (simp only [LN]; omega)) only [↓EC,EW,seval,↓reduceIte,↓EBD,EBE])))
    (refine Split.mkB (fun h=>?_) (fun h=>?_) <;> (try simp only [SD] at h))
    ·(refine bni ?_; repeat (refine bnk ?_; (try simp (disch:=first | omega | (simp only [LN]; omega)) only [↓EC,EW,seval,↓reduceIte,↓EBD,EBE])))
     rw [prB_no (x:=s) (by omega) fun q=>by have:=q.2 (by omega); omega]
    ·(refine bni ?_; repeat (refine bnk ?_; (try simp (disch:=first | omega | (simp only [LN]; omega)) only [↓EC,EW,seval,↓reduceIte,↓EBD,EBE])))
     exact ⟨s + 1,by simp,⟨by omega,nx ⟨fun _=>by omega,fun _=>by omega⟩⟩,by omega⟩
   ·(refine bni ?_; repeat (refine bnk ?_; (try simp (disch:=first | omega | (simp only [LN]; omega)) only [↓EC,EW,seval,↓reduceIte,↓EBD,EBE])))
    (refine Split.mkB (fun h=>?_) (fun h=>?_) <;> (try simp only [SD] at h))
    ·(refine bni ?_; repeat (refine bnk ?_; (try simp (disch:=first | omega | (simp only [LN]; omega)) only [↓EC,EW,seval,↓reduceIte,↓EBD,EBE])))
     rw [prB_no (x:=s) (by omega) fun q=>by have:=q.1 (by omega); omega]
    ·(refine bni ?_; repeat (refine bnk ?_; (try simp (disch:=first | omega | (simp only [LN]; omega)) only [↓EC,EW,seval,↓reduceIte,↓EBD,EBE])))
     (refine Split.mkB (fun h=>?_) (fun h=>?_) <;> (try simp only [SD] at h))
     ·(refine bni ?_; repeat (refine bnk ?_; (try simp (disch:=first | omega | (simp only [LN]; omega)) only [↓EC,EW,seval,↓reduceIte,↓EBD,EBE])))
      rw [prB_no (x:=s) (by omega) fun q=>by have:=q.1 (by omega); omega]
     ·have a2:=hl.2 (gi l s).toNat (by omega)
      (refine bni ?_; repeat (refine bnk ?_; (try simp (disch:=first | omega | (simp only [LN]; omega)) only [↓EC,EW,seval,↓reduceIte,↓EBD,EBE])))
      (refine Split.mkB (fun h=>?_) (fun h=>?_) <;> (try simp only [SD] at h))
      ·(refine bni ?_; repeat (refine bnk ?_; (try simp (disch:=first | omega | (simp only [LN]; omega)) only [↓EC,EW,seval,↓reduceIte,↓EBD,EBE])))
       rw [prB_no (x:=s) (by omega) fun q=>by have:=q.1 (by omega); omega]
      ·(refine bni ?_; repeat (refine bnk ?_; (try simp (disch:=first | omega | (simp only [LN]; omega)) only [↓EC,EW,seval,↓reduceIte,↓EBD,EBE])))
       exact ⟨s + 1,by simp,⟨by omega,nx ⟨fun _=>by omega,fun _=>by omega⟩⟩,by omega⟩
  ·(refine bni ?_; repeat (refine bnk ?_; (try simp (disch:=first | omega | (simp only [LN]; omega)) only [↓EC,EW,seval,↓reduceIte,↓EBD,EBE])))
   rw [prB_iff.2 fun x hx=>h2 x (by omega)]
end
section
set_option maxHeartbeats 4000000
theorem tmod4 {n:Int} (h:4 <= n):n.tmod 4 = n % 4:=Int.tmod_eq_emod_of_nonneg (by omega)
theorem obs_set3 {C T S:List Int}:([C,T,S]:List (List Int)).flatten = C ++ T ++ S:=by simp
theorem beq1 {a:Nat}:((a:Int) == 1) = decide (a = 1):=by
 by_cases h:a = 1
 ·subst h; rfl
 ·rw [decide_eq_false h]
  have:¬ (a:Int) = 1:=by omega
  simpa using this
theorem obs_set2 {X Y:List Int}:([X,Y]:List (List Int)).flatten = X ++ Y:=by simp
section
variable {n:Int} {C T S:List Int}
structure Fk (n:Int) (C T S:List Int):Prop where
 hn:4 <= n /\ n <= 32
 h4:n % 4 = 0
 pC:Prs C n
 pT:Prs T n
 pS:Prs S n
 co:∀ x:Nat,(x:Int) < n -> gi S (gi C x).toNat = gi C (gi S x).toNat
 ne:∀ x:Nat,(x:Int) < n -> gi S (gi C x).toNat ≠ x
theorem Fk.flB (h:Fk n C T S):flB n C T S = decide ((obs [C,T,S] n.toNat).length = 1):=by
 by_cases q:(obs [C,T,S] n.toNat).length = 1
 ·rw [flB_yes ⟨h.hn,h.h4,h.pC,h.pT,h.pS,h.co,h.ne,q⟩]; simp [q]
 ·rw [flB_no fun f=>q f.on]; simp [q]
end
theorem c_impl_AreFlags {n:Int} {C T S:List Int} (hC:fo32 C) (hT:fo32 T) (hS:fo32 S):PSpec Tryz.prog 30 [vF n C T S] fun v=>v = .bool (flB n C T S):=by
 have hCl:=hC.1
 have hTl:=hT.1
 have hSl:=hS.1
 have hct:(C ++ T).length = 64:=by simp [hCl,hTl]
 have hcts:(C ++ T ++ S).length = 96:=by simp [hCl,hTl,hSl]
 have t1:List.take 32 (C ++ T ++ S) = C:=by rw [List.append_assoc,<-hCl,List.take_left]
 have t2:List.take 32 (List.drop 32 (C ++ T ++ S)) = T:=by
  have:List.drop 32 (C ++ T ++ S) = T ++ S:=by rw [List.append_assoc,<-hCl,List.drop_left]
  rw [this,<-hTl,List.take_left]
 refine impl_AreFlags_f.f ?_
 unfold vF
 dsimp only [impl_AreFlags_F,pcal_B,pcalp_B,pcala_B,pcond_B,pgk_B,JN_B,LP_B]
 (refine bni ?_; repeat (refine bnk ?_; (try simp (disch:=first | omega | (simp only [LN]; omega)) only [↓EC,EW,seval,↓reduceIte,↓EBD,EBE])))
 (refine Split.mkB (fun h=>?_) (fun h=>?_) <;> (try simp only [SD] at h))
 ·(refine bni ?_; repeat (refine bnk ?_; (try simp (disch:=first | omega | (simp only [LN]; omega)) only [↓EC,EW,seval,↓reduceIte,↓EBD,EBE])))
  rw [flB_no fun h=>by have:=h.hn; omega]
 ·(refine bni ?_; repeat (refine bnk ?_; (try simp (disch:=first | omega | (simp only [LN]; omega)) only [↓EC,EW,seval,↓reduceIte,↓EBD,EBE])))
  (refine Split.mkB (fun h=>?_) (fun h=>?_) <;> (try simp only [SD] at h))
  ·(refine bni ?_; repeat (refine bnk ?_; (try simp (disch:=first | omega | (simp only [LN]; omega)) only [↓EC,EW,seval,↓reduceIte,↓EBD,EBE])))
   rw [flB_no fun h=>by have:=h.hn; omega]
  ·(refine bni ?_; repeat (refine bnk ?_; (try simp (disch:=first | omega | (simp only [LN]; omega)) only [↓EC,EW,seval,↓reduceIte,↓EBD,EBE])))
   (refine Split.mkB (fun h=>?_) (fun h=>?_) <;> (try simp only [SD] at h))
   ·(refine bni ?_; repeat (refine bnk ?_; (try simp (disch:=first | omega | (simp only [LN]; omega)) only [↓EC,EW,seval,↓reduceIte,↓EBD,EBE])))
    rw [flB_no fun h=>by have:=h.h4; have:=h.hn; have:=tmod4 this.1; omega]
   ·have h4:n % 4 = 0:=by have:=tmod4 (n:=n) (by omega); omega
    (refine bni ?_; repeat (refine bnk ?_; (try simp (disch:=first | omega | (simp only [LN]; omega)) only [↓EC,EW,seval,↓reduceIte,↓EBD,EBE])))
    refine LPx_of (σ:=Nat) 100000 [(65,43,1),(94,41,32)] (fun s=>[.int .i64 s]) (fun s=>[.int .i64 n :: vi .u8 (C ++ T ++ S),vi .u8 (C ++ T ++ S)])
     (fun s=>s <= 3 /\ ∀ j,j < s -> Prs (gl [C,T,S] j) n) (fun s=>3 - s) 0 (by simp [frameOk,names,lpz,sclp,scv,scvs,nrfs,nrf,FRB]) ⟨Nat.zero_le _,fun j hj=>absurd hj (Nat.not_lt_zero j)⟩ ?_ ?_
    ·(refine bni ?_; repeat (refine bnk ?_; simp (disch:=first | omega | (simp only [LN]; omega)) only [↓EC,EW,seval,↓reduceIte,↓EBD,EBE,ColV_def]))
     rw [t1,t2]
    ·rintro j ⟨g1,g2⟩
     (refine bni ?_; repeat (refine bnk ?_; simp (disch:=first | omega | (simp only [LN]; omega)) only [↓EC,EW,seval,↓reduceIte,↓EBD,EBE,ColV_def,lheap_def]))
     (refine Split.mkB (fun h=>?_) (fun h=>?_) <;> (try simp only [SD] at h))
     ·have hj:j < 3:=by omega
      have hrow:=flat_row (L:=[C,T,S]) (j:=j) (by simp [hCl,hTl,hSl]) hj
      have hok:fo32 (gl [C,T,S] j):=by
       have:j = 0 ∨ j = 1 ∨ j = 2:=by omega
       rcases this with rfl | rfl | rfl <;> assumption
      rw [obs_set3] at hrow
      have nof:¬ Prs (gl [C,T,S] j) n -> flB n C T S = false:=fun q=>flB_no fun f=>q (by
       have:j = 0 ∨ j = 1 ∨ j = 2:=by omega
       rcases this with rfl | rfl | rfl
       ·exact f.pC
       ·exact f.pT
       ·exact f.pS)
      have nx:Prs (gl [C,T,S] j) n -> ∀ i,i < j + 1 -> Prs (gl [C,T,S] i) n:=fun q i hi=>by
       by_cases e:i = j
       ·subst e; exact q
       ·exact g2 i (by omega)
      have hll:=hok.1
      (refine bni ?_; repeat (refine bnk ?_; (try simp (disch:=first | omega | (simp only [LN]; omega)) only [↓EC,EW,seval,↓reduceIte,↓EBD,EBE,hrow])))
      generalize gl [C,T,S] j = l at hrow hok nof nx hll
      refine LPx_of (σ:=Nat) 200000 [(65,43,1),(94,41,32),(68,41,1)] (fun s=>[.int .i64 s]) (fun s=>[.int .i64 n :: vi .u8 (C ++ T ++ S),vi .u8 (C ++ T ++ S),vi .u8 l])
       (fun s=>s <= 32 /\ ∀ x,x < s -> PrAt l n x) (fun s=>32 - s) 0 (by simp [frameOk,names,lpz,sclp,scv,scvs,nrfs,nrf,FRB]) ⟨Nat.zero_le _,fun j hj=>absurd hj (Nat.not_lt_zero j)⟩ ?_ ?_
      ·(refine bni ?_; repeat (refine bnk ?_; simp (disch:=first | omega | (simp only [LN]; omega)) only [↓EC,EW,seval,↓reduceIte,↓EBD,EBE,ColV_def]))
      ·rintro s ⟨f1,f2⟩
       (refine bni ?_; repeat (refine bnk ?_; simp (disch:=first | omega | (simp only [LN]; omega)) only [↓EC,EW,seval,↓reduceIte,↓EBD,EBE,ColV_def,lheap_def]))
       (refine Split.mkB (fun h=>?_) (fun h=>?_) <;> (try simp only [SD] at h))
       ·have a1:=hok.2 s (by omega)
        refine JNx_un ?_
        have nx:PrAt l n s -> ∀ x,x < s + 1 -> PrAt l n x:=fun h x hx=>by
         by_cases e:x = s
         ·subst e; exact h
         ·exact f2 x (by omega)
        (refine bni ?_; repeat (refine bnk ?_; (try simp (disch:=first | omega | (simp only [LN]; omega)) only [↓EC,EW,seval,↓reduceIte,↓EBD,EBE])))
        (refine Split.mkB (fun h=>?_) (fun h=>?_) <;> (try simp only [SD] at h))
        ·(refine bni ?_; repeat (refine bnk ?_; (try simp (disch:=first | omega | (simp only [LN]; omega)) only [↓EC,EW,seval,↓reduceIte,↓EBD,EBE])))
         (refine Split.mkB (fun h=>?_) (fun h=>?_) <;> (try simp only [SD] at h))
         ·(refine bni ?_; repeat (refine bnk ?_; (try simp (disch:=first | omega | (simp only [LN]; omega)) only [↓EC,EW,seval,↓reduceIte,↓EBD,EBE])))
          rw [nof fun q=>by have:=(q s (by omega)).2 (by omega); omega]
         ·(refine bni ?_; repeat (refine bnk ?_; (try simp (disch:=first | omega | (simp only [LN]; omega)) only [↓EC,EW,seval,↓reduceIte,↓EBD,EBE])))
          exact ⟨s + 1,by simp,⟨by omega,nx ⟨fun _=>by omega,fun _=>by omega⟩⟩,by omega⟩
        ·(refine bni ?_; repeat (refine bnk ?_; (try simp (disch:=first | omega | (simp only [LN]; omega)) only [↓EC,EW,seval,↓reduceIte,↓EBD,EBE])))
         (refine Split.mkB (fun h=>?_) (fun h=>?_) <;> (try simp only [SD] at h))
         ·(refine bni ?_; repeat (refine bnk ?_; (try simp (disch:=first | omega | (simp only [LN]; omega)) only [↓EC,EW,seval,↓reduceIte,↓EBD,EBE])))
          rw [nof fun q=>by have:=(q s (by omega)).1 (by omega); omega]
         ·(refine bni ?_; repeat (refine bnk ?_; (try simp (disch:=first | omega | (simp only [LN]; omega)) only [↓EC,EW,seval,↓reduceIte,↓EBD,EBE])))
          (refine Split.mkB (fun h=>?_) (fun h=>?_) <;> (try simp only [SD] at h))
          ·(refine bni ?_; repeat (refine bnk ?_; (try simp (disch:=first | omega | (simp only [LN]; omega)) only [↓EC,EW,seval,↓reduceIte,↓EBD,EBE])))
           rw [nof fun q=>by have:=(q s (by omega)).1 (by omega); omega]
          ·have a2:=hok.2 (gi l s).toNat (by omega)
           (refine bni ?_; repeat (refine bnk ?_; (try simp (disch:=first | omega | (simp only [LN]; omega)) only [↓EC,EW,seval,↓reduceIte,↓EBD,EBE])))
           (refine Split.mkB (fun h=>?_) (fun h=>?_) <;> (try simp only [SD] at h))
           ·(refine bni ?_; repeat (refine bnk ?_; (try simp (disch:=first | omega | (simp only [LN]; omega)) only [↓EC,EW,seval,↓reduceIte,↓EBD,EBE])))
            rw [nof fun q=>by have:=(q s (by omega)).1 (by omega); omega]
           ·(refine bni ?_; repeat (refine bnk ?_; (try simp (disch:=first | omega | (simp only [LN]; omega)) only [↓EC,EW,seval,↓reduceIte,↓EBD,EBE])))
            exact ⟨s + 1,by simp,⟨by omega,nx ⟨fun _=>by omega,fun _=>by omega⟩⟩,by omega⟩
       ·(refine bni ?_; repeat (refine bnk ?_; (try simp (disch:=first | omega | (simp only [LN]; omega)) only [↓EC,EW,seval,↓reduceIte,↓EBD,EBE])))
        exact ⟨j + 1,by simp,⟨by omega,nx fun x hx=>f2 x (by omega)⟩,by omega⟩
     ·have pC:Prs C n:=g2 0 (by omega)
      have pT:Prs T n:=g2 1 (by omega)
      have pS:Prs S n:=g2 2 (by omega)
      have lC:=pC.lo hC (by omega)
      have lS:=pS.lo hS (by omega)
      (refine bni ?_; repeat (refine bnk ?_; (try simp (disch:=first | omega | (simp only [LN]; omega)) only [↓EC,EW,seval,↓reduceIte,↓EBD,EBE])))
      refine LPx_of (σ:=Nat) 200000 [(65,43,1)] (fun s=>[.int .i64 s]) (fun s=>[.int .i64 n :: vi .u8 (C ++ T ++ S)])
       (fun s=>s <= n.toNat /\ ∀ x,x < s -> gi S (gi C x).toNat = gi C (gi S x).toNat /\ gi S (gi C x).toNat ≠ x) (fun s=>n.toNat - s) 0 (by simp [frameOk,names,lpz,sclp,scv,scvs,nrfs,nrf,FRB]) ⟨Nat.zero_le _,fun j hj=>absurd hj (Nat.not_lt_zero j)⟩ ?_ ?_
      ·(refine bni ?_; repeat (refine bnk ?_; simp (disch:=first | omega | (simp only [LN]; omega)) only [↓EC,EW,seval,↓reduceIte,↓EBD,EBE,ColV_def]))
      ·rintro s ⟨f1,f2⟩
       (refine bni ?_; repeat (refine bnk ?_; simp (disch:=first | omega | (simp only [LN]; omega)) only [↓EC,EW,seval,↓reduceIte,↓EBD,EBE,ColV_def,lheap_def]))
       (refine Split.mkB (fun h=>?_) (fun h=>?_) <;> (try simp only [SD] at h))
       ·have a1:=lC.2 s (by omega)
        have a2:=lS.2 s (by omega)
        have a3:=lS.2 (gi C s).toNat (by omega)
        have a4:=lC.2 (gi S s).toNat (by omega)
        (refine bni ?_; repeat (refine bnk ?_; (try simp (disch:=first | omega | (simp only [LN]; omega)) only [↓EC,EW,seval,↓reduceIte,↓EBD,EBE,getD_33,getD_65,hct,hCl])))
        (refine Split.mkB (fun h=>?_) (fun h=>?_) <;> (try simp only [SD] at h))
        ·(refine bni ?_; repeat (refine bnk ?_; (try simp (disch:=first | omega | (simp only [LN]; omega)) only [↓EC,EW,seval,↓reduceIte,↓EBD,EBE])))
         rw [flB_no fun q=>by have:=q.co s (by omega); omega]
        ·(refine bni ?_; repeat (refine bnk ?_; (try simp (disch:=first | omega | (simp only [LN]; omega)) only [↓EC,EW,seval,↓reduceIte,↓EBD,EBE])))
         (refine Split.mkB (fun h=>?_) (fun h=>?_) <;> (try simp only [SD] at h))
         ·(refine bni ?_; repeat (refine bnk ?_; (try simp (disch:=first | omega | (simp only [LN]; omega)) only [↓EC,EW,seval,↓reduceIte,↓EBD,EBE])))
          rw [flB_no fun q=>by have:=q.ne s (by omega); omega]
         ·(refine bni ?_; repeat (refine bnk ?_; (try simp (disch:=first | omega | (simp only [LN]; omega)) only [↓EC,EW,seval,↓reduceIte,↓EBD,EBE])))
          exact ⟨s + 1,by simp,⟨by omega,fun x hx=>by
           by_cases e:x = s
           ·subst e; omega
           ·exact f2 x (by omega)⟩,by omega⟩
       ·have K:Fk n C T S:=⟨⟨by omega,by omega⟩,h4,pC,pT,pS,fun x hx=>(f2 x (by omega)).1,fun x hx=>(f2 x (by omega)).2⟩
        have k:=c_impl_orbits (L:=[C,T,S]) (N:=n.toNat) (n:=n) (by omega) (by omega) (ivs3 (pC.iv hC (by omega)) (pT.iv hT (by omega)) (pS.iv hS (by omega))) (by simp [hCl,hTl,hSl]) (by simp)
        have e3:([C,T,S]:List (List Int)).length = 3:=rfl
        rw [obs_set3,e3] at k
        (refine bni ?_; repeat (refine bnk ?_; (try simp (disch:=first | omega | (simp only [LN]; omega)) only [↓EC,EW,seval,↓reduceIte,↓EBD,EBE,t1,t2])))
        refine pcd_v k ?_
        (refine bni ?_; repeat (refine bnk ?_; (try simp (disch:=first | omega | (simp only [LN]; omega)) only [↓EC,EW,seval,↓reduceIte,↓EBD,EBE])))
        rw [K.flB,beq1]
theorem bo_comm {n:Int} {C S:List Int} (hn:n <= 32):bo C S n = bo S C n ↔ ∀ x:Nat,(x:Int) < n -> gi S (gi C x).toNat = gi C (gi S x).toNat:=by
 constructor
 ·intro h x hx
  have e1:=bo_at (C:=C) (S:=S) (n:=n) (x:=x) (by omega)
  have e2:=bo_at (C:=S) (S:=C) (n:=n) (x:=x) (by omega)
  rw [if_pos hx] at e1 e2
  rw [<-e1,<-e2,h]
 ·intro h
  refine ext32 bo_len bo_len fun i hi=>?_
  rw [bo_at hi,bo_at hi]
  by_cases q:(i:Int) < n
  ·rw [if_pos q,if_pos q,h i q]
  ·rw [if_neg q,if_neg q]
theorem c_spec_l07Are {n:Int} {C T S:List Int} (hC:fo32 C) (hT:fo32 T) (hS:fo32 S):PSpec Tryz.prog 82 [vF n C T S] fun v=>v = .bool (flB n C T S):=by
 have hCl:=hC.1
 have hTl:=hT.1
 have hSl:=hS.1
 have hct:(C ++ T).length = 64:=by simp [hCl,hTl]
 have hcts:(C ++ T ++ S).length = 96:=by simp [hCl,hTl,hSl]
 have t1:List.take 32 (C ++ T ++ S) = C:=by rw [List.append_assoc,<-hCl,List.take_left]
 have t2:List.take 32 (List.drop 32 (C ++ T ++ S)) = T:=by
  have:List.drop 32 (C ++ T ++ S) = T ++ S:=by rw [List.append_assoc,<-hCl,List.drop_left]
  rw [this,<-hTl,List.take_left]
 have t3:List.drop 64 (C ++ T ++ S) = S:=by rw [<-hct,List.drop_left]
 refine spec_l07Are_f.f ?_
 unfold vF
 dsimp only [spec_l07Are_F,pcal_B,pcalp_B,pcala_B,pcond_B,pgk_B,JN_B,LP_B]
 (refine bni ?_; repeat (refine bnk ?_; (try simp (disch:=first | omega | (simp only [LN]; omega)) only [↓EC,EW,seval,↓reduceIte,↓EBD,EBE])))
 refine pcd_v c_spec_l01In ?_
 by_cases hn:4 <= n /\ n <= 32
 ·have e1:decide ((4:Int) <= n /\ n <= 32) = true:=by simpa using hn
  (refine bni ?_; repeat (refine bnk ?_; (try simp (disch:=first | omega | (simp only [LN]; omega)) only [↓EC,EW,seval,↓reduceIte,↓EBD,EBE,e1])))
  (refine Split.mkB (fun h=>?_) (fun h=>?_) <;> (try simp only [SD] at h))
  ·(refine bni ?_; repeat (refine bnk ?_; (try simp (disch:=first | omega | (simp only [LN]; omega)) only [↓EC,EW,seval,↓reduceIte,↓EBD,EBE])))
   rw [flB_no fun h=>by have:=h.h4; have:=tmod4 hn.1; omega]
  ·have h4:n % 4 = 0:=by have:=tmod4 hn.1; omega
   (refine bni ?_; repeat (refine bnk ?_; (try simp (disch:=first | omega | (simp only [LN]; omega)) only [↓EC,EW,seval,↓reduceIte,↓EBD,EBE,t1])))
   refine pcd_v (c_spec_l07Pairs hC (by omega)) ?_
   cases pC:prB C n with
   | false =>
    (refine bni ?_; repeat (refine bnk ?_; (try simp (disch:=first | omega | (simp only [LN]; omega)) only [↓EC,EW,seval,↓reduceIte,↓EBD,EBE])))
    rw [flB_no fun h=>by rw [prB_iff.2 h.pC] at pC; cases pC]
   | true =>
    (refine bni ?_; repeat (refine bnk ?_; (try simp (disch:=first | omega | (simp only [LN]; omega)) only [↓EC,EW,seval,↓reduceIte,↓EBD,EBE,t2])))
    refine pcd_v (c_spec_l07Pairs hT (by omega)) ?_
    cases pT:prB T n with
    | false =>
     (refine bni ?_; repeat (refine bnk ?_; (try simp (disch:=first | omega | (simp only [LN]; omega)) only [↓EC,EW,seval,↓reduceIte,↓EBD,EBE])))
     rw [flB_no fun h=>by rw [prB_iff.2 h.pT] at pT; cases pT]
    | true =>
     (refine bni ?_; repeat (refine bnk ?_; (try simp (disch:=first | omega | (simp only [LN]; omega)) only [↓EC,EW,seval,↓reduceIte,↓EBD,EBE,t3])))
     refine pcd_v (c_spec_l07Pairs hS (by omega)) ?_
     cases pS:prB S n with
     | false =>
      (refine bni ?_; repeat (refine bnk ?_; (try simp (disch:=first | omega | (simp only [LN]; omega)) only [↓EC,EW,seval,↓reduceIte,↓EBD,EBE])))
      rw [flB_no fun h=>by rw [prB_iff.2 h.pS] at pS; cases pS]
     | true =>
      have lC:=(prB_iff.1 pC).lo hC (by omega)
      have lS:=(prB_iff.1 pS).lo hS (by omega)
      have b1:=bo_len (C:=C) (S:=S) (n:=n)
      have b2:=bo_len (C:=S) (S:=C) (n:=n)
      (refine bni ?_; repeat (refine bnk ?_; (try simp (disch:=first | omega | (simp only [LN]; omega)) only [↓EC,EW,seval,↓reduceIte,↓EBD,EBE,t1,t3])))
      refine pcd_v (c_spec_l07Both (n:=n) lC lS (by omega)) ?_
      (refine bni ?_; repeat (refine bnk ?_; (try simp (disch:=first | omega | (simp only [LN]; omega)) only [↓EC,EW,seval,↓reduceIte,↓EBD,EBE,t1,t3])))
      refine pcd_v (c_spec_l07Both (n:=n) lS lC (by omega)) ?_
      have v1:=vleq32 b1 b2
      have t4:List.take 32 (bo C S n) = bo C S n:=List.take_of_length_le (by omega)
      (refine bni ?_; repeat (refine bnk ?_; (try simp (disch:=first | omega | (simp only [LN]; omega)) only [↓EC,EW,seval,↓reduceIte,↓EBD,EBE,v1,t4])))
      (refine Split.mkB (fun h=>?_) (fun h=>?_) <;> (try simp only [SD] at h))
      ·(refine bni ?_; repeat (refine bnk ?_; (try simp (disch:=first | omega | (simp only [LN]; omega)) only [↓EC,EW,seval,↓reduceIte,↓EBD,EBE,t4])))
       have lB:fl32 (bo C S n):=⟨b1,fun i hi=>by
        rw [bo_at hi]
        split
        ·exact lS.2 _ (by have:=lC.2 i hi; omega)
        ·omega⟩
       refine pcd_v (c_spec_l07Pairs (n:=n) lB.ok (by omega)) ?_
       cases pB:prB (bo C S n) n with
       | false =>
        (refine bni ?_; repeat (refine bnk ?_; (try simp (disch:=first | omega | (simp only [LN]; omega)) only [↓EC,EW,seval,↓reduceIte,↓EBD,EBE])))
        rw [flB_no fun h=>by
         have:=(h.fo hC hT hS).pP
         rw [prB_iff.2 this] at pB; cases pB]
       | true =>
        have K:Fk n C T S:=⟨hn,h4,prB_iff.1 pC,prB_iff.1 pT,prB_iff.1 pS,(bo_comm hn.2).1 h,fun x hx=>by
         have:=(prB_iff.1 pB x (by omega)).1 hx
         rw [bo_at (by omega),if_pos hx] at this
         exact this.2.2.1⟩
        have k:=c_spec_l07Sets (L:=[C,T,S]) (N:=n.toNat) (n:=n) (by omega) (by omega) (ivs3 (K.pC.iv hC (by omega)) (K.pT.iv hT (by omega)) (K.pS.iv hS (by omega))) (by simp [hCl,hTl,hSl]) (by simp)
        have e3:([C,T,S]:List (List Int)).length = 3:=rfl
        rw [obs_set3,e3] at k
        (refine bni ?_; repeat (refine bnk ?_; (try simp (disch:=first | omega | (simp only [LN]; omega)) only [↓EC,EW,seval,↓reduceIte,↓EBD,EBE,t1,t2,t3])))
        refine pcd_v k ?_
        (refine bni ?_; repeat (refine bnk ?_; (try simp (disch:=first | omega | (simp only [LN]; omega)) only [↓EC,EW,seval,↓reduceIte,↓EBD,EBE])))
        rw [K.flB,beq1]
      ·(refine bni ?_; repeat (refine bnk ?_; (try simp (disch:=first | omega | (simp only [LN]; omega)) only [↓EC,EW,seval,↓reduceIte,↓EBD,EBE])))
       rw [flB_no fun q=>h ((bo_comm hn.2).2 q.co)]
 ·have e1:decide ((4:Int) <= n /\ n <= 32) = false:=by simpa using hn
  (refine bni ?_; repeat (refine bnk ?_; (try simp (disch:=first | omega | (simp only [LN]; omega)) only [↓EC,EW,seval,↓reduceIte,↓EBD,EBE,e1])))
  rw [flB_no fun h=>hn h.hn]
def z32:List Int:=List.replicate 32 0
theorem z32_len:z32.length = 32:=by simp [z32]
theorem fo_z32:fo32 z32:=⟨z32_len,fun i hi=>by unfold z32; rw [gi_rep]; split <;> omega⟩
abbrev FCode:=(Int × List Int × List Int × List Int) × Int
def vFC (r:FCode):V:=.tup [vF r.1.1 r.1.2.1 r.1.2.2.1 r.1.2.2.2,.int .i64 r.2]
noncomputable def tuR (n:Int) (C T S:List Int) (k:Int):FCode :=
 if flB n C T S = true then (if 0 <= k /\ k <= 5 then ((n,tuC C S n k,T,tuS C S n k),0) else ((0,z32,z32,z32),2)) else ((0,z32,z32,z32),1)
theorem tuR_no {n k:Int} {C T S:List Int} (h:flB n C T S = false):tuR n C T S k = ((0,z32,z32,z32),1):=by simp [tuR,h]
theorem tuR_out {n k:Int} {C T S:List Int} (h:flB n C T S = true) (hk:¬ (0 <= k /\ k <= 5)):tuR n C T S k = ((0,z32,z32,z32),2):=by simp only [tuR,h,if_true]; rw [if_neg hk]
theorem tuR_in {n k:Int} {C T S:List Int} (h:flB n C T S = true) (hk:0 <= k /\ k <= 5):tuR n C T S k = ((n,tuC C S n k,T,tuS C S n k),0):=by simp only [tuR,h,if_true]; rw [if_pos hk]
section
variable {p0 p1 p2 p3 p4 p5:List Int}
theorem six (h0:p0.length = 64) (h1:p1.length = 64) (h2:p2.length = 64) (h3:p3.length = 64) (h4:p4.length = 64) (h5:p5.length = 64) :
  List.take 64 (p0 ++ p1 ++ p2 ++ p3 ++ p4 ++ p5) = p0 /\ List.take 64 (List.drop 64 (p0 ++ p1 ++ p2 ++ p3 ++ p4 ++ p5)) = p1 /\ List.take 64 (List.drop 128 (p0 ++ p1 ++ p2 ++ p3 ++ p4 ++ p5)) = p2 /\
  List.take 64 (List.drop 192 (p0 ++ p1 ++ p2 ++ p3 ++ p4 ++ p5)) = p3 /\ List.take 64 (List.drop 256 (p0 ++ p1 ++ p2 ++ p3 ++ p4 ++ p5)) = p4 /\ List.take 64 (List.drop 320 (p0 ++ p1 ++ p2 ++ p3 ++ p4 ++ p5)) = p5:=by
 have tk:∀ {p r:List Int},p.length = 64 -> List.take 64 (p ++ r) = p:=fun {p r} h=>by rw [<-h,List.take_left]
 have dr:∀ {p r:List Int} (m:Nat),p.length = 64 -> List.drop (64 + m) (p ++ r) = List.drop m r:=fun {p r} m h=>by rw [<-h,<-List.drop_drop,List.drop_left]
 simp only [List.append_assoc]
 refine ⟨tk h0,?_,?_,?_,?_,?_⟩
 ·rw [show (64:Nat) = 64 + 0 from rfl,dr 0 h0]; exact tk h1
 ·rw [show (128:Nat) = 64 + (64 + 0) from rfl,dr _ h0,dr _ h1]; exact tk h2
 ·rw [show (192:Nat) = 64 + (64 + (64 + 0)) from rfl,dr _ h0,dr _ h1,dr _ h2]; exact tk h3
 ·rw [show (256:Nat) = 64 + (64 + (64 + (64 + 0))) from rfl,dr _ h0,dr _ h1,dr _ h2,dr _ h3]; exact tk h4
 ·rw [show (320:Nat) = 64 + (64 + (64 + (64 + (64 + 0)))) from rfl,dr _ h0,dr _ h1,dr _ h2,dr _ h3,dr _ h4,List.drop_zero,<-h5,List.take_length]
end
theorem tk32 {p r:List Int} (h:p.length = 32):List.take 32 (p ++ r) = p:=by rw [<-h,List.take_left]
theorem dr32 {p r:List Int} (h:p.length = 32):List.drop 32 (p ++ r) = r:=by rw [<-h,List.drop_left]
end
section
set_option maxHeartbeats 1000000
abbrev Cst:=List Int × List Int
def cst (y x:Int) (s:Cst):Option Cst:=if gi s.2 y.toNat = 0 then some (s.1 ++ [y],s.2.set y.toNat (3 - gi s.2 x.toNat)) else if gi s.2 y.toNat = gi s.2 x.toNat then none else some s
def clV:List (List Int) -> Int -> Cst -> Option Cst
 | [],_,s=>some s
 | l :: L,x,s=>(cst (gi l x.toNat) x s).bind (clV L x)
def clRun (L:List (List Int)):Nat -> Nat -> Cst -> Option Cst
 | 0,_,s=>some s
 | f + 1,k,s=>if k < s.1.length then (clV L (gi s.1 k) s).bind (clRun L f (k + 1)) else some s
def cls0:Cst:=([0],(List.replicate 32 0).set 0 1)
def clsR (L:List (List Int)):Option Cst:=clRun L 33 0 cls0
section
variable {L:List (List Int)} {N:Nat} {s s':Cst} {x y:Int}
structure Cx (N:Nat) (s:Cst):Prop where
 l2:s.2.length = 32
 nd:s.1.Nodup
 lt:∀ y ∈ s.1,0 <= y /\ y < N
 has:∀ y:Nat,y < 32 -> (gi s.2 y ≠ 0 ↔ (y:Int) ∈ s.1)
 vs:∀ y:Nat,gi s.2 y = 0 ∨ gi s.2 y = 1 ∨ gi s.2 y = 2
structure Pre (s s':Cst):Prop where
 le:s.1.length <= s'.1.length
 eq:∀ j,j < s.1.length -> gi s'.1 j = gi s.1 j
 cl:∀ y:Nat,gi s.2 y ≠ 0 -> gi s'.2 y = gi s.2 y
theorem Pre.refl:Pre s s:=⟨Nat.le_refl _,fun _ _=>rfl,fun _ _=>rfl⟩
theorem Pre.trans {t:Cst} (h:Pre s s') (h':Pre s' t):Pre s t:=⟨Nat.le_trans h.le h'.le,fun j hj=>(h'.eq j (Nat.lt_of_lt_of_le hj h.le)).trans (h.eq j hj),fun y hy=>by
 have:=h.cl y hy
 rw [h'.cl y (by rw [this]; exact hy),this]⟩
theorem Pre.mem (h:Pre s s') (hx:x ∈ s.1):x ∈ s'.1:=by
 obtain ⟨j,hj,rfl⟩:=List.getElem_of_mem hx
 have e:=h.eq j hj
 rw [gi_of hj,gi_of (show j < s'.1.length from Nat.lt_of_lt_of_le hj h.le)] at e
 rw [<-e]; exact List.getElem_mem _
theorem Cx.cl (hN:N <= 32) (h:Cx N s) (hx:x ∈ s.1):gi s.2 x.toNat = 1 ∨ gi s.2 x.toNat = 2:=by
 have hl:=h.lt x hx
 have:=(h.has x.toNat (by omega)).2 (by rw [show ((x.toNat:Nat):Int) = x by omega]; exact hx)
 have:=h.vs x.toNat
 omega
theorem Cx.len (h:Cx N s):s.1.length <= N:=by
 have:=nodup_len N (s.1.map Int.toNat) (List.pairwise_map.2 (List.Pairwise.imp_of_mem (fun {a c} ha hc hne ee=>by
  have:=h.lt a ha
  have:=h.lt c hc
  omega) h.nd)) fun z hz=>by
  obtain ⟨u,hu,rfl⟩:=List.mem_map.1 hz
  have:=h.lt u hu
  omega
 simpa using this
theorem Cx.add (hN:N <= 32) (h:Cx N s) (hx:x ∈ s.1) (hy:0 <= y /\ y < N) (h0:gi s.2 y.toNat = 0):Cx N (s.1 ++ [y],s.2.set y.toNat (3 - gi s.2 x.toNat)):=by
 have hc:=h.cl hN hx
 have hno:y ∉ s.1:=fun hm=>(h.has y.toNat (by omega)).2 (by rw [show ((y.toNat:Nat):Int) = y by omega]; exact hm) h0
 refine ⟨by simp [h.l2],List.nodup_append.2 ⟨h.nd,by simp,fun a ha c hcm e=>?_⟩,fun z hz=>?_,fun z hz=>?_,fun z=>?_⟩
 ·rw [List.mem_singleton.1 hcm] at e
  exact hno (e ▸ ha)
 ·rcases List.mem_append.1 hz with hz | hz
  ·exact h.lt z hz
  ·rw [List.mem_singleton.1 hz]; exact hy
 ·simp only [List.mem_append,List.mem_singleton]
  rw [gi_set,h.l2]
  by_cases e:y.toNat = z
  ·rw [if_pos ⟨e,hz⟩]
   exact ⟨fun _=>.inr (by omega),fun _=>by omega⟩
  ·rw [if_neg fun q=>e q.1,h.has z hz]
   exact ⟨.inl,fun q=>q.elim id fun q=>absurd (by omega) e⟩
 ·rw [gi_set]
  split
  ·omega
  ·exact h.vs z
theorem cst_ok (hN:N <= 32) (h:Cx N s) (hx:x ∈ s.1) (hy:0 <= y /\ y < N) (e:cst y x s = some s'):Cx N s' /\ Pre s s' /\ gi s'.2 y.toNat = 3 - gi s'.2 x.toNat:=by
 have hc:=h.cl hN hx
 unfold cst at e
 split at e
 ·rename_i h0
  cases e
  have hne:¬ (y.toNat = x.toNat):=fun q=>by rw [q] at h0; omega
  refine ⟨h.add hN hx hy h0,⟨by simp,fun j hj=>by simp only [gi_app]; rw [if_pos hj],fun z hz=>?_⟩,?_⟩
  ·simp only
   rw [gi_set,if_neg]
   rintro ⟨q,_⟩
   rw [q] at h0; exact hz h0
  ·simp only
   rw [gi_set,if_pos ⟨rfl,by rw [h.l2]; omega⟩,gi_set,if_neg fun q=>hne q.1]
 ·split at e
  ·cases e
  ·cases e
   have:=h.vs y.toNat
   exact ⟨h,.refl,by omega⟩
theorem clV_ok (hN:N <= 32) (hv:Ivs L N):∀ (M:List (List Int)) {s s':Cst},(∀ l ∈ M,l ∈ L) -> Cx N s -> x ∈ s.1 -> clV M x s = some s' -> Cx N s' /\ Pre s s' /\ ∀ l ∈ M,gi s'.2 (fp l x.toNat) = 3 - gi s'.2 x.toNat
 | [],s,s',_,h,_,e=>by cases e; exact ⟨h,.refl,fun l hl=>absurd hl List.not_mem_nil⟩
 | l :: M,s,s',hM,h,hx,e=>by
  have hl:=hM l (by simp)
  have hxl:=h.lt x hx
  have l1:=(hv l hl).lt x.toNat (by omega)
  have l2:=(hv l hl).nn x.toNat
  have l3:gi l x.toNat = (fp l x.toNat:Int):=by unfold fp; omega
  simp only [clV] at e
  cases e1:cst (gi l x.toNat) x s with
  | none=>rw [e1] at e; cases e
  | some t =>
   rw [e1] at e
   obtain ⟨c1,c2,c3⟩:=cst_ok hN h hx (by omega) e1
   obtain ⟨d1,d2,d3⟩:=clV_ok hN hv M (s:=t) (fun l hl=>hM l (by simp [hl])) c1 (c2.mem hx) e
   have hc:=c1.cl hN (c2.mem hx)
   refine ⟨d1,c2.trans d2,fun k hk=>?_⟩
   rcases List.mem_cons.1 hk with rfl | hk
   ·rw [l3,Int.toNat_natCast] at c3
    rw [d2.cl _ (by omega),d2.cl _ (by omega)]; exact c3
   ·exact d3 k hk
theorem clRun_ok (hN:N <= 32) (hv:Ivs L N):∀ (f k:Nat) {s s':Cst},k + f = 33 -> Cx N s -> (∀ j,j < k -> ∀ l ∈ L,gi s.2 (fp l (gi s.1 j).toNat) = 3 - gi s.2 (gi s.1 j).toNat) -> k <= s.1.length -> clRun L f k s = some s' ->
  Cx N s' /\ Pre s s' /\ ∀ z ∈ s'.1,∀ l ∈ L,gi s'.2 (fp l z.toNat) = 3 - gi s'.2 z.toNat
 | 0,k,s,s',e,h,hc,hk,_=>by have:=h.len; omega
 | f + 1,k,s,s',e,h,hc,hk,e1=>by
  simp only [clRun] at e1
  split at e1
  ·rename_i hlt
   have hz:gi s.1 k ∈ s.1:=by rw [gi_of hlt]; exact List.getElem_mem hlt
   cases e2:clV L (gi s.1 k) s with
   | none=>rw [e2] at e1; cases e1
   | some t =>
    rw [e2] at e1
    obtain ⟨c1,c2,c3⟩:=clV_ok hN hv L (fun l hl=>hl) h hz e2
    obtain ⟨d1,d2,d3⟩:=clRun_ok hN hv f (k + 1) (s:=t) (by omega) c1 (fun j hj l hl=>by
     rw [c2.eq j (by omega)]
     by_cases q:j = k
     ·subst q; exact c3 l hl
     ·have hjm:gi s.1 j ∈ s.1:=by rw [gi_of (show j < s.1.length by omega)]; exact List.getElem_mem _
      have h1:=hc j (by omega) l hl
      have h2:=h.cl hN hjm
      rw [c2.cl _ (by omega),c2.cl _ (by omega)]; exact h1) (by have:=c2.le; omega) e1
    exact ⟨d1,c2.trans d2,d3⟩
  ·cases e1
   refine ⟨h,.refl,fun z hz l hl=>?_⟩
   obtain ⟨j,hj,rfl⟩:=List.getElem_of_mem hz
   have:=hc j (by omega) l hl
   rw [gi_of hj] at this; exact this
theorem Cx.zero (h0:0 < N):Cx N cls0:=by
 refine ⟨by simp [cls0],by simp [cls0],fun y hy=>?_,fun y hy=>?_,fun y=>?_⟩
 ·rw [show y = 0 from List.mem_singleton.1 hy]; omega
 ·unfold cls0
  simp only [List.mem_singleton]
  rw [gi_set,gi_rep]
  by_cases e:0 = y
  ·subst e; simp
  ·rw [if_neg fun q=>e q.1]
   constructor
   ·intro q; split at q <;> exact absurd rfl q
   ·intro q; omega
 ·unfold cls0
  rw [gi_set,gi_rep]
  split
  ·exact .inr (.inl rfl)
  ·left; split <;> rfl
structure Clr (L:List (List Int)) (N:Nat) (c:List Int):Prop where
 l2:c.length = 32
 z:gi c 0 = 1
 vs:∀ x,x < N -> gi c x = 1 ∨ gi c x = 2
 ne:∀ x,x < N -> ∀ l ∈ L,gi c (fp l x) = 3 - gi c x
 out:∀ x:Nat,N <= x -> gi c x = 0
theorem clsR_col (hN:N <= 32) (h0:0 < N) (hv:Ivs L N) (hall:∀ x,x < N -> Rl L 0 x) (e:clsR L = some s):Clr L N s.2:=by
 obtain ⟨c1,c2,c3⟩:=clRun_ok hN hv 33 0 rfl (Cx.zero h0) (fun j hj=>absurd hj (Nat.not_lt_zero j)) (Nat.zero_le _) e
 have hz:(0:Int) ∈ s.1:=c2.mem (by simp [cls0])
 have mem:∀ x,x < N -> (x:Int) ∈ s.1:=fun x hx=>by
  have:=hall x hx
  induction this with
  | refl=>exact hz
  | @step y l r hl ih =>
   have hyN:y < N:=r.lt hv h0
   have hy:=ih hyN
   have h1:=c3 _ hy l hl
   rw [Int.toNat_natCast] at h1
   have h2:=c1.cl hN hy
   rw [Int.toNat_natCast] at h2
   exact (c1.has _ (by omega)).1 (by omega)
 refine ⟨c1.l2,?_,fun x hx=>?_,fun x hx l hl=>?_,fun x hx=>?_⟩
 ·have:=c2.cl 0 (by simp [cls0,gi])
  rw [this]; rfl
 ·have:=c1.cl hN (mem x hx)
  rw [Int.toNat_natCast] at this; exact this
 ·have:=c3 _ (mem x hx) l hl
  rw [Int.toNat_natCast] at this; exact this
 ·by_cases q:x < 32
  ·refine Classical.byContradiction fun hne=>?_
   have:=c1.lt _ ((c1.has x q).1 hne)
   omega
  ·rw [gi_over (by rw [c1.l2]; omega)]
theorem clV_some {c:List Int} (hN:N <= 32) (hv:Ivs L N) (hc:Clr L N c):∀ (M:List (List Int)) {s:Cst},(∀ l ∈ M,l ∈ L) -> Cx N s -> x ∈ s.1 -> (∀ y:Nat,gi s.2 y ≠ 0 -> gi s.2 y = gi c y) -> ∃ s',clV M x s = some s' /\ (∀ y:Nat,gi s'.2 y ≠ 0 -> gi s'.2 y = gi c y)
 | [],s,_,h,_,he=>⟨s,rfl,he⟩
 | l :: M,s,hM,h,hx,he=>by
  have hl:=hM l (by simp)
  have hxl:=h.lt x hx
  have l1:=(hv l hl).lt x.toNat (by omega)
  have l2:=(hv l hl).nn x.toNat
  have l3:gi l x.toNat = (fp l x.toNat:Int):=by unfold fp; omega
  have hcx:=h.cl hN hx
  have ecx:=he x.toNat (by omega)
  have ecn:=hc.ne x.toNat (by omega) l hl
  obtain ⟨t,e1,he'⟩:∃ t,cst (gi l x.toNat) x s = some t /\ ∀ y:Nat,gi t.2 y ≠ 0 -> gi t.2 y = gi c y:=by
   unfold cst
   split
   ·rename_i h0
    refine ⟨_,rfl,fun y hy=>?_⟩
    simp only at hy ⊢
    rw [gi_set] at hy ⊢
    split
    ·rename_i q
     rw [l3,Int.toNat_natCast] at q
     rw [<-q.1,ecn,ecx]
    ·rename_i q
     rw [if_neg q] at hy
     exact he y hy
   ·rename_i h0
    split
    ·rename_i h1
     have:=he (gi l x.toNat).toNat h0
     rw [l3,Int.toNat_natCast] at this h1
     rw [l3,Int.toNat_natCast] at h0
     omega
    ·exact ⟨s,rfl,he⟩
  obtain ⟨c1,c2,c3⟩:=cst_ok hN h hx (by omega) e1
  obtain ⟨s',e2,he2⟩:=clV_some hN hv hc M (s:=t) (fun l hl=>hM l (by simp [hl])) c1 (c2.mem hx) he'
  exact ⟨s',by simp only [clV]; rw [e1]; exact e2,he2⟩
theorem clRun_some {c:List Int} (hN:N <= 32) (hv:Ivs L N) (hc:Clr L N c):∀ (f k:Nat) {s:Cst},Cx N s -> (∀ y:Nat,gi s.2 y ≠ 0 -> gi s.2 y = gi c y) -> ∃ s',clRun L f k s = some s' /\ (∀ y:Nat,gi s'.2 y ≠ 0 -> gi s'.2 y = gi c y)
 | 0,k,s,h,he=>⟨s,rfl,he⟩
 | f + 1,k,s,h,he=>by
  simp only [clRun]
  split
  ·rename_i hlt
   have hz:gi s.1 k ∈ s.1:=by rw [gi_of hlt]; exact List.getElem_mem hlt
   obtain ⟨t,e1,he1⟩:=clV_some hN hv hc L (fun l hl=>hl) h hz he
   obtain ⟨c1,c2,c3⟩:=clV_ok hN hv L (fun l hl=>hl) h hz e1
   obtain ⟨s',e2,he2⟩:=clRun_some hN hv hc f (k + 1) c1 he1
   exact ⟨s',by rw [e1]; exact e2,he2⟩
  ·exact ⟨s,rfl,he⟩
theorem clsR_some {c:List Int} (hN:N <= 32) (h0:0 < N) (hv:Ivs L N) (hall:∀ x,x < N -> Rl L 0 x) (hc:Clr L N c):∃ q,clsR L = some (q,c):=by
 obtain ⟨s',e,he⟩:=clRun_some hN hv hc 33 0 (Cx.zero h0) fun y hy=>by
  have:y = 0:=Classical.byContradiction fun q=>hy (by
   unfold cls0; rw [gi_set,if_neg fun z=>q z.1.symm,gi_rep]; split <;> rfl)
  subst this
  rw [hc.z]; rfl
 have C:=clsR_col hN h0 hv hall e
 have:s'.2 = c:=gi_ext (by rw [C.l2,hc.l2]) fun j hj=>by
  by_cases q:j < N
  ·exact he j (by have:=C.vs j q; omega)
  ·rw [C.out j (by omega),hc.out j (by omega)]
 exact ⟨s'.1,by rw [<-this]; exact e⟩
end
end
section
set_option maxHeartbeats 4000000
section
variable {L:List (List Int)} {N:Nat} {s t:Cst} {x:Int}
theorem drop_gl {j:Nat} (hj:j < L.length):L.drop j = gl L j :: L.drop (j + 1):=by rw [gl_of hj,<-List.drop_eq_getElem_cons hj]
structure Ci (L:List (List Int)) (N k:Nat) (x:Int) (j:Nat) (t:Cst):Prop where
 jl:j <= L.length
 cx:Cx N t
 kl:k < t.1.length
 xe:gi t.1 k = x
 e:(clV (L.drop j) x t).bind (clRun L (32 - k) (k + 1)) = clsR L
theorem Ci.mem {k j:Nat} (h:Ci L N k x j t):x ∈ t.1:=by rw [<-h.xe,gi_of h.kl]; exact List.getElem_mem _
theorem Ci.step {k j:Nat} {t':Cst} (hN:N <= 32) (hv:Ivs L N) (h:Ci L N k x j t) (hj:j < L.length) (e:cst (gi (gl L j) x.toNat) x t = some t'):Ci L N k x (j + 1) t':=by
 have hx:=h.cx.lt x h.mem
 obtain ⟨c1,c2,c3⟩:=cst_ok hN h.cx h.mem (row_lt hv hj hx) e
 refine ⟨hj,c1,Nat.lt_of_lt_of_le h.kl c2.le,by rw [c2.eq k h.kl]; exact h.xe,?_⟩
 have:=h.e
 rw [drop_gl hj] at this
 simp only [clV] at this
 rw [e] at this
 exact this
theorem Ci.none {k j:Nat} (h:Ci L N k x j t) (hj:j < L.length) (e:cst (gi (gl L j) x.toNat) x t = Option.none):clsR L = Option.none:=by
 have:=h.e
 rw [drop_gl hj] at this
 simp only [clV] at this
 rw [e] at this
 exact this.symm
theorem cst_new {y:Int} (h:gi s.2 y.toNat = 0):cst y x s = some (s.1 ++ [y],s.2.set y.toNat (3 - gi s.2 x.toNat)):=by simp only [cst]; rw [if_pos h]
theorem cst_bad {y:Int} (h:gi s.2 y.toNat ≠ 0) (h':gi s.2 y.toNat = gi s.2 x.toNat):cst y x s = Option.none:=by simp only [cst]; rw [if_neg h,if_pos h']
theorem cst_old {y:Int} (h:gi s.2 y.toNat ≠ 0) (h':gi s.2 y.toNat ≠ gi s.2 x.toNat):cst y x s = some s:=by simp only [cst]; rw [if_neg h,if_neg h']
end
def ClO (C T S:List Int) (k:IntKind) (v:V):Prop:=∃ c b,v = .tup [.agg (vi k c),.bool b] /\ c.length = 32 /\ b = (clsR [C,T,S]).isSome /\ ∀ s,clsR [C,T,S] = some s -> c = s.2
theorem c_impl_classesOf {n:Int} {C T S:List Int} (F:Fls n C T S):PSpec Tryz.prog 75 [vF n C T S] fun v=>ClO C T S .u8 v:=by
 have hCl:=F.c.1
 have hTl:=F.t.1
 have hSl:=F.s.1
 have hct:(C ++ T).length = 64:=by simp [hCl,hTl]
 have hcts:(C ++ T ++ S).length = 96:=by simp [hCl,hTl,hSl]
 obtain ⟨h32,h4,hn,_⟩:=F.h32
 have hv:=ivs3 F.iC F.iT F.iS
 refine impl_classesOf_f.f ?_
 unfold vF
 dsimp only [impl_classesOf_F,pcal_B,pcalp_B,pcala_B,pcond_B,pgk_B,JN_B,LP_B]
 (refine bni ?_; repeat (refine bnk ?_; (try simp (disch:=first | omega | (simp only [LN]; omega)) only [↓EC,EW,seval,↓reduceIte,↓EBD,EBE])))
 refine LPx_of (σ:=Cst × Nat) 100000 [(65,43,1),(66,41,1),(68,41,1)] (fun s=>[.own 5 1 s.1.1.length (vi .u8 s.1.1),.int .i64 s.2])
  (fun s=>[.int .i64 n :: vi .u8 (C ++ T ++ S),vi .u8 (List.replicate 32 0),vi .u8 s.1.2]) (fun s=>Cx n.toNat s.1 /\ s.2 <= s.1.1.length /\ clRun [C,T,S] (33 - s.2) s.2 s.1 = clsR [C,T,S]) (fun s=>33 - s.2) (cls0,0) (by simp [frameOk,names,lpz,sclp,scv,scvs,nrfs,nrf,FRB]) ⟨Cx.zero (by omega),Nat.zero_le _,rfl⟩ ?_ ?_
 ·(refine bni ?_; repeat (refine bnk ?_; simp (disch:=first | omega | (simp only [LN]; omega)) only [↓EC,EW,seval,↓reduceIte,↓EBD,EBE,ColV_def]))
  exact ⟨rfl,rfl⟩
 ·rintro ⟨s,k⟩ ⟨g1,g2,g3⟩
  simp only at g1 g2 g3
  have gl2:=g1.l2
  have gle:=g1.len
  (refine bni ?_; repeat (refine bnk ?_; simp (disch:=first | omega | (simp only [LN]; omega)) only [↓EC,EW,seval,↓reduceIte,↓EBD,EBE,ColV_def,lheap_def]))
  (refine Split.mkB (fun h=>?_) (fun h=>?_) <;> (try simp only [SD] at h))
  ·have hk:k < s.1.length:=by omega
   have hz:=g1.lt (gi s.1 k) (by rw [gi_of hk]; exact List.getElem_mem hk)
   have z1:=F.c.2 (gi s.1 k).toNat (by omega)
   have z2:=F.t.2 (gi s.1 k).toNat (by omega)
   have z3:=F.s.2 (gi s.1 k).toNat (by omega)
   (refine bni ?_; repeat (refine bnk ?_; (try simp (disch:=first | omega | (simp only [LN]; omega)) only [↓EC,EW,seval,↓reduceIte,↓EBD,EBE,getD_33,getD_65,hct,hCl])))
   have hci:Ci [C,T,S] n.toNat k (gi s.1 k) 0 s:=⟨Nat.zero_le _,g1,hk,rfl,by
    rw [show 33 - k = 32 - k + 1 by omega] at g3
    simp only [clRun,if_pos hk] at g3
    exact g3⟩
   generalize hx:gi s.1 k = x at *
   refine LPx_of (σ:=Cst × Nat) 200000 [(65,43,1),(66,41,1),(68,41,1),(98,5,1)] (fun s=>[.own 5 1 s.1.1.length (vi .u8 s.1.1),.int .i64 s.2])
    (fun s=>[.int .i64 n :: vi .u8 (C ++ T ++ S),vi .u8 (List.replicate 32 0),vi .u8 s.1.2,vi .u8 [gi C x.toNat,gi T x.toNat,gi S x.toNat]]) (fun t=>Ci [C,T,S] n.toNat k x t.2 t.1) (fun t=>3 - t.2) (s,0) (by simp [frameOk,names,lpz,sclp,scv,scvs,nrfs,nrf,FRB]) hci ?_ ?_
   ·(refine bni ?_; repeat (refine bnk ?_; simp (disch:=first | omega | (simp only [LN]; omega)) only [↓EC,EW,seval,↓reduceIte,↓EBD,EBE,ColV_def]))
    rfl
   ·rintro ⟨t,j⟩ hO
    simp only at hO
    have e1:=hO.cx.l2
    have e2:=hO.cx.len
    have hjl:=hO.jl
    have hcx:=hO.cx.cl h32 hO.mem
    (refine bni ?_; repeat (refine bnk ?_; simp (disch:=first | omega | (simp only [LN]; omega)) only [↓EC,EW,seval,↓reduceIte,↓EBD,EBE,ColV_def,lheap_def]))
    (refine Split.mkB (fun h=>?_) (fun h=>?_) <;> (try simp only [SD] at h))
    ·refine JNx_un ?_
     have hj:j < 3:=by omega
     have hy:gi [gi C x.toNat,gi T x.toNat,gi S x.toNat] j = gi (gl [C,T,S] j) x.toNat:=by
      have:j = 0 ∨ j = 1 ∨ j = 2:=by omega
      rcases this with rfl | rfl | rfl <;> rfl
     have hlt:=row_lt hv (L:=[C,T,S]) hj hz
     have hstep:=fun t' e=>hO.step (t':=t') h32 hv hj e
     have hnone:=hO.none hj
     rw [<-hy] at hlt hstep hnone
     generalize hyy:gi [gi C x.toNat,gi T x.toNat,gi S x.toNat] j = y at *
     have w3:IntKind.u8.wrap (3 - gi t.2 x.toNat) = 3 - gi t.2 x.toNat:=by simp [IntKind.wrap,IntKind.signed,IntKind.bits]; omega
     (refine bni ?_; repeat (refine bnk ?_; (try simp (disch:=first | omega | (simp only [LN]; omega)) only [↓EC,EW,seval,↓reduceIte,↓EBD,EBE,hyy])))
     (refine Split.mkB (fun h=>?_) (fun h=>?_) <;> (try simp only [SD] at h))
     ·(refine bni ?_; repeat (refine bnk ?_; (try simp (disch:=first | omega | (simp only [LN]; omega)) only [↓EC,EW,seval,↓reduceIte,↓EBD,EBE,hyy,w3])))
      exact ⟨(_,j + 1),by simp,rfl,hstep _ (cst_new h),by simp only; omega⟩
     ·(refine bni ?_; repeat (refine bnk ?_; (try simp (disch:=first | omega | (simp only [LN]; omega)) only [↓EC,EW,seval,↓reduceIte,↓EBD,EBE,hyy])))
      (refine Split.mkB (fun h=>?_) (fun h=>?_) <;> (try simp only [SD] at h))
      ·(refine bni ?_; repeat (refine bnk ?_; (try simp (disch:=first | omega | (simp only [LN]; omega)) only [↓EC,EW,seval,↓reduceIte,↓EBD,EBE,hyy])))
       exact ⟨_,_,rfl,e1,by rw [hnone (cst_bad (by omega) (by omega))]; rfl,fun s hs=>by rw [hnone (cst_bad (by omega) (by omega))] at hs; cases hs⟩
      ·(refine bni ?_; repeat (refine bnk ?_; (try simp (disch:=first | omega | (simp only [LN]; omega)) only [↓EC,EW,seval,↓reduceIte,↓EBD,EBE,hyy])))
       exact ⟨(t,j + 1),by simp,rfl,hstep _ (cst_old (by omega) (by omega)),by simp only; omega⟩
    ·(refine bni ?_; repeat (refine bnk ?_; (try simp (disch:=first | omega | (simp only [LN]; omega)) only [↓EC,EW,seval,↓reduceIte,↓EBD,EBE])))
     have ej:j = 3:=by simp at hjl; omega
     subst ej
     have he:=hO.e
     refine ⟨(t,k + 1),by simp,rfl,⟨hO.cx,by have:=hO.kl; simp only; omega,?_⟩,by simp only; omega⟩
     simp only
     rw [show 33 - (k + 1) = 32 - k by omega]
     exact he
  ·(refine bni ?_; repeat (refine bnk ?_; (try simp (disch:=first | omega | (simp only [LN]; omega)) only [↓EC,EW,seval,↓reduceIte,↓EBD,EBE])))
   have es:clsR [C,T,S] = some s:=by
    rw [<-g3,show 33 - k = 32 - k + 1 by omega]
    simp only [clRun]
    rw [if_neg (by omega)]
   exact ⟨_,_,rfl,gl2,by rw [es]; rfl,fun q hq=>by rw [es] at hq; cases hq; rfl⟩
end
section
set_option maxHeartbeats 4000000
theorem c_impl_TurnFlags {n k:Int} {C T S:List Int} (hC:fo32 C) (hT:fo32 T) (hS:fo32 S):PSpec Tryz.prog 32 [vF n C T S,.int .i64 k] fun v=>v = vFC (tuR n C T S k):=by
 have hCl:=hC.1
 have hTl:=hT.1
 have hSl:=hS.1
 have hct:(C ++ T).length = 64:=by simp [hCl,hTl]
 have hcts:(C ++ T ++ S).length = 96:=by simp [hCl,hTl,hSl]
 have t1:List.take 32 (C ++ T ++ S) = C:=by rw [List.append_assoc,<-hCl,List.take_left]
 have t2:List.take 32 (List.drop 32 (C ++ T ++ S)) = T:=by
  have:List.drop 32 (C ++ T ++ S) = T ++ S:=by rw [List.append_assoc,<-hCl,List.drop_left]
  rw [this,<-hTl,List.take_left]
 have t3:List.drop 64 (C ++ T ++ S) = S:=by rw [<-hct,List.drop_left]
 refine impl_TurnFlags_f.f ?_
 have k1:=c_impl_AreFlags (n:=n) hC hT hS
 unfold vF at *
 dsimp only [impl_TurnFlags_F,pcal_B,pcalp_B,pcala_B,pcond_B,pgk_B,JN_B,LP_B]
 (refine bni ?_; repeat (refine bnk ?_; (try simp (disch:=first | omega | (simp only [LN]; omega)) only [↓EC,EW,seval,↓reduceIte,↓EBD,EBE])))
 refine pcd_v k1 ?_
 cases hf:flB n C T S with
 | false =>
  (refine bni ?_; repeat (refine bnk ?_; (try simp (disch:=first | omega | (simp only [LN]; omega)) only [↓EC,EW,seval,↓reduceIte,↓EBD,EBE])))
  rw [tuR_no hf]; rfl
 | true =>
  have F:=(flB_iff.1 hf).fo hC hT hS
  have k2:=c_impl_both (n:=n) (C:=C) (T:=T) (S:=S) F.c hTl F.s (by have:=F.F.hn; omega)
  have b1:=bo_len (C:=C) (S:=S) (n:=n)
  unfold vF at k2
  (refine bni ?_; repeat (refine bnk ?_; (try simp (disch:=first | omega | (simp only [LN]; omega)) only [↓EC,EW,seval,↓reduceIte,↓EBD,EBE])))
  obtain ⟨w0,w1,w2,w3,w4,w5⟩:=six (p0:=C ++ S) (p1:=S ++ C) (p2:=bo C S n ++ S) (p3:=S ++ bo C S n) (p4:=C ++ bo C S n) (p5:=bo C S n ++ C) (by simp [hCl,hSl]) (by simp [hCl,hSl]) (by simp [b1,hSl]) (by simp [b1,hSl]) (by simp [hCl,b1]) (by simp [hCl,b1])
  have r1:=tk32 (r:=S) hCl
  have r2:=dr32 (r:=S) hCl
  have r3:=tk32 (r:=C) hSl
  have r4:=dr32 (r:=C) hSl
  have r5:=tk32 (r:=S) b1
  have r6:=dr32 (r:=S) b1
  have r7:=tk32 (r:=bo C S n) hSl
  have r8:=dr32 (r:=bo C S n) hSl
  have r9:=tk32 (r:=bo C S n) hCl
  have r10:=dr32 (r:=bo C S n) hCl
  have r11:=tk32 (r:=C) b1
  have r12:=dr32 (r:=C) b1
  have y1:64 - C.length = 32:=by omega
  have y2:64 - S.length = 32:=by omega
  have y3:64 - (bo C S n).length = 32:=by omega
  have y4:1 + C.length = 33:=by omega
  have y5:1 + S.length = 33:=by omega
  have y6:1 + (bo C S n).length = 33:=by omega
  have yT:List.take 32 (List.drop 33 (V.int .i64 n :: vi .u8 (C ++ T ++ S))) = vi .u8 T:=by
   show List.take 32 (List.drop 32 (vi .u8 (C ++ T ++ S))) = _
   rw [vi_drop,vi_take,t2]
  by_cases hk:0 <= k /\ k <= 5
  ·rw [tuR_in hf hk]
   have kk:k = 0 ∨ k = 1 ∨ k = 2 ∨ k = 3 ∨ k = 4 ∨ k = 5:=by omega
   rcases kk with rfl | rfl | rfl | rfl | rfl | rfl
   all_goals
    (refine bni ?_; repeat (refine bnk ?_; (try simp (disch:=first | omega | (simp only [LN]; omega)) only [↓EC,EW,seval,↓reduceIte,↓EBD,EBE,t1,t3])))
    refine pcd_v k2 ?_
    (refine bni ?_; repeat (refine bnk ?_; (try simp (disch:=first | omega | (simp only [LN]; omega)) only [↓EC,EW,seval,↓reduceIte,↓EBD,EBE,t1,t3,w0,w1,w2,w3,w4,w5,r1,r2,r3,r4,r5,r6,r7,r8,r9,r10,r11,r12,y1,y2,y3,y4,y5,y6,yT])))
    rw [t2]
    simp [vFC,vF,tuC,tuS]
  ·rw [tuR_out hf hk]
   (refine Split.mkB (fun h=>?_) (fun h=>?_) <;> (try simp only [SD] at h))
   ·(refine bni ?_; repeat (refine bnk ?_; (try simp (disch:=first | omega | (simp only [LN]; omega)) only [↓EC,EW,seval,↓reduceIte,↓EBD,EBE])))
    rfl
   ·(refine bni ?_; repeat (refine bnk ?_; (try simp (disch:=first | omega | (simp only [LN]; omega)) only [↓EC,EW,seval,↓reduceIte,↓EBD,EBE])))
    (refine Split.mkB (fun h=>?_) (fun h=>?_) <;> (try simp only [SD] at h))
    ·(refine bni ?_; repeat (refine bnk ?_; (try simp (disch:=first | omega | (simp only [LN]; omega)) only [↓EC,EW,seval,↓reduceIte,↓EBD,EBE])))
     rfl
    ·exact absurd ⟨by assumption,h⟩ hk
end
section
set_option maxHeartbeats 4000000
theorem c_spec_l07Turn {n k:Int} {C T S:List Int} (hC:fl32 C) (hT:T.length = 32) (hS:fl32 S) (hn:0 <= n /\ n <= 32) (hk:0 <= k /\ k <= 5):PSpec Tryz.prog 83 [vF n C T S,.int .i64 k] fun v=>v = vF n (tuC C S n k) T (tuS C S n k):=by
 have hCl:=hC.1
 have hSl:=hS.1
 have hct:(C ++ T).length = 64:=by simp [hCl,hT]
 have hcts:(C ++ T ++ S).length = 96:=by simp [hCl,hT,hSl]
 have t1:List.take 32 (C ++ T ++ S) = C:=by rw [List.append_assoc,<-hCl,List.take_left]
 have t2:List.take 32 (List.drop 32 (C ++ T ++ S)) = T:=by
  have:List.drop 32 (C ++ T ++ S) = T ++ S:=by rw [List.append_assoc,<-hCl,List.drop_left]
  rw [this,<-hT,List.take_left]
 have t3:List.drop 64 (C ++ T ++ S) = S:=by rw [<-hct,List.drop_left]
 have k2:=c_spec_l07Both (n:=n) hC hS hn
 have b1:=bo_len (C:=C) (S:=S) (n:=n)
 have q1:List.take 32 (C ++ S ++ bo C S n) = C:=by rw [List.append_assoc,<-hCl,List.take_left]
 have q2:List.take 32 (List.drop 32 (C ++ S ++ bo C S n)) = S:=by
  have:List.drop 32 (C ++ S ++ bo C S n) = S ++ bo C S n:=by rw [List.append_assoc,<-hCl,List.drop_left]
  rw [this,<-hSl,List.take_left]
 have q3:List.drop 64 (C ++ S ++ bo C S n) = bo C S n:=by rw [show 64 = (C ++ S).length by simp [hCl,hSl],List.drop_left]
 have t4:List.take 32 (bo C S n) = bo C S n:=List.take_of_length_le (by omega)
 refine spec_l07Turn_f.f ?_
 unfold vF
 dsimp only [spec_l07Turn_F,pcal_B,pcalp_B,pcala_B,pcond_B,pgk_B,JN_B,LP_B]
 have kk:k = 0 ∨ k = 1 ∨ k = 2 ∨ k = 3 ∨ k = 4 ∨ k = 5:=by omega
 have g0:∀ {a c d e f g:Int},gi [a,c,d,e,f,g] 0 = a:=rfl
 have g1:∀ {a c d e f g:Int},gi [a,c,d,e,f,g] 1 = c:=rfl
 have g2:∀ {a c d e f g:Int},gi [a,c,d,e,f,g] 2 = d:=rfl
 have g3:∀ {a c d e f g:Int},gi [a,c,d,e,f,g] 3 = e:=rfl
 have g4:∀ {a c d e f g:Int},gi [a,c,d,e,f,g] 4 = f:=rfl
 have g5:∀ {a c d e f g:Int},gi [a,c,d,e,f,g] 5 = g:=rfl
 rcases kk with rfl | rfl | rfl | rfl | rfl | rfl
 all_goals
  (refine bni ?_; repeat (refine bnk ?_; (try simp (disch:=first | omega | (simp only [LN]; omega)) only [↓EC,EW,seval,↓reduceIte,↓EBD,EBE,t1,t2,t3])))
  refine pcd_v k2 ?_
  (refine bni ?_; repeat (refine bnk ?_; (try simp (disch:=first | omega | (simp only [LN]; omega)) only [↓EC,EW,seval,↓reduceIte,↓EBD,EBE,t1,t2,t3,t4,g0,g1,g2,g3,g4,g5,q1,q2,q3])))
  simp [tuC,tuS]
theorem c_spec_TurnFlags {n k:Int} {C T S:List Int} (hC:fo32 C) (hT:fo32 T) (hS:fo32 S):PSpec Tryz.prog 33 [vF n C T S,.int .i64 k] fun v=>v = vFC (tuR n C T S k):=by
 have hCl:=hC.1
 have hTl:=hT.1
 have hSl:=hS.1
 have hcts:(C ++ T ++ S).length = 96:=by simp [hCl,hTl,hSl]
 refine spec_TurnFlags_f.f ?_
 have k1:=c_spec_l07Are (n:=n) hC hT hS
 unfold vF at *
 dsimp only [spec_TurnFlags_F,pcal_B,pcalp_B,pcala_B,pcond_B,pgk_B,JN_B,LP_B]
 (refine bni ?_; repeat (refine bnk ?_; (try simp (disch:=first | omega | (simp only [LN]; omega)) only [↓EC,EW,seval,↓reduceIte,↓EBD,EBE])))
 refine pcd_v k1 ?_
 cases hf:flB n C T S with
 | false =>
  (refine bni ?_; repeat (refine bnk ?_; (try simp (disch:=first | omega | (simp only [LN]; omega)) only [↓EC,EW,seval,↓reduceIte,↓EBD,EBE])))
  rw [tuR_no hf]; rfl
 | true =>
  have F:=(flB_iff.1 hf).fo hC hT hS
  (refine bni ?_; repeat (refine bnk ?_; (try simp (disch:=first | omega | (simp only [LN]; omega)) only [↓EC,EW,seval,↓reduceIte,↓EBD,EBE])))
  refine pcd_v c_spec_l01In ?_
  by_cases hk:0 <= k /\ k <= 5
  ·have k2:=c_spec_l07Turn (n:=n) (k:=k) F.c hTl F.s (by have:=F.F.hn; omega) hk
   have G:=F.turn hk
   have l1:=G.c.1
   have l2:=G.s.1
   unfold vF at k2
   rw [tuR_in hf hk]
   have hk':(decide (0 <= k /\ k <= 5)) = true:=by simpa using hk
   (refine bni ?_; repeat (refine bnk ?_; (try simp (disch:=first | omega | (simp only [LN]; omega)) only [↓EC,EW,seval,↓reduceIte,↓EBD,EBE,hk'])))
   refine pcd_v k2 ?_
   (refine bni ?_; repeat (refine bnk ?_; (try simp (disch:=first | omega | (simp only [LN]; omega)) only [↓EC,EW,seval,↓reduceIte,↓EBD,EBE])))
   try rfl
  ·rw [tuR_out hf hk]
   have hk':(decide (0 <= k /\ k <= 5)) = false:=by simpa using hk
   (refine bni ?_; repeat (refine bnk ?_; (try simp (disch:=first | omega | (simp only [LN]; omega)) only [↓EC,EW,seval,↓reduceIte,↓EBD,EBE,hk'])))
   rfl
def inn (j:Nat) (l:List Int) (i:Nat) (a c:Int):List Int:=if j = 0 then l else if j = 1 then l.set (2 * i) a else (l.set (2 * i) a).set (2 * i + 1) c
theorem inn_len {j:Nat} {l:List Int} {i:Nat} {a c:Int}:(inn j l i a c).length = l.length:=by
 unfold inn
 split
 ·rfl
 ·split <;> simp
def fgC (w:List Int):Nat -> List Int
 | 0=>List.replicate 32 0
 | s + 1=>inn 2 (fgC w s) s (2 * gi w s + 1) (2 * gi w s)
def fgS:Nat -> List Int
 | 0=>List.replicate 32 0
 | s + 1=>inn 2 (fgS s) s (2 * s + 1) (2 * s)
def fgT (b:List Int):Nat -> List Int
 | 0=>List.replicate 32 0
 | s + 1=>((fgT b s).set (2 * s + 1) (2 * gi b s)).set (2 * (gi b s).toNat) (2 * s + 1)
theorem fgC_len {w:List Int}:∀ s,(fgC w s).length = 32
 | 0=>by simp [fgC]
 | s + 1=>by simp only [fgC]; rw [inn_len,fgC_len s]
theorem fgS_len:∀ s,(fgS s).length = 32
 | 0=>by simp [fgS]
 | s + 1=>by simp only [fgS]; rw [inn_len,fgS_len s]
theorem fgT_len {b:List Int}:∀ s,(fgT b s).length = 32
 | 0=>by simp [fgT]
 | s + 1=>by simp [fgT,fgT_len s]
theorem c_spec_l07Flags {n:Int} {b w:List Int} (hb:lo16 b) (hw:lo16 w) (hn:0 <= n /\ n <= 16):PSpec Tryz.prog 74 [vD n b w] fun v=>v = vF (2 * n) (fgC w n.toNat) (fgT b n.toNat) (fgS n.toNat):=by
 have hbl:=hb.1
 have hwl:=hw.1
 refine spec_l07Flags_f.f ?_
 unfold vD vF
 dsimp only [spec_l07Flags_F,pcal_B,pcalp_B,pcala_B,pcond_B,pgk_B,JN_B,LP_B]
 (refine bni ?_; repeat (refine bnk ?_; (try simp (disch:=first | omega | (simp only [LN]; omega)) only [↓EC,EW,seval,↓reduceIte,↓EBD,EBE])))
 refine LPx_of (σ:=Nat) 100000 [(65,28,1),(66,43,1),(67,43,1)] (fun s=>[.int .i64 s])
  (fun s=>[.int .i64 n :: vi .u8 (b ++ w),.int .i64 0 :: vi .u8 (List.replicate 96 0),.int .i64 (2 * n) :: vi .u8 (fgC w s ++ fgT b s ++ fgS s)]) (fun s=>(s:Int) <= n) (fun s=>(n - s).toNat) 0 (by simp [frameOk,names,lpz,sclp,scv,scvs,nrfs,nrf,FRB]) (by simp only [Int.natCast_zero]; omega) ?_ ?_
 ·(refine bni ?_; repeat (refine bnk ?_; simp (disch:=first | omega | (simp only [LN]; omega)) only [↓EC,EW,seval,↓reduceIte,↓EBD,EBE,ColV_def]))
  rfl
 ·intro s hs
  have lc:=fgC_len (w:=w) s
  have lt:=fgT_len (b:=b) s
  have ls:=fgS_len s
  (refine bni ?_; repeat (refine bnk ?_; simp (disch:=first | omega | (simp only [LN]; omega)) only [↓EC,EW,seval,↓reduceIte,↓EBD,EBE,ColV_def,lheap_def]))
  (refine Split.mkB (fun h=>?_) (fun h=>?_) <;> (try simp only [SD] at h))
  ·have a1:=hb.2 s (by omega)
   have a2:=hw.2 s (by omega)
   (refine bni ?_; repeat (refine bnk ?_; (try simp (disch:=first | omega | (simp only [LN]; omega)) only [↓EC,EW,seval,↓reduceIte,↓EBD,EBE])))
   refine LPx_of (σ:=Nat) 200000 [(65,28,1),(66,43,1),(67,43,1)] (fun j=>[.int .i64 j])
    (fun j=>[.int .i64 n :: vi .u8 (b ++ w),.int .i64 0 :: vi .u8 (List.replicate 96 0),.int .i64 (2 * n) :: vi .u8 (inn j (fgC w s) s (2 * gi w s + 1) (2 * gi w s) ++ fgT b s ++ inn j (fgS s) s (2 * s + 1) (2 * s))]) (fun j=>j <= 2) (fun j=>2 - j) 0 (by simp [frameOk,names,lpz,sclp,scv,scvs,nrfs,nrf,FRB]) (Nat.zero_le _) ?_ ?_
   ·(refine bni ?_; repeat (refine bnk ?_; simp (disch:=first | omega | (simp only [LN]; omega)) only [↓EC,EW,seval,↓reduceIte,↓EBD,EBE,ColV_def]))
    simp [inn]
   ·intro j hj
    have i1:=inn_len (j:=j) (l:=fgC w s) (i:=s) (a:=2 * gi w s + 1) (c:=2 * gi w s)
    have i2:=inn_len (j:=j) (l:=fgS s) (i:=s) (a:=2 * s + 1) (c:=2 * s)
    rw [lc] at i1
    rw [ls] at i2
    have i3:(inn j (fgC w s) s (2 * gi w s + 1) (2 * gi w s) ++ fgT b s).length = 64:=by simp [i1,lt]
    (refine bni ?_; repeat (refine bnk ?_; simp (disch:=first | omega | (simp only [LN]; omega)) only [↓EC,EW,seval,↓reduceIte,↓EBD,EBE,ColV_def,lheap_def]))
    (refine Split.mkB (fun h=>?_) (fun h=>?_) <;> (try simp only [SD] at h))
    ·have hj:j = 0 ∨ j = 1:=by omega
     have w1:IntKind.u8.wrap (2 * gi w s) = 2 * gi w s:=by simp [IntKind.wrap,IntKind.signed,IntKind.bits]; omega
     have w2:IntKind.u8.wrap (2 * gi w s + 1) = 2 * gi w s + 1:=by simp [IntKind.wrap,IntKind.signed,IntKind.bits]; omega
     have e1:(2 * (s:Int)).toNat = 2 * s:=by omega
     have e2:(2 * (s:Int) + 1).toNat = 2 * s + 1:=by omega
     have e3:(2 * (s:Int) + 0).toNat = 2 * s:=by omega
     have e5:16 + s - b.length = s:=by omega
     have e6:64 + 2 * s - ((inn j (fgC w s) s (2 * gi w s + 1) (2 * gi w s)).length + (fgT b s).length) = 2 * s:=by omega
     have e7:64 + (2 * s + 1) - ((inn j (fgC w s) s (2 * gi w s + 1) (2 * gi w s)).length + (fgT b s).length) = 2 * s + 1:=by omega
     rcases hj with rfl | rfl
     ·(refine bni ?_; repeat (refine bnk ?_; (try simp (disch:=first | omega | (simp only [LN]; omega)) only [↓EC,EW,seval,↓reduceIte,↓EBD,EBE,w1,w2,e1,e2,e3,set_33,set_65,i3])))
      refine ⟨1,rfl,?_,by omega,by omega⟩
      rw [e5,e6,w1,w2]
      simp [inn]
     ·(refine bni ?_; repeat (refine bnk ?_; (try simp (disch:=first | omega | (simp only [LN]; omega)) only [↓EC,EW,seval,↓reduceIte,↓EBD,EBE,w1,w2,e1,e2,e3,set_33,set_65,i3])))
      refine ⟨2,rfl,?_,by omega,by omega⟩
      rw [e5,e7,w1,Int.add_zero,w1]
      simp [inn]
    ·obtain rfl:j = 2:=by omega
     have w1:IntKind.u8.wrap (2 * gi b s) = 2 * gi b s:=by simp [IntKind.wrap,IntKind.signed,IntKind.bits]; omega
     have e2:(2 * (s:Int) + 1).toNat = 2 * s + 1:=by omega
     have e4:(2 * gi b s).toNat = 2 * (gi b s).toNat:=by omega
     (refine bni ?_; repeat (refine bnk ?_; (try simp (disch:=first | omega | (simp only [LN]; omega)) only [↓EC,EW,seval,↓reduceIte,↓EBD,EBE,w1,e2,e4,set_33,set_65,i1,i3])))
     exact ⟨s + 1,rfl,rfl,by omega,by omega⟩
  ·obtain rfl:n = (s:Int):=by omega
   (refine bni ?_; repeat (refine bnk ?_; (try simp (disch:=first | omega | (simp only [LN]; omega)) only [↓EC,EW,seval,↓reduceIte,↓EBD,EBE])))
end
section
set_option maxHeartbeats 4000000
noncomputable def flR (n:Int) (b w:List Int):FCode :=
 if isDB n b w = true then (if clB n w = true then ((2 * n,fgC w n.toNat,fgT b n.toNat,fgS n.toNat),0) else ((0,z32,z32,z32),5)) else ((0,z32,z32,z32),1)
theorem flR_no {n:Int} {b w:List Int} (h:isDB n b w = false):flR n b w = ((0,z32,z32,z32),1):=by simp [flR,h]
theorem flR_out {n:Int} {b w:List Int} (h:isDB n b w = true) (hk:clB n w = false):flR n b w = ((0,z32,z32,z32),5):=by simp [flR,h,hk]
theorem flR_in {n:Int} {b w:List Int} (h:isDB n b w = true) (hk:clB n w = true):flR n b w = ((2 * n,fgC w n.toNat,fgT b n.toNat,fgS n.toNat),0):=by simp [flR,h,hk]
theorem c_impl_FlagsOf {n:Int} {b w:List Int} (hb:okP b) (hw:okP w):PSpec Tryz.prog 24 [vD n b w] fun v=>v = vFC (flR n b w):=by
 have hbl:=hb.1
 have hwl:=hw.1
 refine impl_FlagsOf_f.f ?_
 unfold vD
 dsimp only [impl_FlagsOf_F,pcal_B,pcalp_B,pcala_B,pcond_B,pgk_B,JN_B,LP_B]
 (refine bni ?_; repeat (refine bnk ?_; (try simp (disch:=first | omega | (simp only [LN]; omega)) only [↓EC,EW,seval,↓reduceIte,↓EBD,EBE])))
 refine pcd_v (c_impl_IsDessin (n:=n) hb hw) ?_
 cases hd:isDB n b w with
 | false =>
  (refine bni ?_; repeat (refine bnk ?_; (try simp (disch:=first | omega | (simp only [LN]; omega)) only [↓EC,EW,seval,↓reduceIte,↓EBD,EBE])))
  rw [flR_no hd]; rfl
 | true =>
  have D:=isDB_iff.1 hd
  have hn:=D.pb.1
  have hb:=D.pb.lo hb
  have hw:=D.pw.lo hw
  (refine bni ?_; repeat (refine bnk ?_; (try simp (disch:=first | omega | (simp only [LN]; omega)) only [↓EC,EW,seval,↓reduceIte,↓EBD,EBE])))
  refine pcd_v (c_impl_isClean (n:=n) hb hw hn) ?_
  cases hc:clB n w with
  | false =>
   (refine bni ?_; repeat (refine bnk ?_; (try simp (disch:=first | omega | (simp only [LN]; omega)) only [↓EC,EW,seval,↓reduceIte,↓EBD,EBE])))
   rw [flR_out hd hc]; rfl
  | true =>
   rw [flR_in hd hc]
   (refine bni ?_; repeat (refine bnk ?_; (try simp (disch:=first | omega | (simp only [LN]; omega)) only [↓EC,EW,seval,↓reduceIte,↓EBD,EBE])))
   refine LPx_of (σ:=Nat) 100000 [(65,28,1),(66,43,1),(68,43,1)] (fun s=>[.int .i64 s])
    (fun s=>[.int .i64 n :: vi .u8 (b ++ w),.int .i64 0 :: vi .u8 (List.replicate 96 0),.int .i64 (2 * n) :: vi .u8 (fgC w s ++ fgT b s ++ fgS s)]) (fun s=>(s:Int) <= n) (fun s=>(n - s).toNat) 0 (by simp [frameOk,names,lpz,sclp,scv,scvs,nrfs,nrf,FRB]) (by simp only [Int.natCast_zero]; omega) ?_ ?_
   ·(refine bni ?_; repeat (refine bnk ?_; simp (disch:=first | omega | (simp only [LN]; omega)) only [↓EC,EW,seval,↓reduceIte,↓EBD,EBE,ColV_def]))
    rfl
   ·intro s hs
    have lc:=fgC_len (w:=w) s
    have lt:=fgT_len (b:=b) s
    have ls:=fgS_len s
    (refine bni ?_; repeat (refine bnk ?_; simp (disch:=first | omega | (simp only [LN]; omega)) only [↓EC,EW,seval,↓reduceIte,↓EBD,EBE,ColV_def,lheap_def]))
    (refine Split.mkB (fun h=>?_) (fun h=>?_) <;> (try simp only [SD] at h))
    ·have a1:=hb.2 s (by omega)
     have a2:=hw.2 s (by omega)
     (refine bni ?_; repeat (refine bnk ?_; (try simp (disch:=first | omega | (simp only [LN]; omega)) only [↓EC,EW,seval,↓reduceIte,↓EBD,EBE])))
     refine LPx_of (σ:=Nat) 200000 [(65,28,1),(66,43,1),(68,43,1)] (fun j=>[.int .i64 j])
      (fun j=>[.int .i64 n :: vi .u8 (b ++ w),.int .i64 0 :: vi .u8 (List.replicate 96 0),.int .i64 (2 * n) :: vi .u8 (inn j (fgC w s) s (2 * gi w s + 1) (2 * gi w s) ++ fgT b s ++ inn j (fgS s) s (2 * s + 1) (2 * s))]) (fun j=>j <= 2) (fun j=>2 - j) 0 (by simp [frameOk,names,lpz,sclp,scv,scvs,nrfs,nrf,FRB]) (Nat.zero_le _) ?_ ?_
     ·(refine bni ?_; repeat (refine bnk ?_; simp (disch:=first | omega | (simp only [LN]; omega)) only [↓EC,EW,seval,↓reduceIte,↓EBD,EBE,ColV_def]))
      simp [inn]
     ·intro j hj
      have i1:=inn_len (j:=j) (l:=fgC w s) (i:=s) (a:=2 * gi w s + 1) (c:=2 * gi w s)
      have i2:=inn_len (j:=j) (l:=fgS s) (i:=s) (a:=2 * s + 1) (c:=2 * s)
      rw [lc] at i1
      rw [ls] at i2
      have i3:(inn j (fgC w s) s (2 * gi w s + 1) (2 * gi w s) ++ fgT b s).length = 64:=by simp [i1,lt]
      (refine bni ?_; repeat (refine bnk ?_; simp (disch:=first | omega | (simp only [LN]; omega)) only [↓EC,EW,seval,↓reduceIte,↓EBD,EBE,ColV_def,lheap_def]))
      (refine Split.mkB (fun h=>?_) (fun h=>?_) <;> (try simp only [SD] at h))
      ·have hj:j = 0 ∨ j = 1:=by omega
       have w1:IntKind.u8.wrap (2 * gi w s) = 2 * gi w s:=by simp [IntKind.wrap,IntKind.signed,IntKind.bits]; omega
       have w2:IntKind.u8.wrap (2 * gi w s + 1) = 2 * gi w s + 1:=by simp [IntKind.wrap,IntKind.signed,IntKind.bits]; omega
       have e1:(2 * (s:Int)).toNat = 2 * s:=by omega
       have e2:(2 * (s:Int) + 1).toNat = 2 * s + 1:=by omega
       have e3:(2 * (s:Int) + 0).toNat = 2 * s:=by omega
       have e5:16 + s - b.length = s:=by omega
       have e6:64 + 2 * s - ((inn j (fgC w s) s (2 * gi w s + 1) (2 * gi w s)).length + (fgT b s).length) = 2 * s:=by omega
       have e7:64 + (2 * s + 1) - ((inn j (fgC w s) s (2 * gi w s + 1) (2 * gi w s)).length + (fgT b s).length) = 2 * s + 1:=by omega
       rcases hj with rfl | rfl
       ·(refine bni ?_; repeat (refine bnk ?_; (try simp (disch:=first | omega | (simp only [LN]; omega)) only [↓EC,EW,seval,↓reduceIte,↓EBD,EBE,w1,w2,e1,e2,e3,set_33,set_65,i3])))
        refine ⟨1,rfl,?_,by omega,by omega⟩
        rw [e5,e6,w1,w2]
        simp [inn]
       ·(refine bni ?_; repeat (refine bnk ?_; (try simp (disch:=first | omega | (simp only [LN]; omega)) only [↓EC,EW,seval,↓reduceIte,↓EBD,EBE,w1,w2,e1,e2,e3,set_33,set_65,i3])))
        refine ⟨2,rfl,?_,by omega,by omega⟩
        rw [e5,e7,w1,Int.add_zero,w1]
        simp [inn]
      ·obtain rfl:j = 2:=by omega
       have w1:IntKind.u8.wrap (2 * gi b s) = 2 * gi b s:=by simp [IntKind.wrap,IntKind.signed,IntKind.bits]; omega
       have e2:(2 * (s:Int) + 1).toNat = 2 * s + 1:=by omega
       have e4:(2 * gi b s).toNat = 2 * (gi b s).toNat:=by omega
       (refine bni ?_; repeat (refine bnk ?_; (try simp (disch:=first | omega | (simp only [LN]; omega)) only [↓EC,EW,seval,↓reduceIte,↓EBD,EBE,w1,e2,e4,set_33,set_65,i1,i3])))
       exact ⟨s + 1,rfl,rfl,by omega,by omega⟩
    ·obtain rfl:n = (s:Int):=by omega
     (refine bni ?_; repeat (refine bnk ?_; (try simp (disch:=first | omega | (simp only [LN]; omega)) only [↓EC,EW,seval,↓reduceIte,↓EBD,EBE])))
     rfl
theorem c_spec_FlagsOf {n:Int} {b w:List Int} (hb:okP b) (hw:okP w):PSpec Tryz.prog 25 [vD n b w] fun v=>v = vFC (flR n b w):=by
 have hbl:=hb.1
 have hwl:=hw.1
 refine spec_FlagsOf_f.f ?_
 unfold vD
 dsimp only [spec_FlagsOf_F,pcal_B,pcalp_B,pcala_B,pcond_B,pgk_B,JN_B,LP_B]
 (refine bni ?_; repeat (refine bnk ?_; (try simp (disch:=first | omega | (simp only [LN]; omega)) only [↓EC,EW,seval,↓reduceIte,↓EBD,EBE])))
 refine pcd_v (c_spec_l01Is (n:=n) hb hw) ?_
 cases hd:isDB n b w with
 | false =>
  (refine bni ?_; repeat (refine bnk ?_; (try simp (disch:=first | omega | (simp only [LN]; omega)) only [↓EC,EW,seval,↓reduceIte,↓EBD,EBE])))
  rw [flR_no hd]; rfl
 | true =>
  have D:=(isDB_iff.1 hd).dz hb hw
  have hn:=D.B.hn
  (refine bni ?_; repeat (refine bnk ?_; (try simp (disch:=first | omega | (simp only [LN]; omega)) only [↓EC,EW,seval,↓reduceIte,↓EBD,EBE])))
  refine pcd_v (c_spec_l07Clean D) ?_
  cases hc:clB n w with
  | false =>
   (refine bni ?_; repeat (refine bnk ?_; (try simp (disch:=first | omega | (simp only [LN]; omega)) only [↓EC,EW,seval,↓reduceIte,↓EBD,EBE])))
   rw [flR_out hd hc]; rfl
  | true =>
   rw [flR_in hd hc]
   have k:=c_spec_l07Flags (n:=n) D.B.lo D.W.lo (by omega)
   have lc:=fgC_len (w:=w) n.toNat
   have lt:=fgT_len (b:=b) n.toNat
   have ls:=fgS_len n.toNat
   unfold vD vF at k
   (refine bni ?_; repeat (refine bnk ?_; (try simp (disch:=first | omega | (simp only [LN]; omega)) only [↓EC,EW,seval,↓reduceIte,↓EBD,EBE])))
   refine pcd_v k ?_
   (refine bni ?_; repeat (refine bnk ?_; (try simp (disch:=first | omega | (simp only [LN]; omega)) only [↓EC,EW,seval,↓reduceIte,↓EBD,EBE])))
   try rfl
end
section
set_option maxHeartbeats 4000000
def hlT (o:List Int):Nat -> List Int
 | 0=>o
 | s + 1=>(hlT o s).set s ((gi (hlT o s) s).tdiv 2)
theorem hlT_len {o:List Int}:∀ s,(hlT o s).length = o.length
 | 0=>rfl
 | s + 1=>by simp [hlT,hlT_len s]
theorem hlT_at {o:List Int} {y:Nat}:∀ s,s <= o.length -> gi (hlT o s) y = if y < s then (gi o y).tdiv 2 else gi o y
 | 0,_=>by simp [hlT]
 | s + 1,hs=>by
  simp only [hlT]
  rw [gi_set,hlT_len,hlT_at s (by omega),hlT_at s (by omega),if_neg (Nat.lt_irrefl s)]
  by_cases e:s = y
  ·subst e; rw [if_pos ⟨rfl,hs⟩,if_pos (by omega)]
  ·rw [if_neg fun q=>e q.1]
   by_cases q:y < s
   ·rw [if_pos q,if_pos (by omega)]
   ·rw [if_neg q,if_neg (by omega)]
theorem hlT_hlf {o:List Int}:hlT o o.length = hlf o:=gi_ext (by rw [hlT_len,hlf_len]) fun j hj=>by
 rw [hlT_len] at hj
 rw [hlT_at _ (Nat.le_refl _),if_pos hj,gi_of (show j < (hlf o).length by rw [hlf_len]; exact hj),gi_of hj]
 simp [hlf]
def exL (o:List Int):Nat -> List Int
 | 0=>[]
 | t + 1=>exL o t ++ List.replicate (o.count ((32:Int) - t)) ((32:Int) - t)
theorem exL_mem {o:List Int} {a:Int}:∀ t,a ∈ exL o t -> 32 - (t:Int) < a /\ a <= 32 /\ a ∈ o
 | 0,h=>absurd h List.not_mem_nil
 | t + 1,h=>by
  rcases List.mem_append.1 h with h | h
  ·have:=exL_mem t h; exact ⟨by omega,this.2⟩
  ·obtain ⟨h1,h2⟩:=List.mem_replicate.1 h
   subst h2
   exact ⟨by omega,by omega,List.count_pos_iff.1 (by omega)⟩
theorem exL_cnt {o:List Int} {a:Int}:∀ t,(exL o t).count a = if 32 - (t:Int) < a /\ a <= 32 then o.count a else 0
 | 0=>by
  simp only [exL,List.count_nil]
  rw [if_neg (by omega)]
 | t + 1=>by
  simp only [exL]
  rw [List.count_append,exL_cnt t,List.count_replicate]
  by_cases e:(32:Int) - t = a
  ·subst e
   rw [if_neg (by omega),if_pos (by simp),if_pos (by omega)]; omega
  ·have:¬ (((32:Int) - t) == a) = true:=by simpa using e
   rw [if_neg this]
   by_cases q:32 - (t:Int) < a /\ a <= 32
   ·rw [if_pos q,if_pos (by omega)]; omega
   ·rw [if_neg q,if_neg (by omega)]
theorem exL_pw {o:List Int}:∀ t,(exL o t).Pairwise fun a b=>b <= a
 | 0=>List.Pairwise.nil
 | t + 1=>by
  refine List.pairwise_append.2 ⟨exL_pw t,?_,fun a ha b hb=>?_⟩
  ·exact List.pairwise_replicate.2 (.inr (Int.le_refl _))
  ·have:=exL_mem t ha
   have:=(List.mem_replicate.1 hb).2
   omega
theorem exL_len {o:List Int} (h:o.length <= 16):∀ t,(exL o t).length <= 16 * t
 | 0=>by simp [exL]
 | t + 1=>by
  have:=exL_len h t
  have:=List.count_le_length (a:=(32:Int) - t) (l:=o)
  simp only [exL,List.length_append,List.length_replicate]; omega
theorem exL_dsc {o:List Int} (h:∀ a ∈ o,1 <= a /\ a <= 32):hlf (exL o 32) = dsc (hlf o):=by
 have hp:(exL o 32).Perm o:=List.perm_iff_count.2 fun a=>by
  rw [exL_cnt]
  by_cases q:32 - ((32:Nat):Int) < a /\ a <= 32
  ·rw [if_pos q]
  ·rw [if_neg q,List.count_eq_zero_of_not_mem fun ha=>q (by have:=h a ha; omega)]
 refine dsc_eq (hp.map _) ?_
 unfold hlf
 rw [List.pairwise_map]
 refine List.Pairwise.imp_of_mem (fun {a b} ha hb hab=>?_) (exL_pw 32)
 have h1:=h a (hp.mem_iff.1 ha)
 have h2:=h b (hp.mem_iff.1 hb)
 have e1:a.tdiv 2 = a / 2:=Int.tdiv_eq_ediv_of_nonneg (by omega)
 have e2:b.tdiv 2 = b / 2:=Int.tdiv_eq_ediv_of_nonneg (by omega)
 omega
def cnT (o:List Int):Nat -> List Int
 | 0=>List.replicate 33 0
 | s + 1=>(cnT o s).set (gi o s).toNat (gi (cnT o s) (gi o s).toNat + 1)
theorem cnT_len {o:List Int}:∀ s,(cnT o s).length = 33
 | 0=>by simp [cnT]
 | s + 1=>by simp [cnT,cnT_len s]
theorem cnT_at {o:List Int} (h:∀ a ∈ o,1 <= a /\ a <= 32) {y:Nat} (hy:y < 33):∀ s,s <= o.length -> gi (cnT o s) y = ((o.take s).count (y:Int):Int)
 | 0,_=>by simp only [cnT]; rw [gi_rep]; simp
 | s + 1,hs=>by
  have hm:=h (gi o s) (by rw [gi_of (show s < o.length by omega)]; exact List.getElem_mem _)
  simp only [cnT]
  rw [gi_set,cnT_len,cnT_at h hy s (by omega),List.take_succ_eq_append_getElem (show s < o.length by omega),List.count_append,<-gi_of (show s < o.length by omega)]
  by_cases e:(gi o s).toNat = y
  ·rw [if_pos ⟨e,hy⟩,e,cnT_at h hy s (by omega)]
   have:gi o s = (y:Int):=by omega
   rw [this]; simp
  ·rw [if_neg fun q=>e q.1]
   have:¬ gi o s = (y:Int):=by omega
   rw [List.count_cons_of_ne (by simpa using this)]; simp
section
variable {n:Int} {C T S X:List Int}
theorem Fls.sets (F:Fls n C T S) (iX:Iv X n.toNat):Ivs [T,X] n.toNat:=ivs2 F.iT iX
theorem Fls.ob (F:Fls n C T S) (iX:Iv X n.toNat):(∀ a ∈ obs [T,X] n.toNat,1 <= a /\ a <= 32) /\ (obs [T,X] n.toNat).length <= 16:=by
 have h32:=F.h32
 refine ⟨fun a ha=>?_,obs_len16 h32.1 (F.sets iX) (l:=T) (by simp)⟩
 have h1:=obs_ob h32.1 (F.sets iX) (l:=T) (by simp) ha
 have h2:=h1.pos
 have h3:=h1.le
 omega
end
theorem c_impl_degrees {n:Int} {C T S X:List Int} (hC:fo32 C) (hT:fo32 T) (hS:fo32 S) (hf:flB n C T S = true) (lX:fl32 X) (iX:Iv X n.toNat):PSpec Tryz.prog 84 [vF n C T S,.agg (vi .u8 X)] fun v=>v = .tup [.own 2 1 (deg T X n).length (vi .i64 (deg T X n)),.int .i64 0]:=by
 have hCl:=hC.1
 have hTl:=hT.1
 have hSl:=hS.1
 have hXl:=lX.1
 have hcts:(C ++ T ++ S).length = 96:=by simp [hCl,hTl,hSl]
 have t2:List.take 32 (List.drop 32 (C ++ T ++ S)) = T:=by
  have:List.drop 32 (C ++ T ++ S) = T ++ S:=by rw [List.append_assoc,<-hCl,List.drop_left]
  rw [this,<-hTl,List.take_left]
 have F:=(flB_iff.1 hf).fo hC hT hS
 obtain ⟨ob1,ob2⟩:=F.ob iX
 have k1:=c_impl_AreFlags (n:=n) hC hT hS
 have k2:=c_impl_orbits (L:=[T,X]) (N:=n.toNat) (n:=n) F.h32.2.2.1 F.h32.1 (F.sets iX) (by simp [hTl,hXl]) (by simp)
 have e2:([T,X]:List (List Int)).length = 2:=rfl
 rw [obs_set2,e2] at k2
 unfold vF at *
 refine impl_degrees_f.f ?_
 dsimp only [impl_degrees_F,pcal_B,pcalp_B,pcala_B,pcond_B,pgk_B,JN_B,LP_B]
 (refine bni ?_; repeat (refine bnk ?_; (try simp (disch:=first | omega | (simp only [LN]; omega)) only [↓EC,EW,seval,↓reduceIte,↓EBD,EBE])))
 refine pcd_v k1 ?_
 (refine bni ?_; repeat (refine bnk ?_; (try simp (disch:=first | omega | (simp only [LN]; omega)) only [↓EC,EW,seval,↓reduceIte,↓EBD,EBE,hf,t2])))
 refine pcd_o k2 ?_
 have hdeg:deg T X n = dsc (hlf (obs [T,X] n.toNat)):=rfl
 generalize obs [T,X] n.toNat = o at *
 (refine bni ?_; repeat (refine bnk ?_; (try simp (disch:=first | omega | (simp only [LN]; omega)) only [↓EC,EW,seval,↓reduceIte,↓EBD,EBE])))
 refine LPx_of (σ:=Nat) 100000 [(81,2,1)] (fun s=>[.int .i64 s]) (fun s=>[vi .i64 (hlT o s)]) (fun s=>s <= o.length) (fun s=>o.length - s) 0 (by simp [frameOk,names,lpz,sclp,scv,scvs,nrfs,nrf,FRB]) (Nat.zero_le _) ?_ ?_
 ·(refine bni ?_; repeat (refine bnk ?_; simp (disch:=first | omega | (simp only [LN]; omega)) only [↓EC,EW,seval,↓reduceIte,↓EBD,EBE,ColV_def]))
  try rfl
 ·intro s hs
  have hl:=hlT_len (o:=o) s
  (refine bni ?_; repeat (refine bnk ?_; simp (disch:=first | omega | (simp only [LN]; omega)) only [↓EC,EW,seval,↓reduceIte,↓EBD,EBE,ColV_def,lheap_def]))
  (refine Split.mkB (fun h=>?_) (fun h=>?_) <;> (try simp only [SD] at h))
  ·have hb:=ob1 (gi o s) (by rw [gi_of (show s < o.length by omega)]; exact List.getElem_mem _)
   have hv:=hlT_at (o:=o) (y:=s) s hs
   rw [if_neg (Nat.lt_irrefl s)] at hv
   have e1:(gi o s).tdiv 2 = gi o s / 2:=Int.tdiv_eq_ediv_of_nonneg (by omega)
   have hw:IntKind.i64.wrap ((gi (hlT o s) s).tdiv 2) = (gi (hlT o s) s).tdiv 2:=by rw [hv]; simp [IntKind.wrap,IntKind.signed,IntKind.bits]; omega
   (refine bni ?_; repeat (refine bnk ?_; (try simp (disch:=first | omega | (simp only [LN]; omega)) only [↓EC,EW,seval,↓reduceIte,↓EBD,EBE,hw])))
   exact ⟨s + 1,by simp,rfl,by omega,by omega⟩
  ·obtain rfl:s = o.length:=by omega
   rw [hlT_hlf] at *
   (refine bni ?_; repeat (refine bnk ?_; (try simp (disch:=first | omega | (simp only [LN]; omega)) only [↓EC,EW,seval,↓reduceIte,↓EBD,EBE])))
   refine pcmr [81] rfl ?_
   (refine bni ?_; repeat (refine bnk ?_; (try simp (disch:=first | omega | (simp only [LN]; omega)) only [↓EC,EW,seval,↓reduceIte,↓EBD,EBE])))
   refine callMR_qs (c_descendingS hl ob2) ?_
   rintro j o' k c ⟨rfl,rfl,rfl,rfl⟩ b hb
   simp at hb
   subst hb
   have hdl:(dsc (hlf o)).length = o.length:=by rw [dsc_len,hlf_len]
   (refine bni ?_; repeat (refine bnk ?_; (try simp (disch:=first | omega | (simp only [LN]; omega)) only [↓EC,EW,seval,↓reduceIte,↓EBD,EBE])))
   rw [hdeg,hdl]
theorem c_impl_degreesN {n:Int} {C T S X:List Int} (hC:fo32 C) (hT:fo32 T) (hS:fo32 S) (hf:flB n C T S = false) (hXl:X.length = 32):PSpec Tryz.prog 84 [vF n C T S,.agg (vi .u8 X)] fun v=>v = .tup [.nils,.int .i64 1]:=by
 have hCl:=hC.1
 have hTl:=hT.1
 have hSl:=hS.1
 have hcts:(C ++ T ++ S).length = 96:=by simp [hCl,hTl,hSl]
 have k1:=c_impl_AreFlags (n:=n) hC hT hS
 unfold vF at *
 refine impl_degrees_f.f ?_
 dsimp only [impl_degrees_F,pcal_B,pcalp_B,pcala_B,pcond_B,pgk_B,JN_B,LP_B]
 (refine bni ?_; repeat (refine bnk ?_; (try simp (disch:=first | omega | (simp only [LN]; omega)) only [↓EC,EW,seval,↓reduceIte,↓EBD,EBE])))
 refine pcd_v k1 ?_
 (refine bni ?_; repeat (refine bnk ?_; (try simp (disch:=first | omega | (simp only [LN]; omega)) only [↓EC,EW,seval,↓reduceIte,↓EBD,EBE,hf])))
theorem c_spec_l07Degrees {n:Int} {C T S X:List Int} (F:Fls n C T S) (lX:fl32 X) (iX:Iv X n.toNat):PSpec Tryz.prog 88 [vF n C T S,.agg (vi .u8 X)] fun v=>v = .own 2 1 (deg T X n).length (vi .i64 (deg T X n)):=by
 have hCl:=F.c.1
 have hTl:=F.t.1
 have hSl:=F.s.1
 have hXl:=lX.1
 have hcts:(C ++ T ++ S).length = 96:=by simp [hCl,hTl,hSl]
 have t2:List.take 32 (List.drop 32 (C ++ T ++ S)) = T:=by
  have:List.drop 32 (C ++ T ++ S) = T ++ S:=by rw [List.append_assoc,<-hCl,List.drop_left]
  rw [this,<-hTl,List.take_left]
 obtain ⟨ob1,ob2⟩:=F.ob iX
 have k2:=c_spec_l07Sets (L:=[T,X]) (N:=n.toNat) (n:=n) F.h32.2.2.1 F.h32.1 (F.sets iX) (by simp [hTl,hXl]) (by simp)
 have e2:([T,X]:List (List Int)).length = 2:=rfl
 rw [obs_set2,e2] at k2
 unfold vF at *
 refine spec_l07Degrees_f.f ?_
 dsimp only [spec_l07Degrees_F,pcal_B,pcalp_B,pcala_B,pcond_B,pgk_B,JN_B,LP_B]
 (refine bni ?_; repeat (refine bnk ?_; (try simp (disch:=first | omega | (simp only [LN]; omega)) only [↓EC,EW,seval,↓reduceIte,↓EBD,EBE,t2])))
 refine pcd_v k2 ?_
 have hdeg:deg T X n = dsc (hlf (obs [T,X] n.toNat)):=rfl
 generalize obs [T,X] n.toNat = o at *
 (refine bni ?_; repeat (refine bnk ?_; (try simp (disch:=first | omega | (simp only [LN]; omega)) only [↓EC,EW,seval,↓reduceIte,↓EBD,EBE])))
 refine LPx_of (σ:=Nat) 100000 [(70,122,1),(83,2,0)] (fun s=>[.int .i64 s]) (fun s=>[vi .i64 (cnT o s),[]]) (fun s=>s <= o.length) (fun s=>o.length - s) 0 (by simp [frameOk,names,lpz,sclp,scv,scvs,nrfs,nrf,FRB]) (Nat.zero_le _) ?_ ?_
 ·(refine bni ?_; repeat (refine bnk ?_; simp (disch:=first | omega | (simp only [LN]; omega)) only [↓EC,EW,seval,↓reduceIte,↓EBD,EBE,ColV_def]))
  try rfl
 ·intro s hs
  have hl:=cnT_len (o:=o) s
  (refine bni ?_; repeat (refine bnk ?_; simp (disch:=first | omega | (simp only [LN]; omega)) only [↓EC,EW,seval,↓reduceIte,↓EBD,EBE,ColV_def,lheap_def]))
  (refine Split.mkB (fun h=>?_) (fun h=>?_) <;> (try simp only [SD] at h))
  ·have hb:=ob1 (gi o s) (by rw [gi_of (show s < o.length by omega)]; exact List.getElem_mem _)
   have hc:=cnT_at ob1 (y:=(gi o s).toNat) (by omega) s (by omega)
   have hcl:=List.count_le_length (a:=(((gi o s).toNat:Nat):Int)) (l:=o.take s)
   rw [List.length_take] at hcl
   (refine bni ?_; repeat (refine bnk ?_; (try simp (disch:=first | omega | (simp only [LN]; omega)) only [↓EC,EW,seval,↓reduceIte,↓EBD,EBE])))
   exact ⟨s + 1,by simp,rfl,by omega,by omega⟩
  ·obtain rfl:s = o.length:=by omega
   have hcn:∀ y:Nat,y < 33 -> gi (cnT o o.length) y = (o.count (y:Int):Int):=fun y hy=>by
    have:=cnT_at ob1 hy o.length (Nat.le_refl _)
    rwa [List.take_length] at this
   generalize cnT o o.length = D at *
   (refine bni ?_; repeat (refine bnk ?_; (try simp (disch:=first | omega | (simp only [LN]; omega)) only [↓EC,EW,seval,↓reduceIte,↓EBD,EBE])))
   refine LPx_ofE (σ:=Nat) [1,1] 200000 [(70,122,1)] (fun t=>[.own 2 1 (exL o t).length (vi .i64 (hlf (exL o t))),.int .i64 (32 - t)]) (fun t=>[vi .i64 D]) (fun t=>t <= 32) (fun t=>32 - t) 0 (by simp [frameOk,names,lpz,sclp,scv,scvs,nrfs,nrf,FRB]) (Nat.zero_le _) ?_ ?_
   ·(refine bni ?_; repeat (refine bnk ?_; simp (disch:=first | omega | (simp only [LN]; omega)) only [↓EC,EW,seval,↓reduceIte,↓EBD,EBE,ColV_def]))
    exact ⟨fun _=>trivial,rfl⟩
   ·intro t ht
    have xl:=exL_len ob2 t
    have hx:(hlf (exL o t)).length = (exL o t).length:=hlf_len
    (refine bni ?_; repeat (refine bnk ?_; simp (disch:=first | omega | (simp only [LN]; omega)) only [↓EC,EW,seval,↓reduceIte,↓EBD,EBE,ColV_def,lheap_def]))
    (refine Split.mkB (fun h=>?_) (fun h=>?_) <;> (try simp only [SD] at h))
    ·have e5:((32:Int) - t).toNat = 32 - t:=by omega
     have hD:=hcn (32 - t) (by omega)
     have e6:((32 - t:Nat):Int) = 32 - (t:Int):=by omega
     rw [e6] at hD
     have hcl:=List.count_le_length (a:=(32:Int) - t) (l:=o)
     have hv:IntKind.i64.wrap (((32:Int) - t).tdiv 2) = ((32:Int) - t).tdiv 2:=by
      have e1:((32:Int) - t).tdiv 2 = ((32:Int) - t) / 2:=Int.tdiv_eq_ediv_of_nonneg (by omega)
      rw [e1]; simp [IntKind.wrap,IntKind.signed,IntKind.bits]; omega
     (refine bni ?_; repeat (refine bnk ?_; (try simp (disch:=first | omega | (simp only [LN]; omega)) only [↓EC,EW,seval,↓reduceIte,↓EBD,EBE,e5,hD])))
     generalize hc:o.count ((32:Int) - t) = c at *
     refine LPx_of (σ:=Nat) 300000 [(70,122,1)] (fun j=>[.own 2 1 ((exL o t).length + j) (vi .i64 (hlf (exL o t ++ List.replicate j ((32:Int) - t)))),.int .i64 ((c:Int) - j)]) (fun j=>[vi .i64 D]) (fun j=>j <= c) (fun j=>c - j) 0 (by simp [frameOk,names,lpz,sclp,scv,scvs,nrfs,nrf,FRB]) (Nat.zero_le _) ?_ ?_
     ·(refine bni ?_; repeat (refine bnk ?_; simp (disch:=first | omega | (simp only [LN]; omega)) only [↓EC,EW,seval,↓reduceIte,↓EBD,EBE,ColV_def]))
      simp
     ·intro j hj
      have hx2:(hlf (exL o t ++ List.replicate j ((32:Int) - t))).length = (exL o t).length + j:=by rw [hlf_len]; simp
      (refine bni ?_; repeat (refine bnk ?_; simp (disch:=first | omega | (simp only [LN]; omega)) only [↓EC,EW,seval,↓reduceIte,↓EBD,EBE,ColV_def,lheap_def]))
      (refine Split.mkB (fun h=>?_) (fun h=>?_) <;> (try simp only [SD] at h))
      ·(refine bni ?_; repeat (refine bnk ?_; (try simp (disch:=first | omega | (simp only [LN]; omega)) only [↓EC,EW,seval,↓reduceIte,↓EBD,EBE,hv])))
       refine ⟨j + 1,?_,by omega,by omega⟩
       have e8:hlf (exL o t ++ List.replicate (j + 1) ((32:Int) - t)) = hlf (exL o t ++ List.replicate j ((32:Int) - t)) ++ [((32:Int) - t).tdiv 2]:=by
        rw [List.replicate_succ',<-List.append_assoc]; simp [hlf]
       rw [e8]
       simp; omega
      ·obtain rfl:j = c:=by omega
       (refine bni ?_; repeat (refine bnk ?_; (try simp (disch:=first | omega | (simp only [LN]; omega)) only [↓EC,EW,seval,↓reduceIte,↓EBD,EBE])))
       refine ⟨t + 1,?_,by omega,by omega⟩
       have e9:exL o (t + 1) = exL o t ++ List.replicate j ((32:Int) - t):=by simp only [exL,hc]
       rw [e9]
       simp; omega
    ·obtain rfl:t = 32:=by omega
     (refine bni ?_; repeat (refine bnk ?_; (try simp (disch:=first | omega | (simp only [LN]; omega)) only [↓EC,EW,seval,↓reduceIte,↓EBD,EBE])))
     rw [hdeg,<-exL_dsc ob1,hlf_len]
end
section
set_option maxHeartbeats 4000000
def vDg (d:List Int):V:=.tup [.own 2 1 d.length (vi .i64 d),.int .i64 0]
theorem c_impl_VertexDegrees {n:Int} {C T S:List Int} (hC:fo32 C) (hT:fo32 T) (hS:fo32 S) (hf:flB n C T S = true):PSpec Tryz.prog 35 [vF n C T S] fun v=>v = vDg (deg T S n):=by
 have hCl:=hC.1
 have hTl:=hT.1
 have hSl:=hS.1
 have hct:(C ++ T).length = 64:=by simp [hCl,hTl]
 have hcts:(C ++ T ++ S).length = 96:=by simp [hCl,hTl,hSl]
 have t1:List.take 32 (C ++ T ++ S) = C:=by rw [List.append_assoc,<-hCl,List.take_left]
 have t2:List.take 32 (List.drop 32 (C ++ T ++ S)) = T:=by
  have:List.drop 32 (C ++ T ++ S) = T ++ S:=by rw [List.append_assoc,<-hCl,List.drop_left]
  rw [this,<-hTl,List.take_left]
 have t3:List.drop 64 (C ++ T ++ S) = S:=by rw [<-hct,List.drop_left]
 have F:=(flB_iff.1 hf).fo hC hT hS
 have k:=c_impl_degrees (n:=n) (X:=S) hC hT hS hf F.s F.iS
 unfold vF at *
 refine impl_VertexDegrees_f.f ?_
 dsimp only [impl_VertexDegrees_F,pcal_B,pcalp_B,pcala_B,pcond_B,pgk_B,JN_B,LP_B]
 (refine bni ?_; repeat (refine bnk ?_; (try simp (disch:=first | omega | (simp only [LN]; omega)) only [↓EC,EW,seval,↓reduceIte,↓EBD,EBE,t3])))
 refine pcd_rq k ?_
 rintro _ rfl
 (refine bni ?_; repeat (refine bnk ?_; (try simp (disch:=first | omega | (simp only [LN]; omega)) only [↓EC,EW,seval,↓reduceIte,↓EBD,EBE])))
 first | rfl | exact ⟨Nat.le_refl _,rfl⟩
theorem c_impl_VertexDegreesN {n:Int} {C T S:List Int} (hC:fo32 C) (hT:fo32 T) (hS:fo32 S) (hf:flB n C T S = false):PSpec Tryz.prog 35 [vF n C T S] fun v=>v = .tup [.nils,.int .i64 1]:=by
 have hCl:=hC.1
 have hTl:=hT.1
 have hSl:=hS.1
 have hct:(C ++ T).length = 64:=by simp [hCl,hTl]
 have hcts:(C ++ T ++ S).length = 96:=by simp [hCl,hTl,hSl]
 have t1:List.take 32 (C ++ T ++ S) = C:=by rw [List.append_assoc,<-hCl,List.take_left]
 have t2:List.take 32 (List.drop 32 (C ++ T ++ S)) = T:=by
  have:List.drop 32 (C ++ T ++ S) = T ++ S:=by rw [List.append_assoc,<-hCl,List.drop_left]
  rw [this,<-hTl,List.take_left]
 have t3:List.drop 64 (C ++ T ++ S) = S:=by rw [<-hct,List.drop_left]
 have k:=c_impl_degreesN (n:=n) (X:=S) hC hT hS hf hSl
 unfold vF at *
 refine impl_VertexDegrees_f.f ?_
 dsimp only [impl_VertexDegrees_F,pcal_B,pcalp_B,pcala_B,pcond_B,pgk_B,JN_B,LP_B]
 (refine bni ?_; repeat (refine bnk ?_; (try simp (disch:=first | omega | (simp only [LN]; omega)) only [↓EC,EW,seval,↓reduceIte,↓EBD,EBE,t3])))
 refine pcd_v k ?_
 (refine bni ?_; repeat (refine bnk ?_; (try simp (disch:=first | omega | (simp only [LN]; omega)) only [↓EC,EW,seval,↓reduceIte,↓EBD,EBE])))
 try rfl
theorem c_spec_VertexDegrees {n:Int} {C T S:List Int} (hC:fo32 C) (hT:fo32 T) (hS:fo32 S) (hf:flB n C T S = true):PSpec Tryz.prog 46 [vF n C T S] fun v=>v = vDg (deg T S n):=by
 have hCl:=hC.1
 have hTl:=hT.1
 have hSl:=hS.1
 have hct:(C ++ T).length = 64:=by simp [hCl,hTl]
 have hcts:(C ++ T ++ S).length = 96:=by simp [hCl,hTl,hSl]
 have t1:List.take 32 (C ++ T ++ S) = C:=by rw [List.append_assoc,<-hCl,List.take_left]
 have t2:List.take 32 (List.drop 32 (C ++ T ++ S)) = T:=by
  have:List.drop 32 (C ++ T ++ S) = T ++ S:=by rw [List.append_assoc,<-hCl,List.drop_left]
  rw [this,<-hTl,List.take_left]
 have t3:List.drop 64 (C ++ T ++ S) = S:=by rw [<-hct,List.drop_left]
 have F:=(flB_iff.1 hf).fo hC hT hS
 have k1:=c_spec_l07Are (n:=n) hC hT hS
 have k:=c_spec_l07Degrees F F.s F.iS
 unfold vF at *
 refine spec_VertexDegrees_f.f ?_
 dsimp only [spec_VertexDegrees_F,pcal_B,pcalp_B,pcala_B,pcond_B,pgk_B,JN_B,LP_B]
 (refine bni ?_; repeat (refine bnk ?_; (try simp (disch:=first | omega | (simp only [LN]; omega)) only [↓EC,EW,seval,↓reduceIte,↓EBD,EBE,t3])))
 refine pcd_v k1 ?_
 (refine bni ?_; repeat (refine bnk ?_; (try simp (disch:=first | omega | (simp only [LN]; omega)) only [↓EC,EW,seval,↓reduceIte,↓EBD,EBE,hf,t3])))
 refine pcd_rq k ?_
 rintro _ rfl
 (refine bni ?_; repeat (refine bnk ?_; (try simp (disch:=first | omega | (simp only [LN]; omega)) only [↓EC,EW,seval,↓reduceIte,↓EBD,EBE])))
 first | rfl | exact ⟨Nat.le_refl _,rfl⟩
theorem c_spec_VertexDegreesN {n:Int} {C T S:List Int} (hC:fo32 C) (hT:fo32 T) (hS:fo32 S) (hf:flB n C T S = false):PSpec Tryz.prog 46 [vF n C T S] fun v=>v = .tup [.nils,.int .i64 1]:=by
 have hCl:=hC.1
 have hTl:=hT.1
 have hSl:=hS.1
 have hct:(C ++ T).length = 64:=by simp [hCl,hTl]
 have hcts:(C ++ T ++ S).length = 96:=by simp [hCl,hTl,hSl]
 have t1:List.take 32 (C ++ T ++ S) = C:=by rw [List.append_assoc,<-hCl,List.take_left]
 have t2:List.take 32 (List.drop 32 (C ++ T ++ S)) = T:=by
  have:List.drop 32 (C ++ T ++ S) = T ++ S:=by rw [List.append_assoc,<-hCl,List.drop_left]
  rw [this,<-hTl,List.take_left]
 have t3:List.drop 64 (C ++ T ++ S) = S:=by rw [<-hct,List.drop_left]
 have k1:=c_spec_l07Are (n:=n) hC hT hS
 unfold vF at *
 refine spec_VertexDegrees_f.f ?_
 dsimp only [spec_VertexDegrees_F,pcal_B,pcalp_B,pcala_B,pcond_B,pgk_B,JN_B,LP_B]
 (refine bni ?_; repeat (refine bnk ?_; (try simp (disch:=first | omega | (simp only [LN]; omega)) only [↓EC,EW,seval,↓reduceIte,↓EBD,EBE])))
 refine pcd_v k1 ?_
 (refine bni ?_; repeat (refine bnk ?_; (try simp (disch:=first | omega | (simp only [LN]; omega)) only [↓EC,EW,seval,↓reduceIte,↓EBD,EBE,hf])))
 try rfl
theorem c_impl_FaceDegrees {n:Int} {C T S:List Int} (hC:fo32 C) (hT:fo32 T) (hS:fo32 S) (hf:flB n C T S = true):PSpec Tryz.prog 36 [vF n C T S] fun v=>v = vDg (deg T C n):=by
 have hCl:=hC.1
 have hTl:=hT.1
 have hSl:=hS.1
 have hct:(C ++ T).length = 64:=by simp [hCl,hTl]
 have hcts:(C ++ T ++ S).length = 96:=by simp [hCl,hTl,hSl]
 have t1:List.take 32 (C ++ T ++ S) = C:=by rw [List.append_assoc,<-hCl,List.take_left]
 have t2:List.take 32 (List.drop 32 (C ++ T ++ S)) = T:=by
  have:List.drop 32 (C ++ T ++ S) = T ++ S:=by rw [List.append_assoc,<-hCl,List.drop_left]
  rw [this,<-hTl,List.take_left]
 have t3:List.drop 64 (C ++ T ++ S) = S:=by rw [<-hct,List.drop_left]
 have F:=(flB_iff.1 hf).fo hC hT hS
 have k:=c_impl_degrees (n:=n) (X:=C) hC hT hS hf F.c F.iC
 unfold vF at *
 refine impl_FaceDegrees_f.f ?_
 dsimp only [impl_FaceDegrees_F,pcal_B,pcalp_B,pcala_B,pcond_B,pgk_B,JN_B,LP_B]
 (refine bni ?_; repeat (refine bnk ?_; (try simp (disch:=first | omega | (simp only [LN]; omega)) only [↓EC,EW,seval,↓reduceIte,↓EBD,EBE,t1])))
 refine pcd_rq k ?_
 rintro _ rfl
 (refine bni ?_; repeat (refine bnk ?_; (try simp (disch:=first | omega | (simp only [LN]; omega)) only [↓EC,EW,seval,↓reduceIte,↓EBD,EBE])))
 first | rfl | exact ⟨Nat.le_refl _,rfl⟩
theorem c_impl_FaceDegreesN {n:Int} {C T S:List Int} (hC:fo32 C) (hT:fo32 T) (hS:fo32 S) (hf:flB n C T S = false):PSpec Tryz.prog 36 [vF n C T S] fun v=>v = .tup [.nils,.int .i64 1]:=by
 have hCl:=hC.1
 have hTl:=hT.1
 have hSl:=hS.1
 have hct:(C ++ T).length = 64:=by simp [hCl,hTl]
 have hcts:(C ++ T ++ S).length = 96:=by simp [hCl,hTl,hSl]
 have t1:List.take 32 (C ++ T ++ S) = C:=by rw [List.append_assoc,<-hCl,List.take_left]
 have t2:List.take 32 (List.drop 32 (C ++ T ++ S)) = T:=by
  have:List.drop 32 (C ++ T ++ S) = T ++ S:=by rw [List.append_assoc,<-hCl,List.drop_left]
  rw [this,<-hTl,List.take_left]
 have t3:List.drop 64 (C ++ T ++ S) = S:=by rw [<-hct,List.drop_left]
 have k:=c_impl_degreesN (n:=n) (X:=C) hC hT hS hf hCl
 unfold vF at *
 refine impl_FaceDegrees_f.f ?_
 dsimp only [impl_FaceDegrees_F,pcal_B,pcalp_B,pcala_B,pcond_B,pgk_B,JN_B,LP_B]
 (refine bni ?_; repeat (refine bnk ?_; (try simp (disch:=first | omega | (simp only [LN]; omega)) only [↓EC,EW,seval,↓reduceIte,↓EBD,EBE,t1])))
 refine pcd_v k ?_
 (refine bni ?_; repeat (refine bnk ?_; (try simp (disch:=first | omega | (simp only [LN]; omega)) only [↓EC,EW,seval,↓reduceIte,↓EBD,EBE])))
 try rfl
theorem c_spec_FaceDegrees {n:Int} {C T S:List Int} (hC:fo32 C) (hT:fo32 T) (hS:fo32 S) (hf:flB n C T S = true):PSpec Tryz.prog 47 [vF n C T S] fun v=>v = vDg (deg T C n):=by
 have hCl:=hC.1
 have hTl:=hT.1
 have hSl:=hS.1
 have hct:(C ++ T).length = 64:=by simp [hCl,hTl]
 have hcts:(C ++ T ++ S).length = 96:=by simp [hCl,hTl,hSl]
 have t1:List.take 32 (C ++ T ++ S) = C:=by rw [List.append_assoc,<-hCl,List.take_left]
 have t2:List.take 32 (List.drop 32 (C ++ T ++ S)) = T:=by
  have:List.drop 32 (C ++ T ++ S) = T ++ S:=by rw [List.append_assoc,<-hCl,List.drop_left]
  rw [this,<-hTl,List.take_left]
 have t3:List.drop 64 (C ++ T ++ S) = S:=by rw [<-hct,List.drop_left]
 have F:=(flB_iff.1 hf).fo hC hT hS
 have k1:=c_spec_l07Are (n:=n) hC hT hS
 have k:=c_spec_l07Degrees F F.c F.iC
 unfold vF at *
 refine spec_FaceDegrees_f.f ?_
 dsimp only [spec_FaceDegrees_F,pcal_B,pcalp_B,pcala_B,pcond_B,pgk_B,JN_B,LP_B]
 (refine bni ?_; repeat (refine bnk ?_; (try simp (disch:=first | omega | (simp only [LN]; omega)) only [↓EC,EW,seval,↓reduceIte,↓EBD,EBE,t1])))
 refine pcd_v k1 ?_
 (refine bni ?_; repeat (refine bnk ?_; (try simp (disch:=first | omega | (simp only [LN]; omega)) only [↓EC,EW,seval,↓reduceIte,↓EBD,EBE,hf,t1])))
 refine pcd_rq k ?_
 rintro _ rfl
 (refine bni ?_; repeat (refine bnk ?_; (try simp (disch:=first | omega | (simp only [LN]; omega)) only [↓EC,EW,seval,↓reduceIte,↓EBD,EBE])))
 first | rfl | exact ⟨Nat.le_refl _,rfl⟩
theorem c_spec_FaceDegreesN {n:Int} {C T S:List Int} (hC:fo32 C) (hT:fo32 T) (hS:fo32 S) (hf:flB n C T S = false):PSpec Tryz.prog 47 [vF n C T S] fun v=>v = .tup [.nils,.int .i64 1]:=by
 have hCl:=hC.1
 have hTl:=hT.1
 have hSl:=hS.1
 have hct:(C ++ T).length = 64:=by simp [hCl,hTl]
 have hcts:(C ++ T ++ S).length = 96:=by simp [hCl,hTl,hSl]
 have t1:List.take 32 (C ++ T ++ S) = C:=by rw [List.append_assoc,<-hCl,List.take_left]
 have t2:List.take 32 (List.drop 32 (C ++ T ++ S)) = T:=by
  have:List.drop 32 (C ++ T ++ S) = T ++ S:=by rw [List.append_assoc,<-hCl,List.drop_left]
  rw [this,<-hTl,List.take_left]
 have t3:List.drop 64 (C ++ T ++ S) = S:=by rw [<-hct,List.drop_left]
 have k1:=c_spec_l07Are (n:=n) hC hT hS
 unfold vF at *
 refine spec_FaceDegrees_f.f ?_
 dsimp only [spec_FaceDegrees_F,pcal_B,pcalp_B,pcala_B,pcond_B,pgk_B,JN_B,LP_B]
 (refine bni ?_; repeat (refine bnk ?_; (try simp (disch:=first | omega | (simp only [LN]; omega)) only [↓EC,EW,seval,↓reduceIte,↓EBD,EBE])))
 refine pcd_v k1 ?_
 (refine bni ?_; repeat (refine bnk ?_; (try simp (disch:=first | omega | (simp only [LN]; omega)) only [↓EC,EW,seval,↓reduceIte,↓EBD,EBE,hf])))
 try rfl
theorem c_impl_ZigzagDegrees {n:Int} {C T S:List Int} (hC:fo32 C) (hT:fo32 T) (hS:fo32 S) (hf:flB n C T S = true):PSpec Tryz.prog 37 [vF n C T S] fun v=>v = vDg (deg T (bo C S n) n):=by
 have hCl:=hC.1
 have hTl:=hT.1
 have hSl:=hS.1
 have hct:(C ++ T).length = 64:=by simp [hCl,hTl]
 have hcts:(C ++ T ++ S).length = 96:=by simp [hCl,hTl,hSl]
 have t1:List.take 32 (C ++ T ++ S) = C:=by rw [List.append_assoc,<-hCl,List.take_left]
 have t2:List.take 32 (List.drop 32 (C ++ T ++ S)) = T:=by
  have:List.drop 32 (C ++ T ++ S) = T ++ S:=by rw [List.append_assoc,<-hCl,List.drop_left]
  rw [this,<-hTl,List.take_left]
 have t3:List.drop 64 (C ++ T ++ S) = S:=by rw [<-hct,List.drop_left]
 have F:=(flB_iff.1 hf).fo hC hT hS
 have b1:=bo_len (C:=C) (S:=S) (n:=n)
 have k1:=c_impl_AreFlags (n:=n) hC hT hS
 have k2:=c_impl_both (n:=n) (C:=C) (T:=T) (S:=S) F.c hTl F.s (by have:=F.F.hn; omega)
 have k:=c_impl_degrees (n:=n) (X:=bo C S n) hC hT hS hf F.lP F.iP
 unfold vF at *
 refine impl_ZigzagDegrees_f.f ?_
 dsimp only [impl_ZigzagDegrees_F,pcal_B,pcalp_B,pcala_B,pcond_B,pgk_B,JN_B,LP_B]
 (refine bni ?_; repeat (refine bnk ?_; (try simp (disch:=first | omega | (simp only [LN]; omega)) only [↓EC,EW,seval,↓reduceIte,↓EBD,EBE])))
 refine pcd_v k1 ?_
 (refine bni ?_; repeat (refine bnk ?_; (try simp (disch:=first | omega | (simp only [LN]; omega)) only [↓EC,EW,seval,↓reduceIte,↓EBD,EBE,hf])))
 refine pcd_v k2 ?_
 (refine bni ?_; repeat (refine bnk ?_; (try simp (disch:=first | omega | (simp only [LN]; omega)) only [↓EC,EW,seval,↓reduceIte,↓EBD,EBE])))
 refine pcd_rq k ?_
 rintro _ rfl
 (refine bni ?_; repeat (refine bnk ?_; (try simp (disch:=first | omega | (simp only [LN]; omega)) only [↓EC,EW,seval,↓reduceIte,↓EBD,EBE])))
 first | rfl | exact ⟨Nat.le_refl _,rfl⟩
theorem c_impl_ZigzagDegreesN {n:Int} {C T S:List Int} (hC:fo32 C) (hT:fo32 T) (hS:fo32 S) (hf:flB n C T S = false):PSpec Tryz.prog 37 [vF n C T S] fun v=>v = .tup [.nils,.int .i64 1]:=by
 have hCl:=hC.1
 have hTl:=hT.1
 have hSl:=hS.1
 have hct:(C ++ T).length = 64:=by simp [hCl,hTl]
 have hcts:(C ++ T ++ S).length = 96:=by simp [hCl,hTl,hSl]
 have t1:List.take 32 (C ++ T ++ S) = C:=by rw [List.append_assoc,<-hCl,List.take_left]
 have t2:List.take 32 (List.drop 32 (C ++ T ++ S)) = T:=by
  have:List.drop 32 (C ++ T ++ S) = T ++ S:=by rw [List.append_assoc,<-hCl,List.drop_left]
  rw [this,<-hTl,List.take_left]
 have t3:List.drop 64 (C ++ T ++ S) = S:=by rw [<-hct,List.drop_left]
 have k1:=c_impl_AreFlags (n:=n) hC hT hS
 unfold vF at *
 refine impl_ZigzagDegrees_f.f ?_
 dsimp only [impl_ZigzagDegrees_F,pcal_B,pcalp_B,pcala_B,pcond_B,pgk_B,JN_B,LP_B]
 (refine bni ?_; repeat (refine bnk ?_; (try simp (disch:=first | omega | (simp only [LN]; omega)) only [↓EC,EW,seval,↓reduceIte,↓EBD,EBE])))
 refine pcd_v k1 ?_
 (refine bni ?_; repeat (refine bnk ?_; (try simp (disch:=first | omega | (simp only [LN]; omega)) only [↓EC,EW,seval,↓reduceIte,↓EBD,EBE,hf])))
 try rfl
theorem c_spec_ZigzagDegrees {n:Int} {C T S:List Int} (hC:fo32 C) (hT:fo32 T) (hS:fo32 S) (hf:flB n C T S = true):PSpec Tryz.prog 48 [vF n C T S] fun v=>v = vDg (deg T (bo C S n) n):=by
 have hCl:=hC.1
 have hTl:=hT.1
 have hSl:=hS.1
 have hct:(C ++ T).length = 64:=by simp [hCl,hTl]
 have hcts:(C ++ T ++ S).length = 96:=by simp [hCl,hTl,hSl]
 have t1:List.take 32 (C ++ T ++ S) = C:=by rw [List.append_assoc,<-hCl,List.take_left]
 have t2:List.take 32 (List.drop 32 (C ++ T ++ S)) = T:=by
  have:List.drop 32 (C ++ T ++ S) = T ++ S:=by rw [List.append_assoc,<-hCl,List.drop_left]
  rw [this,<-hTl,List.take_left]
 have t3:List.drop 64 (C ++ T ++ S) = S:=by rw [<-hct,List.drop_left]
 have F:=(flB_iff.1 hf).fo hC hT hS
 have b1:=bo_len (C:=C) (S:=S) (n:=n)
 have k1:=c_spec_l07Are (n:=n) hC hT hS
 have k2:=c_spec_l07Both (n:=n) F.c F.s (by have:=F.F.hn; omega)
 have k:=c_spec_l07Degrees F F.lP F.iP
 unfold vF at *
 refine spec_ZigzagDegrees_f.f ?_
 dsimp only [spec_ZigzagDegrees_F,pcal_B,pcalp_B,pcala_B,pcond_B,pgk_B,JN_B,LP_B]
 (refine bni ?_; repeat (refine bnk ?_; (try simp (disch:=first | omega | (simp only [LN]; omega)) only [↓EC,EW,seval,↓reduceIte,↓EBD,EBE])))
 refine pcd_v k1 ?_
 (refine bni ?_; repeat (refine bnk ?_; (try simp (disch:=first | omega | (simp only [LN]; omega)) only [↓EC,EW,seval,↓reduceIte,↓EBD,EBE,hf,t1,t3])))
 refine pcd_v k2 ?_
 (refine bni ?_; repeat (refine bnk ?_; (try simp (disch:=first | omega | (simp only [LN]; omega)) only [↓EC,EW,seval,↓reduceIte,↓EBD,EBE])))
 refine pcd_rq k ?_
 rintro _ rfl
 (refine bni ?_; repeat (refine bnk ?_; (try simp (disch:=first | omega | (simp only [LN]; omega)) only [↓EC,EW,seval,↓reduceIte,↓EBD,EBE])))
 first | rfl | exact ⟨Nat.le_refl _,rfl⟩
theorem c_spec_ZigzagDegreesN {n:Int} {C T S:List Int} (hC:fo32 C) (hT:fo32 T) (hS:fo32 S) (hf:flB n C T S = false):PSpec Tryz.prog 48 [vF n C T S] fun v=>v = .tup [.nils,.int .i64 1]:=by
 have hCl:=hC.1
 have hTl:=hT.1
 have hSl:=hS.1
 have hct:(C ++ T).length = 64:=by simp [hCl,hTl]
 have hcts:(C ++ T ++ S).length = 96:=by simp [hCl,hTl,hSl]
 have t1:List.take 32 (C ++ T ++ S) = C:=by rw [List.append_assoc,<-hCl,List.take_left]
 have t2:List.take 32 (List.drop 32 (C ++ T ++ S)) = T:=by
  have:List.drop 32 (C ++ T ++ S) = T ++ S:=by rw [List.append_assoc,<-hCl,List.drop_left]
  rw [this,<-hTl,List.take_left]
 have t3:List.drop 64 (C ++ T ++ S) = S:=by rw [<-hct,List.drop_left]
 have k1:=c_spec_l07Are (n:=n) hC hT hS
 unfold vF at *
 refine spec_ZigzagDegrees_f.f ?_
 dsimp only [spec_ZigzagDegrees_F,pcal_B,pcalp_B,pcala_B,pcond_B,pgk_B,JN_B,LP_B]
 (refine bni ?_; repeat (refine bnk ?_; (try simp (disch:=first | omega | (simp only [LN]; omega)) only [↓EC,EW,seval,↓reduceIte,↓EBD,EBE])))
 refine pcd_v k1 ?_
 (refine bni ?_; repeat (refine bnk ?_; (try simp (disch:=first | omega | (simp only [LN]; omega)) only [↓EC,EW,seval,↓reduceIte,↓EBD,EBE,hf])))
 try rfl
def euF (n:Int) (C T S:List Int):Int:=(obs [T,S] n.toNat).length - (obs [C,S] n.toNat).length + (obs [T,C] n.toNat).length
noncomputable def euR (n:Int) (C T S:List Int):Int × Int:=if flB n C T S = true then (euF n C T S,0) else (0,1)
theorem euR_no {n:Int} {C T S:List Int} (h:flB n C T S = false):euR n C T S = (0,1):=by simp [euR,h]
theorem euR_yes {n:Int} {C T S:List Int} (h:flB n C T S = true):euR n C T S = (euF n C T S,0):=by simp [euR,h]
theorem c_impl_EulerOfFlags {n:Int} {C T S:List Int} (hC:fo32 C) (hT:fo32 T) (hS:fo32 S):PSpec Tryz.prog 27 [vF n C T S] fun v=>v = .tup [.int .i64 (euR n C T S).1,.int .i64 (euR n C T S).2]:=by
 have hCl:=hC.1
 have hTl:=hT.1
 have hSl:=hS.1
 have hct:(C ++ T).length = 64:=by simp [hCl,hTl]
 have hcts:(C ++ T ++ S).length = 96:=by simp [hCl,hTl,hSl]
 have t1:List.take 32 (C ++ T ++ S) = C:=by rw [List.append_assoc,<-hCl,List.take_left]
 have t2:List.take 32 (List.drop 32 (C ++ T ++ S)) = T:=by
  have:List.drop 32 (C ++ T ++ S) = T ++ S:=by rw [List.append_assoc,<-hCl,List.drop_left]
  rw [this,<-hTl,List.take_left]
 have t3:List.drop 64 (C ++ T ++ S) = S:=by rw [<-hct,List.drop_left]
 have k1:=c_impl_AreFlags (n:=n) hC hT hS
 refine impl_EulerOfFlags_f.f ?_
 unfold vF at *
 dsimp only [impl_EulerOfFlags_F,pcal_B,pcalp_B,pcala_B,pcond_B,pgk_B,JN_B,LP_B]
 (refine bni ?_; repeat (refine bnk ?_; (try simp (disch:=first | omega | (simp only [LN]; omega)) only [↓EC,EW,seval,↓reduceIte,↓EBD,EBE])))
 refine pcd_v k1 ?_
 cases hf:flB n C T S with
 | false =>
  (refine bni ?_; repeat (refine bnk ?_; (try simp (disch:=first | omega | (simp only [LN]; omega)) only [↓EC,EW,seval,↓reduceIte,↓EBD,EBE])))
  rw [euR_no hf]
 | true =>
  have F:=(flB_iff.1 hf).fo hC hT hS
  rw [euR_yes hf]
  unfold euF
  have q1:=c_impl_orbits (L:=[T,S]) (N:=n.toNat) (n:=n) F.h32.2.2.1 F.h32.1 (ivs2 F.iT F.iS) (by simp [hTl,hSl]) (by simp)
  have q2:=c_impl_orbits (L:=[C,S]) (N:=n.toNat) (n:=n) F.h32.2.2.1 F.h32.1 (ivs2 F.iC F.iS) (by simp [hCl,hSl]) (by simp)
  have q3:=c_impl_orbits (L:=[T,C]) (N:=n.toNat) (n:=n) F.h32.2.2.1 F.h32.1 (ivs2 F.iT F.iC) (by simp [hTl,hCl]) (by simp)
  have m1:=obs_len16 F.h32.1 (ivs2 F.iT F.iS) (l:=T) (by simp)
  have m2:=obs_len16 F.h32.1 (ivs2 F.iC F.iS) (l:=C) (by simp)
  have m3:=obs_len16 F.h32.1 (ivs2 F.iT F.iC) (l:=T) (by simp)
  have e2:∀ {a c:List Int},([a,c]:List (List Int)).length = 2:=rfl
  rw [obs_set2,e2] at q1 q2 q3
  generalize obs [T,S] n.toNat = o1 at *
  generalize obs [C,S] n.toNat = o2 at *
  generalize obs [T,C] n.toNat = o3 at *
  (refine bni ?_; repeat (refine bnk ?_; (try simp (disch:=first | omega | (simp only [LN]; omega)) only [↓EC,EW,seval,↓reduceIte,↓EBD,EBE,t1,t2,t3])))
  refine pcd_v q1 ?_
  (refine bni ?_; repeat (refine bnk ?_; (try simp (disch:=first | omega | (simp only [LN]; omega)) only [↓EC,EW,seval,↓reduceIte,↓EBD,EBE,t1,t2,t3])))
  refine pcd_v q2 ?_
  (refine bni ?_; repeat (refine bnk ?_; (try simp (disch:=first | omega | (simp only [LN]; omega)) only [↓EC,EW,seval,↓reduceIte,↓EBD,EBE,t1,t2,t3])))
  refine pcd_v q3 ?_
  (refine bni ?_; repeat (refine bnk ?_; (try simp (disch:=first | omega | (simp only [LN]; omega)) only [↓EC,EW,seval,↓reduceIte,↓EBD,EBE])))
  try rfl
theorem c_spec_EulerOfFlags {n:Int} {C T S:List Int} (hC:fo32 C) (hT:fo32 T) (hS:fo32 S):PSpec Tryz.prog 45 [vF n C T S] fun v=>v = .tup [.int .i64 (euR n C T S).1,.int .i64 (euR n C T S).2]:=by
 have hCl:=hC.1
 have hTl:=hT.1
 have hSl:=hS.1
 have hct:(C ++ T).length = 64:=by simp [hCl,hTl]
 have hcts:(C ++ T ++ S).length = 96:=by simp [hCl,hTl,hSl]
 have t1:List.take 32 (C ++ T ++ S) = C:=by rw [List.append_assoc,<-hCl,List.take_left]
 have t2:List.take 32 (List.drop 32 (C ++ T ++ S)) = T:=by
  have:List.drop 32 (C ++ T ++ S) = T ++ S:=by rw [List.append_assoc,<-hCl,List.drop_left]
  rw [this,<-hTl,List.take_left]
 have t3:List.drop 64 (C ++ T ++ S) = S:=by rw [<-hct,List.drop_left]
 have k1:=c_spec_l07Are (n:=n) hC hT hS
 refine spec_EulerOfFlags_f.f ?_
 unfold vF at *
 dsimp only [spec_EulerOfFlags_F,pcal_B,pcalp_B,pcala_B,pcond_B,pgk_B,JN_B,LP_B]
 (refine bni ?_; repeat (refine bnk ?_; (try simp (disch:=first | omega | (simp only [LN]; omega)) only [↓EC,EW,seval,↓reduceIte,↓EBD,EBE])))
 refine pcd_v k1 ?_
 cases hf:flB n C T S with
 | false =>
  (refine bni ?_; repeat (refine bnk ?_; (try simp (disch:=first | omega | (simp only [LN]; omega)) only [↓EC,EW,seval,↓reduceIte,↓EBD,EBE])))
  rw [euR_no hf]
 | true =>
  have F:=(flB_iff.1 hf).fo hC hT hS
  rw [euR_yes hf]
  unfold euF
  have q1:=c_spec_l07Degrees F F.s F.iS
  have q3:=c_spec_l07Degrees F F.c F.iC
  have m1:=obs_len16 F.h32.1 (ivs2 F.iT F.iS) (l:=T) (by simp)
  have m3:=obs_len16 F.h32.1 (ivs2 F.iT F.iC) (l:=T) (by simp)
  have d1:=deg_len (n:=n) (T:=T) (X:=S)
  have d3:=deg_len (n:=n) (T:=T) (X:=C)
  have f4:=F.four
  have hn:=F.F.hn
  have h4:=F.F.h4
  have e4:n.tdiv 4 = n / 4:=Int.tdiv_eq_ediv_of_nonneg (by omega)
  unfold vF at q1 q3
  (refine bni ?_; repeat (refine bnk ?_; (try simp (disch:=first | omega | (simp only [LN]; omega)) only [↓EC,EW,seval,↓reduceIte,↓EBD,EBE,t1,t2,t3])))
  refine pcd_v q1 ?_
  (refine bni ?_; repeat (refine bnk ?_; (try simp (disch:=first | omega | (simp only [LN]; omega)) only [↓EC,EW,seval,↓reduceIte,↓EBD,EBE,t1,t2,t3])))
  refine pcd_v q3 ?_
  (refine bni ?_; repeat (refine bnk ?_; (try simp (disch:=first | omega | (simp only [LN]; omega)) only [↓EC,EW,seval,↓reduceIte,↓EBD,EBE])))
  rw [e4]
  congr 3
  omega
end
section
set_option maxHeartbeats 4000000
def nbC (c:List Int) (s:Nat):Int:=smE s fun x=>if gi c x = 1 then 1 else 0
def nbT (c:List Int):Nat -> List Int
 | 0=>List.replicate 32 0
 | s + 1=>if gi c s = 1 then (nbT c s).set s (nbC c s) else nbT c s
section
variable {c:List Int} {N:Nat}
theorem nbT_len:∀ s,(nbT c s).length = 32
 | 0=>by simp [nbT]
 | s + 1=>by simp only [nbT]; split <;> simp [nbT_len s]
theorem nbC_succ {s:Nat}:nbC c (s + 1) = nbC c s + if gi c s = 1 then 1 else 0:=rfl
theorem nbC_nn:∀ s,0 <= nbC c s
 | 0=>Int.le_refl _
 | s + 1=>by have:=nbC_nn s; rw [nbC_succ]; split <;> omega
theorem nbC_mono {s t:Nat} (h:s <= t):nbC c s <= nbC c t:=by
 induction t with
 | zero=>rw [Nat.le_zero.1 h]; exact Int.le_refl _
 | succ t ih =>
  by_cases e:s = t + 1
  ·subst e; exact Int.le_refl _
  ·have:=ih (by omega)
   rw [nbC_succ]; split <;> omega
theorem nbC_lt {s t:Nat} (h:s < t) (h1:gi c s = 1):nbC c s < nbC c t:=by
 have:=nbC_mono (c:=c) (show s + 1 <= t from h)
 rw [nbC_succ,if_pos h1] at this
 omega
theorem nbC_inj {s t:Nat} (hs:gi c s = 1) (ht:gi c t = 1) (e:nbC c s = nbC c t):s = t:=by
 rcases Nat.lt_trichotomy s t with q | q | q
 ·have:=nbC_lt q hs; omega
 ·exact q
 ·have:=nbC_lt q ht; omega
theorem nbC_onto {j:Nat}:∀ s,(j:Int) < nbC c s -> ∃ x,x < s /\ gi c x = 1 /\ nbC c x = j
 | 0,h=>by have:nbC c 0 = 0:=rfl; omega
 | s + 1,h=>by
  by_cases q:(j:Int) < nbC c s
  ·obtain ⟨x,hx,h1,h2⟩:=nbC_onto s q
   exact ⟨x,by omega,h1,h2⟩
  ·rw [nbC_succ] at h
   split at h
   ·rename_i h1
    exact ⟨s,by omega,h1,by omega⟩
   ·omega
theorem nbT_at {y:Nat}:∀ s,s <= 32 -> gi (nbT c s) y = if y < s /\ gi c y = 1 then nbC c y else 0
 | 0,_=>by simp only [nbT]; rw [gi_rep]; simp
 | s + 1,hs=>by
  simp only [nbT]
  split
  ·rename_i h1
   rw [gi_set,nbT_len,nbT_at s (by omega)]
   by_cases e:s = y
   ·subst e; rw [if_pos ⟨rfl,by omega⟩,if_pos ⟨by omega,h1⟩]
   ·rw [if_neg fun q=>e q.1]
    by_cases q:y < s /\ gi c y = 1
    ·rw [if_pos q,if_pos ⟨by omega,q.2⟩]
    ·rw [if_neg q,if_neg fun z=>q ⟨by omega,z.2⟩]
  ·rename_i h1
   rw [nbT_at s (by omega)]
   by_cases q:y < s /\ gi c y = 1
   ·rw [if_pos q,if_pos ⟨by omega,q.2⟩]
   ·rw [if_neg q,if_neg fun z=>q ⟨by
     by_cases e:y = s
     ·subst e; exact absurd z.2 h1
     ·omega,z.2⟩]
theorem Clr.half {L:List (List Int)} {l:List Int} (h:Clr L N c) (hl:l ∈ L) (iv:Iv l N):2 * nbC c N = N:=by
 have e1:smE N (fun x=>if gi c (fp l x) = 1 then (1:Int) else 0) = smE N fun x=>if gi c x = 1 then 1 else 0:=smE_iv iv (g:=fun x=>if gi c x = 1 then (1:Int) else 0)
 have e2:smE N (fun x=>(if gi c x = 1 then (1:Int) else 0) + if gi c (fp l x) = 1 then (1:Int) else 0) = smE N fun _=>1:=smE_congr _ fun x hx=>by
  have h1:=h.vs x hx
  have h2:=h.ne x hx l hl
  rcases h1 with h1 | h1
  ·rw [if_pos h1,if_neg (by omega)]; rfl
  ·rw [if_neg (by omega),if_pos (by omega)]; rfl
 rw [smE_add,e1,smE_const] at e2
 unfold nbC
 omega
end
def mpL (c X S ν:List Int):Nat -> List Int
 | 0=>List.replicate 16 0
 | s + 1=>if gi c s = 1 then (mpL c X S ν s).set (gi ν s).toNat (gi ν (gi X (gi S s).toNat).toNat) else mpL c X S ν s
theorem mpL_len {c X S ν:List Int}:∀ s,(mpL c X S ν s).length = 16
 | 0=>by simp [mpL]
 | s + 1=>by simp only [mpL]; split <;> simp [mpL_len s]
def mpB (c X S:List Int) (N:Nat):List Int:=mpL c X S (nbT c N) N
def mpR0 (n:Int) (C T S:List Int):DCode:=match clsR [C,T,S] with
 | some s=>((nbC s.2 n.toNat,mpB s.2 T S n.toNat,mpB s.2 C S n.toNat),0)
 | none=>((0,z16,z16),5)
noncomputable def mpR (n:Int) (C T S:List Int):DCode:=if flB n C T S = true then mpR0 n C T S else ((0,z16,z16),1)
noncomputable def orR (n:Int) (C T S:List Int):Bool × Int:=if flB n C T S = true then ((clsR [C,T,S]).isSome,0) else (false,1)
section
variable {n:Int} {C T S:List Int}
theorem Fls.col (F:Fls n C T S) {s:Cst} (e:clsR [C,T,S] = some s):Clr [C,T,S] n.toNat s.2:=clsR_col F.h32.1 (by have:=F.h32; omega) (ivs3 F.iC F.iT F.iS) F.all e
theorem Fls.half (F:Fls n C T S) {c:List Int} (h:Clr [C,T,S] n.toNat c):2 * nbC c n.toNat = n:=by
 have:=h.half (l:=S) (by simp) F.iS
 have:=F.h32
 omega
theorem Fls.nb16 (F:Fls n C T S) {c:List Int} (h:Clr [C,T,S] n.toNat c) {s y:Nat} (hs:s <= n.toNat):0 <= gi (nbT c s) y /\ gi (nbT c s) y < 16:=by
 have h32:=F.h32
 rw [nbT_at s (by omega)]
 split
 ·rename_i q
  have:=nbC_nn (c:=c) y
  have:=nbC_lt (c:=c) (show y < n.toNat by omega) q.2
  have:=F.half h
  omega
 ·omega
end
theorem c_impl_IsOrientable {n:Int} {C T S:List Int} (hC:fo32 C) (hT:fo32 T) (hS:fo32 S):PSpec Tryz.prog 26 [vF n C T S] fun v=>v = .tup [.bool (orR n C T S).1,.int .i64 (orR n C T S).2]:=by
 have hCl:=hC.1
 have hTl:=hT.1
 have hSl:=hS.1
 have hcts:(C ++ T ++ S).length = 96:=by simp [hCl,hTl,hSl]
 have k1:=c_impl_AreFlags (n:=n) hC hT hS
 refine impl_IsOrientable_f.f ?_
 unfold vF at *
 dsimp only [impl_IsOrientable_F,pcal_B,pcalp_B,pcala_B,pcond_B,pgk_B,JN_B,LP_B]
 (refine bni ?_; repeat (refine bnk ?_; (try simp (disch:=first | omega | (simp only [LN]; omega)) only [↓EC,EW,seval,↓reduceIte,↓EBD,EBE])))
 refine pcd_v k1 ?_
 cases hf:flB n C T S with
 | false =>
  (refine bni ?_; repeat (refine bnk ?_; (try simp (disch:=first | omega | (simp only [LN]; omega)) only [↓EC,EW,seval,↓reduceIte,↓EBD,EBE])))
  simp [orR,hf]
 | true =>
  have F:=(flB_iff.1 hf).fo hC hT hS
  have k2:=c_impl_classesOf F
  unfold vF at k2
  (refine bni ?_; repeat (refine bnk ?_; (try simp (disch:=first | omega | (simp only [LN]; omega)) only [↓EC,EW,seval,↓reduceIte,↓EBD,EBE])))
  refine pcd_r k2 ?_
  rintro _ ⟨c,b,rfl,h1,h2,h3⟩
  (refine bni ?_; repeat (refine bnk ?_; (try simp (disch:=first | omega | (simp only [LN]; omega)) only [↓EC,EW,seval,↓reduceIte,↓EBD,EBE])))
  simp [orR,hf,h2]
theorem c_impl_MapOfFlags {n:Int} {C T S:List Int} (hC:fo32 C) (hT:fo32 T) (hS:fo32 S):PSpec Tryz.prog 29 [vF n C T S] fun v=>v = vDC (mpR n C T S):=by
 have hCl:=hC.1
 have hTl:=hT.1
 have hSl:=hS.1
 have hct:(C ++ T).length = 64:=by simp [hCl,hTl]
 have hcts:(C ++ T ++ S).length = 96:=by simp [hCl,hTl,hSl]
 have k1:=c_impl_AreFlags (n:=n) hC hT hS
 refine impl_MapOfFlags_f.f ?_
 unfold vF at *
 dsimp only [impl_MapOfFlags_F,pcal_B,pcalp_B,pcala_B,pcond_B,pgk_B,JN_B,LP_B]
 (refine bni ?_; repeat (refine bnk ?_; (try simp (disch:=first | omega | (simp only [LN]; omega)) only [↓EC,EW,seval,↓reduceIte,↓EBD,EBE])))
 refine pcd_v k1 ?_
 cases hf:flB n C T S with
 | false =>
  (refine bni ?_; repeat (refine bnk ?_; (try simp (disch:=first | omega | (simp only [LN]; omega)) only [↓EC,EW,seval,↓reduceIte,↓EBD,EBE])))
  simp only [mpR,hf]; rfl
 | true =>
  have F:=(flB_iff.1 hf).fo hC hT hS
  have k2:=c_impl_classesOf F
  unfold vF at k2
  (refine bni ?_; repeat (refine bnk ?_; (try simp (disch:=first | omega | (simp only [LN]; omega)) only [↓EC,EW,seval,↓reduceIte,↓EBD,EBE])))
  refine pcd_r k2 ?_
  rintro _ ⟨c,b,rfl,h1,h2,h3⟩
  have e0:mpR n C T S = mpR0 n C T S:=by simp only [mpR,hf,if_true]
  rw [e0]
  cases hq:clsR [C,T,S] with
  | none =>
   rw [hq] at h2
   subst h2
   (refine bni ?_; repeat (refine bnk ?_; (try simp (disch:=first | omega | (simp only [LN]; omega)) only [↓EC,EW,seval,↓reduceIte,↓EBD,EBE,Option.isSome_none])))
   simp only [mpR0,hq]; rfl
  | some q =>
   obtain rfl:c = q.2:=h3 q hq
   rw [hq] at h2
   subst h2
   have Cc:=F.col hq
   obtain ⟨h32,h4,hn,_⟩:=F.h32
   have hhalf:=F.half Cc
   have e1:mpR0 n C T S = ((nbC q.2 n.toNat,mpB q.2 T S n.toNat,mpB q.2 C S n.toNat),0):=by simp only [mpR0,hq]
   rw [e1]
   generalize q.2 = c at *
   (refine bni ?_; repeat (refine bnk ?_; (try simp (disch:=first | omega | (simp only [LN]; omega)) only [↓EC,EW,seval,↓reduceIte,↓EBD,EBE,Option.isSome_some])))
   refine LPx_of (σ:=Nat) 100000 [(65,43,1),(66,28,1),(68,41,1),(70,41,1),(71,28,1)] (fun s=>[.int .i64 s])
    (fun s=>[.int .i64 n :: vi .u8 (C ++ T ++ S),.int .i64 0 :: vi .u8 (List.replicate 32 0),vi .u8 c,vi .u8 (nbT c s),.int .i64 (nbC c s) :: vi .u8 (List.replicate 32 0)]) (fun s=>s <= n.toNat) (fun s=>n.toNat - s) 0 (by simp [frameOk,names,lpz,sclp,scv,scvs,nrfs,nrf,FRB]) (Nat.zero_le _) ?_ ?_
   ·(refine bni ?_; repeat (refine bnk ?_; simp (disch:=first | omega | (simp only [LN]; omega)) only [↓EC,EW,seval,↓reduceIte,↓EBD,EBE,ColV_def]))
    rfl
   ·intro s hs
    have nl:=nbT_len (c:=c) s
    have nm:=nbC_mono (c:=c) hs
    have nn:=nbC_nn (c:=c) s
    (refine bni ?_; repeat (refine bnk ?_; simp (disch:=first | omega | (simp only [LN]; omega)) only [↓EC,EW,seval,↓reduceIte,↓EBD,EBE,ColV_def,lheap_def]))
    (refine Split.mkB (fun h=>?_) (fun h=>?_) <;> (try simp only [SD] at h))
    ·refine JNx_un ?_
     have hw:IntKind.u8.wrap (nbC c s) = nbC c s:=by simp [IntKind.wrap,IntKind.signed,IntKind.bits]; omega
     (refine bni ?_; repeat (refine bnk ?_; (try simp (disch:=first | omega | (simp only [LN]; omega)) only [↓EC,EW,seval,↓reduceIte,↓EBD,EBE])))
     (refine Split.mkB (fun h=>?_) (fun h=>?_) <;> (try simp only [SD] at h))
     ·(refine bni ?_; repeat (refine bnk ?_; (try simp (disch:=first | omega | (simp only [LN]; omega)) only [↓EC,EW,seval,↓reduceIte,↓EBD,EBE,hw])))
      refine ⟨s + 1,by simp,?_,by omega,by omega⟩
      simp only [nbT,nbC_succ]
      rw [if_pos h,if_pos h]
     ·(refine bni ?_; repeat (refine bnk ?_; (try simp (disch:=first | omega | (simp only [LN]; omega)) only [↓EC,EW,seval,↓reduceIte,↓EBD,EBE])))
      refine ⟨s + 1,by simp,?_,by omega,by omega⟩
      simp only [nbT,nbC_succ]
      rw [if_neg h,if_neg h,Int.add_zero]
    ·obtain rfl:s = n.toNat:=by omega
     have nb:=fun y=>F.nb16 Cc (y:=y) (Nat.le_refl n.toNat)
     (refine bni ?_; repeat (refine bnk ?_; (try simp (disch:=first | omega | (simp only [LN]; omega)) only [↓EC,EW,seval,↓reduceIte,↓EBD,EBE])))
     generalize hν:nbT c n.toNat = ν at *
     have eB:mpB c T S n.toNat = mpL c T S ν n.toNat:=by unfold mpB; rw [hν]
     have eW:mpB c C S n.toNat = mpL c C S ν n.toNat:=by unfold mpB; rw [hν]
     rw [eB,eW]
     refine LPx_of (σ:=Nat) 200000 [(65,43,1),(66,28,1),(68,41,1),(70,41,1),(71,28,1)] (fun s=>[.int .i64 s])
      (fun s=>[.int .i64 n :: vi .u8 (C ++ T ++ S),.int .i64 0 :: vi .u8 (List.replicate 32 0),vi .u8 c,vi .u8 ν,.int .i64 (nbC c n.toNat) :: vi .u8 (mpL c T S ν s ++ mpL c C S ν s)]) (fun s=>s <= n.toNat) (fun s=>n.toNat - s) 0 (by simp [frameOk,names,lpz,sclp,scv,scvs,nrfs,nrf,FRB]) (Nat.zero_le _) ?_ ?_
     ·(refine bni ?_; repeat (refine bnk ?_; simp (disch:=first | omega | (simp only [LN]; omega)) only [↓EC,EW,seval,↓reduceIte,↓EBD,EBE,ColV_def]))
      rfl
     ·intro s hs
      have m1:=mpL_len (c:=c) (X:=T) (S:=S) (ν:=ν) s
      have m2:=mpL_len (c:=c) (X:=C) (S:=S) (ν:=ν) s
      (refine bni ?_; repeat (refine bnk ?_; simp (disch:=first | omega | (simp only [LN]; omega)) only [↓EC,EW,seval,↓reduceIte,↓EBD,EBE,ColV_def,lheap_def]))
      (refine Split.mkB (fun h=>?_) (fun h=>?_) <;> (try simp only [SD] at h))
      ·refine JNx_un ?_
       have a1:=F.s.2 s (by omega)
       have a2:=F.t.2 (gi S s).toNat (by omega)
       have a3:=F.c.2 (gi S s).toNat (by omega)
       have b1:=nb s
       have b2:=nb (gi T (gi S s).toNat).toNat
       have b3:=nb (gi C (gi S s).toNat).toNat
       (refine bni ?_; repeat (refine bnk ?_; (try simp (disch:=first | omega | (simp only [LN]; omega)) only [↓EC,EW,seval,↓reduceIte,↓EBD,EBE])))
       (refine Split.mkB (fun h=>?_) (fun h=>?_) <;> (try simp only [SD] at h))
       ·(refine bni ?_; repeat (refine bnk ?_; (try simp (disch:=first | omega | (simp only [LN]; omega)) only [↓EC,EW,seval,↓reduceIte,↓EBD,EBE,getD_33,getD_65,hct,hCl,m1])))
        refine ⟨s + 1,by simp,?_,by omega,by omega⟩
        simp only [mpL]
        rw [if_pos h,if_pos h]
       ·(refine bni ?_; repeat (refine bnk ?_; (try simp (disch:=first | omega | (simp only [LN]; omega)) only [↓EC,EW,seval,↓reduceIte,↓EBD,EBE])))
        refine ⟨s + 1,by simp,?_,by omega,by omega⟩
        simp only [mpL]
        rw [if_neg h,if_neg h]
      ·obtain rfl:s = n.toNat:=by omega
       (refine bni ?_; repeat (refine bnk ?_; (try simp (disch:=first | omega | (simp only [LN]; omega)) only [↓EC,EW,seval,↓reduceIte,↓EBD,EBE])))
       rfl
end
section
set_option maxHeartbeats 4000000
theorem c_spec_l07Class {n:Int} {C T S:List Int} (F:Fls n C T S):PSpec Tryz.prog 85 [vF n C T S] fun v=>ClO C T S .i64 v:=by
 have hCl:=F.c.1
 have hTl:=F.t.1
 have hSl:=F.s.1
 have hct:(C ++ T).length = 64:=by simp [hCl,hTl]
 have hcts:(C ++ T ++ S).length = 96:=by simp [hCl,hTl,hSl]
 have t1:List.take 32 (C ++ T ++ S) = C:=by rw [List.append_assoc,<-hCl,List.take_left]
 have t2:List.take 32 (List.drop 32 (C ++ T ++ S)) = T:=by
  have:List.drop 32 (C ++ T ++ S) = T ++ S:=by rw [List.append_assoc,<-hCl,List.drop_left]
  rw [this,<-hTl,List.take_left]
 obtain ⟨h32,h4,hn,_⟩:=F.h32
 have hv:=ivs3 F.iC F.iT F.iS
 have hl32:∀ l ∈ [C,T,S],l.length = 32:=by simp [hCl,hTl,hSl]
 refine spec_l07Class_f.f ?_
 unfold vF
 dsimp only [spec_l07Class_F,pcal_B,pcalp_B,pcala_B,pcond_B,pgk_B,JN_B,LP_B]
 (refine bni ?_; repeat (refine bnk ?_; (try simp (disch:=first | omega | (simp only [LN]; omega)) only [↓EC,EW,seval,↓reduceIte,↓EBD,EBE])))
 refine LPx_of (σ:=Cst × Nat) 100000 [(66,87,1),(68,87,1),(82,41,32)] (fun s=>[.own 2 1 s.1.1.length (vi .i64 s.1.1),.int .i64 s.2])
  (fun s=>[vi .i64 (List.replicate 32 0),vi .i64 s.1.2,vi .u8 (C ++ T ++ S)]) (fun s=>Cx n.toNat s.1 /\ s.2 <= s.1.1.length /\ clRun [C,T,S] (33 - s.2) s.2 s.1 = clsR [C,T,S]) (fun s=>33 - s.2) (cls0,0) (by simp [frameOk,names,lpz,sclp,scv,scvs,nrfs,nrf,FRB]) ⟨Cx.zero (by omega),Nat.zero_le _,rfl⟩ ?_ ?_
 ·(refine bni ?_; repeat (refine bnk ?_; simp (disch:=first | omega | (simp only [LN]; omega)) only [↓EC,EW,seval,↓reduceIte,↓EBD,EBE,ColV_def]))
  rw [t1,t2]
  exact ⟨rfl,rfl⟩
 ·rintro ⟨s,k⟩ ⟨g1,g2,g3⟩
  simp only at g1 g2 g3
  have gl2:=g1.l2
  have gle:=g1.len
  (refine bni ?_; repeat (refine bnk ?_; simp (disch:=first | omega | (simp only [LN]; omega)) only [↓EC,EW,seval,↓reduceIte,↓EBD,EBE,ColV_def,lheap_def]))
  (refine Split.mkB (fun h=>?_) (fun h=>?_) <;> (try simp only [SD] at h))
  ·have hk:k < s.1.length:=by omega
   have hz:=g1.lt (gi s.1 k) (by rw [gi_of hk]; exact List.getElem_mem hk)
   have hci:Ci [C,T,S] n.toNat k (gi s.1 k) 0 s:=⟨Nat.zero_le _,g1,hk,rfl,by
    rw [show 33 - k = 32 - k + 1 by omega] at g3
    simp only [clRun,if_pos hk] at g3
    exact g3⟩
   (refine bni ?_; repeat (refine bnk ?_; (try simp (disch:=first | omega | (simp only [LN]; omega)) only [↓EC,EW,seval,↓reduceIte,↓EBD,EBE])))
   generalize hx:gi s.1 k = x at *
   refine LPx_of (σ:=Cst × Nat) 200000 [(66,87,1),(68,87,1),(82,41,32)] (fun s=>[.own 2 1 s.1.1.length (vi .i64 s.1.1),.int .i64 s.2])
    (fun s=>[vi .i64 (List.replicate 32 0),vi .i64 s.1.2,vi .u8 (C ++ T ++ S)]) (fun t=>Ci [C,T,S] n.toNat k x t.2 t.1) (fun t=>3 - t.2) (s,0) (by simp [frameOk,names,lpz,sclp,scv,scvs,nrfs,nrf,FRB]) hci ?_ ?_
   ·(refine bni ?_; repeat (refine bnk ?_; simp (disch:=first | omega | (simp only [LN]; omega)) only [↓EC,EW,seval,↓reduceIte,↓EBD,EBE,ColV_def]))
    try rfl
   ·rintro ⟨t,j⟩ hO
    simp only at hO
    have e1:=hO.cx.l2
    have e2:=hO.cx.len
    have hjl:=hO.jl
    have hkl:=hO.kl
    have hxe:=hO.xe
    have hcx:=hO.cx.cl h32 hO.mem
    (refine bni ?_; repeat (refine bnk ?_; simp (disch:=first | omega | (simp only [LN]; omega)) only [↓EC,EW,seval,↓reduceIte,↓EBD,EBE,ColV_def,lheap_def]))
    (refine Split.mkB (fun h=>?_) (fun h=>?_) <;> (try simp only [SD] at h))
    ·refine JNx_un ?_
     have hj:j < 3:=by omega
     have hlt:=row_lt hv (L:=[C,T,S]) hj hz
     have hstep:=fun t' e=>hO.step (t':=t') h32 hv hj e
     have hnone:=hO.none hj
     have hrg:=flat_gi hl32 (show j < [C,T,S].length from hj) (i:=x.toNat) (by omega)
     rw [obs_set3] at hrg
     generalize hyy:gi (gl [C,T,S] j) x.toNat = y at *
     (refine bni ?_; repeat (refine bnk ?_; (try simp (disch:=first | omega | (simp only [LN]; omega)) only [↓EC,EW,seval,↓reduceIte,↓EBD,EBE,hxe,hrg])))
     (refine Split.mkB (fun h=>?_) (fun h=>?_) <;> (try simp only [SD] at h))
     ·(refine bni ?_; repeat (refine bnk ?_; (try simp (disch:=first | omega | (simp only [LN]; omega)) only [↓EC,EW,seval,↓reduceIte,↓EBD,EBE,hxe,hrg])))
      exact ⟨_,_,rfl,e1,by rw [hnone (cst_bad (by omega) (by omega))]; rfl,fun s hs=>by rw [hnone (cst_bad (by omega) (by omega))] at hs; cases hs⟩
     ·(refine bni ?_; repeat (refine bnk ?_; (try simp (disch:=first | omega | (simp only [LN]; omega)) only [↓EC,EW,seval,↓reduceIte,↓EBD,EBE,hxe,hrg])))
      (refine Split.mkB (fun h=>?_) (fun h=>?_) <;> (try simp only [SD] at h))
      ·(refine bni ?_; repeat (refine bnk ?_; (try simp (disch:=first | omega | (simp only [LN]; omega)) only [↓EC,EW,seval,↓reduceIte,↓EBD,EBE,hxe,hrg])))
       exact ⟨(_,j + 1),by simp,rfl,hstep _ (cst_new (by omega)),by simp only; omega⟩
      ·(refine bni ?_; repeat (refine bnk ?_; (try simp (disch:=first | omega | (simp only [LN]; omega)) only [↓EC,EW,seval,↓reduceIte,↓EBD,EBE,hxe,hrg])))
       exact ⟨(t,j + 1),by simp,rfl,hstep _ (cst_old (by omega) (by omega)),by simp only; omega⟩
    ·(refine bni ?_; repeat (refine bnk ?_; (try simp (disch:=first | omega | (simp only [LN]; omega)) only [↓EC,EW,seval,↓reduceIte,↓EBD,EBE])))
     have ej:j = 3:=by simp at hjl; omega
     subst ej
     have he:=hO.e
     refine ⟨(t,k + 1),by simp,rfl,⟨hO.cx,by have:=hO.kl; simp only; omega,?_⟩,by simp only; omega⟩
     simp only
     rw [show 33 - (k + 1) = 32 - k by omega]
     exact he
  ·(refine bni ?_; repeat (refine bnk ?_; (try simp (disch:=first | omega | (simp only [LN]; omega)) only [↓EC,EW,seval,↓reduceIte,↓EBD,EBE])))
   have es:clsR [C,T,S] = some s:=by
    rw [<-g3,show 33 - k = 32 - k + 1 by omega]
    simp only [clRun]
    rw [if_neg (by omega)]
   exact ⟨_,_,rfl,gl2,by rw [es]; rfl,fun q hq=>by rw [es] at hq; cases hq; rfl⟩
theorem c_spec_IsOrientable {n:Int} {C T S:List Int} (hC:fo32 C) (hT:fo32 T) (hS:fo32 S):PSpec Tryz.prog 42 [vF n C T S] fun v=>v = .tup [.bool (orR n C T S).1,.int .i64 (orR n C T S).2]:=by
 have hCl:=hC.1
 have hTl:=hT.1
 have hSl:=hS.1
 have hcts:(C ++ T ++ S).length = 96:=by simp [hCl,hTl,hSl]
 have k1:=c_spec_l07Are (n:=n) hC hT hS
 refine spec_IsOrientable_f.f ?_
 unfold vF at *
 dsimp only [spec_IsOrientable_F,pcal_B,pcalp_B,pcala_B,pcond_B,pgk_B,JN_B,LP_B]
 (refine bni ?_; repeat (refine bnk ?_; (try simp (disch:=first | omega | (simp only [LN]; omega)) only [↓EC,EW,seval,↓reduceIte,↓EBD,EBE])))
 refine pcd_v k1 ?_
 cases hf:flB n C T S with
 | false =>
  (refine bni ?_; repeat (refine bnk ?_; (try simp (disch:=first | omega | (simp only [LN]; omega)) only [↓EC,EW,seval,↓reduceIte,↓EBD,EBE])))
  simp [orR,hf]
 | true =>
  have F:=(flB_iff.1 hf).fo hC hT hS
  have k2:=c_spec_l07Class F
  unfold vF at k2
  (refine bni ?_; repeat (refine bnk ?_; (try simp (disch:=first | omega | (simp only [LN]; omega)) only [↓EC,EW,seval,↓reduceIte,↓EBD,EBE])))
  refine pcd_r k2 ?_
  rintro _ ⟨c,b,rfl,h1,h2,h3⟩
  (refine bni ?_; repeat (refine bnk ?_; (try simp (disch:=first | omega | (simp only [LN]; omega)) only [↓EC,EW,seval,↓reduceIte,↓EBD,EBE])))
  simp [orR,hf,h2]
theorem c_spec_MapOfFlags {n:Int} {C T S:List Int} (hC:fo32 C) (hT:fo32 T) (hS:fo32 S):PSpec Tryz.prog 41 [vF n C T S] fun v=>v = vDC (mpR n C T S):=by
 have hCl:=hC.1
 have hTl:=hT.1
 have hSl:=hS.1
 have hct:(C ++ T).length = 64:=by simp [hCl,hTl]
 have hcts:(C ++ T ++ S).length = 96:=by simp [hCl,hTl,hSl]
 have k1:=c_spec_l07Are (n:=n) hC hT hS
 refine spec_MapOfFlags_f.f ?_
 unfold vF at *
 dsimp only [spec_MapOfFlags_F,pcal_B,pcalp_B,pcala_B,pcond_B,pgk_B,JN_B,LP_B]
 (refine bni ?_; repeat (refine bnk ?_; (try simp (disch:=first | omega | (simp only [LN]; omega)) only [↓EC,EW,seval,↓reduceIte,↓EBD,EBE])))
 refine pcd_v k1 ?_
 cases hf:flB n C T S with
 | false =>
  (refine bni ?_; repeat (refine bnk ?_; (try simp (disch:=first | omega | (simp only [LN]; omega)) only [↓EC,EW,seval,↓reduceIte,↓EBD,EBE])))
  simp only [mpR,hf]; rfl
 | true =>
  have F:=(flB_iff.1 hf).fo hC hT hS
  have k2:=c_spec_l07Class F
  unfold vF at k2
  (refine bni ?_; repeat (refine bnk ?_; (try simp (disch:=first | omega | (simp only [LN]; omega)) only [↓EC,EW,seval,↓reduceIte,↓EBD,EBE])))
  refine pcd_r k2 ?_
  rintro _ ⟨c,b,rfl,h1,h2,h3⟩
  have e0:mpR n C T S = mpR0 n C T S:=by simp only [mpR,hf,if_true]
  rw [e0]
  cases hq:clsR [C,T,S] with
  | none =>
   rw [hq] at h2
   subst h2
   (refine bni ?_; repeat (refine bnk ?_; (try simp (disch:=first | omega | (simp only [LN]; omega)) only [↓EC,EW,seval,↓reduceIte,↓EBD,EBE,Option.isSome_none])))
   simp only [mpR0,hq]; rfl
  | some q =>
   obtain rfl:c = q.2:=h3 q hq
   rw [hq] at h2
   subst h2
   have Cc:=F.col hq
   obtain ⟨h32,h4,hn,_⟩:=F.h32
   have hhalf:=F.half Cc
   have e1:mpR0 n C T S = ((nbC q.2 n.toNat,mpB q.2 T S n.toNat,mpB q.2 C S n.toNat),0):=by simp only [mpR0,hq]
   rw [e1]
   generalize q.2 = c at *
   (refine bni ?_; repeat (refine bnk ?_; (try simp (disch:=first | omega | (simp only [LN]; omega)) only [↓EC,EW,seval,↓reduceIte,↓EBD,EBE,Option.isSome_some])))
   refine LPx_of (σ:=Nat) 100000 [(65,43,1),(66,28,1),(68,87,1),(70,41,1)] (fun s=>[.int .u8 (nbC c s),.int .i64 s])
    (fun s=>[.int .i64 n :: vi .u8 (C ++ T ++ S),.int .i64 0 :: vi .u8 (List.replicate 32 0),vi .i64 c,vi .u8 (nbT c s)]) (fun s=>s <= n.toNat) (fun s=>n.toNat - s) 0 (by simp [frameOk,names,lpz,sclp,scv,scvs,nrfs,nrf,FRB]) (Nat.zero_le _) ?_ ?_
   ·(refine bni ?_; repeat (refine bnk ?_; simp (disch:=first | omega | (simp only [LN]; omega)) only [↓EC,EW,seval,↓reduceIte,↓EBD,EBE,ColV_def]))
    exact ⟨rfl,rfl⟩
   ·intro s hs
    have nl:=nbT_len (c:=c) s
    have nm:=nbC_mono (c:=c) hs
    have nn:=nbC_nn (c:=c) s
    (refine bni ?_; repeat (refine bnk ?_; simp (disch:=first | omega | (simp only [LN]; omega)) only [↓EC,EW,seval,↓reduceIte,↓EBD,EBE,ColV_def,lheap_def]))
    (refine Split.mkB (fun h=>?_) (fun h=>?_) <;> (try simp only [SD] at h))
    ·refine JNx_un ?_
     have hw:IntKind.u8.wrap (nbC c s + 1) = nbC c s + 1:=by simp [IntKind.wrap,IntKind.signed,IntKind.bits]; omega
     (refine bni ?_; repeat (refine bnk ?_; (try simp (disch:=first | omega | (simp only [LN]; omega)) only [↓EC,EW,seval,↓reduceIte,↓EBD,EBE])))
     (refine Split.mkB (fun h=>?_) (fun h=>?_) <;> (try simp only [SD] at h))
     ·(refine bni ?_; repeat (refine bnk ?_; (try simp (disch:=first | omega | (simp only [LN]; omega)) only [↓EC,EW,seval,↓reduceIte,↓EBD,EBE,hw])))
      refine ⟨s + 1,?_,?_,by omega,by omega⟩
      ·simp only [nbC_succ]; rw [if_pos h]; simp
      ·simp only [nbT]; rw [if_pos h]
     ·(refine bni ?_; repeat (refine bnk ?_; (try simp (disch:=first | omega | (simp only [LN]; omega)) only [↓EC,EW,seval,↓reduceIte,↓EBD,EBE])))
      refine ⟨s + 1,?_,?_,by omega,by omega⟩
      ·simp only [nbC_succ]; rw [if_neg h]; simp
      ·simp only [nbT]; rw [if_neg h]
    ·obtain rfl:s = n.toNat:=by omega
     have nb:=fun y=>F.nb16 Cc (y:=y) (Nat.le_refl n.toNat)
     (refine bni ?_; repeat (refine bnk ?_; (try simp (disch:=first | omega | (simp only [LN]; omega)) only [↓EC,EW,seval,↓reduceIte,↓EBD,EBE])))
     generalize hν:nbT c n.toNat = ν at *
     have eB:mpB c T S n.toNat = mpL c T S ν n.toNat:=by unfold mpB; rw [hν]
     have eW:mpB c C S n.toNat = mpL c C S ν n.toNat:=by unfold mpB; rw [hν]
     rw [eB,eW]
     refine LPx_of (σ:=Nat) 200000 [(65,43,1),(66,28,1),(68,87,1),(70,41,1),(73,28,1)] (fun s=>[.int .i64 s])
      (fun s=>[.int .i64 n :: vi .u8 (C ++ T ++ S),.int .i64 0 :: vi .u8 (List.replicate 32 0),vi .i64 c,vi .u8 ν,.int .i64 (nbC c n.toNat) :: vi .u8 (mpL c T S ν s ++ mpL c C S ν s)]) (fun s=>s <= n.toNat) (fun s=>n.toNat - s) 0 (by simp [frameOk,names,lpz,sclp,scv,scvs,nrfs,nrf,FRB]) (Nat.zero_le _) ?_ ?_
     ·(refine bni ?_; repeat (refine bnk ?_; simp (disch:=first | omega | (simp only [LN]; omega)) only [↓EC,EW,seval,↓reduceIte,↓EBD,EBE,ColV_def]))
      rfl
     ·intro s hs
      have m1:=mpL_len (c:=c) (X:=T) (S:=S) (ν:=ν) s
      have m2:=mpL_len (c:=c) (X:=C) (S:=S) (ν:=ν) s
      (refine bni ?_; repeat (refine bnk ?_; simp (disch:=first | omega | (simp only [LN]; omega)) only [↓EC,EW,seval,↓reduceIte,↓EBD,EBE,ColV_def,lheap_def]))
      (refine Split.mkB (fun h=>?_) (fun h=>?_) <;> (try simp only [SD] at h))
      ·refine JNx_un ?_
       have a1:=F.s.2 s (by omega)
       have a2:=F.t.2 (gi S s).toNat (by omega)
       have a3:=F.c.2 (gi S s).toNat (by omega)
       have b1:=nb s
       have b2:=nb (gi T (gi S s).toNat).toNat
       have b3:=nb (gi C (gi S s).toNat).toNat
       (refine bni ?_; repeat (refine bnk ?_; (try simp (disch:=first | omega | (simp only [LN]; omega)) only [↓EC,EW,seval,↓reduceIte,↓EBD,EBE])))
       (refine Split.mkB (fun h=>?_) (fun h=>?_) <;> (try simp only [SD] at h))
       ·(refine bni ?_; repeat (refine bnk ?_; (try simp (disch:=first | omega | (simp only [LN]; omega)) only [↓EC,EW,seval,↓reduceIte,↓EBD,EBE,getD_33,getD_65,hct,hCl,m1])))
        refine ⟨s + 1,by simp,?_,by omega,by omega⟩
        simp only [mpL]
        rw [if_pos h,if_pos h]
       ·(refine bni ?_; repeat (refine bnk ?_; (try simp (disch:=first | omega | (simp only [LN]; omega)) only [↓EC,EW,seval,↓reduceIte,↓EBD,EBE])))
        refine ⟨s + 1,by simp,?_,by omega,by omega⟩
        simp only [mpL]
        rw [if_neg h,if_neg h]
      ·obtain rfl:s = n.toNat:=by omega
       (refine bni ?_; repeat (refine bnk ?_; (try simp (disch:=first | omega | (simp only [LN]; omega)) only [↓EC,EW,seval,↓reduceIte,↓EBD,EBE])))
       rfl
end
section
set_option maxHeartbeats 4000000
theorem suR_lo {n:Int} {b w:List Int} (hb:okP b) (hw:okP w):∃ m p q c,vDC (suR n b w) = .tup [vD m p q,.int .i64 c] /\ lo16 p /\ lo16 q /\ 0 <= m /\ m <= 16:=by
 have z:lo16 z16:=lo16_zero
 cases hd:isDB n b w with
 | false=>exact ⟨0,z16,z16,1,by simp [suR,hd,vDC],z,z,by omega,by omega⟩
 | true =>
  have D:=(isDB_iff.1 hd).dz hb hw
  have hn:=D.B.hn
  by_cases h8:2 * n <= 16
  ·have S:Su n b w:=⟨D,by omega⟩
   exact ⟨2 * n,suB b w n,suW n,0,by simp [suR,hd,vDC,h8],S.B.1.lo,S.W.1.lo,by omega,by omega⟩
  ·exact ⟨0,z16,z16,3,by simp [suR,hd,vDC,h8],z,z,by omega,by omega⟩
theorem fl32_set {l:List Int} {i:Nat} {a:Int} (h:fl32 l) (ha:0 <= a /\ a < 32):fl32 (l.set i a):=⟨by simp [h.1],fun j hj=>by
 rw [gi_set]; split
 ·exact ha
 ·exact h.2 j hj⟩
theorem fo32_set {l:List Int} {i:Nat} {a:Int} (h:fo32 l) (ha:0 <= a /\ a <= 255):fo32 (l.set i a):=⟨by simp [h.1],fun j hj=>by
 rw [gi_set]; split
 ·exact ha
 ·exact h.2 j hj⟩
theorem fl32_zero:fl32 (List.replicate 32 0):=⟨by simp,fun i hi=>by rw [gi_rep]; split <;> omega⟩
theorem fgC_lo {w:List Int} (hw:lo16 w):∀ s,s <= 16 -> fl32 (fgC w s)
 | 0,_=>fl32_zero
 | s + 1,hs=>by
  have:=hw.2 s (by omega)
  exact fl32_set (fl32_set (fgC_lo hw s (by omega)) (by omega)) (by omega)
theorem fgS_lo:∀ s,s <= 16 -> fl32 (fgS s)
 | 0,_=>fl32_zero
 | s + 1,hs=>fl32_set (fl32_set (fgS_lo s (by omega)) (by omega)) (by omega)
theorem fgT_lo {b:List Int} (hb:lo16 b):∀ s,s <= 16 -> fl32 (fgT b s)
 | 0,_=>fl32_zero
 | s + 1,hs=>by
  have:=hb.2 s (by omega)
  exact fl32_set (fl32_set (fgT_lo hb s (by omega)) (by omega)) (by omega)
theorem bo_lo {C S:List Int} {n:Int} (hC:fl32 C) (hS:fl32 S):fl32 (bo C S n):=⟨bo_len,fun i hi=>by
 rw [bo_at hi]
 split
 ·exact hS.2 _ (by have:=hC.2 i hi; omega)
 ·omega⟩
theorem tu_lo {C S:List Int} {n k:Int} (hC:fl32 C) (hS:fl32 S):fl32 (tuC C S n k) /\ fl32 (tuS C S n k):=by
 have hB:=bo_lo (n:=n) hC hS
 unfold tuC tuS
 constructor <;> (repeat' split) <;> assumption
theorem c_spec_l07MapS {x:Value} {l:List Int} {a z:Int} (hs:okS l a):PSpecM Tryz.prog 105 [.ptr 0 0] [(0,96,1)] [srcC x l a z] fun v c =>
  ∃ n p q a' z',v = vD n p q /\ c = [srcC x l a' z'] /\ okS l a' /\ lo16 p /\ lo16 q /\ 0 <= n /\ n <= 16:=by
 refine spec_l07Map_f.m rfl rfl ?_
 unfold srcC
 dsimp only [spec_l07Map_F,pcal_B,pcalp_B,pcala_B,pcond_B,pgk_B,JN_B,LP_B]
 (refine bni ?_; repeat (refine bnk ?_; (try simp (disch:=first | omega | (simp only [LN]; omega)) only [↓EC,EW,seval,↓reduceIte,↓EBD,EBE])))
 refine LPx_of (σ:=Nat × Int × Int) 100000 [(0,96,1),(66,28,1)] (fun s=>[.int .i64 s.1]) (fun s=>[srcC x l s.2.1 s.2.2,.int .i64 0 :: vi .u8 (List.replicate 32 0)])
  (fun s=>okS l s.2.1 /\ s.1 <= 6) (fun s=>6 - s.1) (0,a,z) (by simp [frameOk,names,lpz,sclp,scv,scvs,nrfs,nrf,FRB]) ⟨by assumption,by simp only; omega⟩ ?_ ?_
 ·(refine bni ?_; repeat (refine bnk ?_; simp (disch:=first | omega | (simp only [LN]; omega)) only [↓EC,EW,seval,↓reduceIte,↓EBD,EBE,ColV_def,srcC]))
 ·rintro ⟨k,a,z⟩ ⟨h1,h2⟩
  simp only at h1 h2
  (refine bni ?_; repeat (refine bnk ?_; simp (disch:=first | omega | (simp only [LN]; omega)) only [↓EC,EW,seval,↓reduceIte,↓EBD,EBE,ColV_def,lheap_def,srcC]))
  (refine Split.mkB (fun h=>?_) (fun h=>?_) <;> (try simp only [SD] at h))
  ·(refine bni ?_; repeat (refine bnk ?_; (try simp (disch:=first | omega | (simp only [LN]; omega)) only [↓EC,EW,seval,↓reduceIte,↓EBD,EBE])))
   (refine pcm [0] rfl ?_; (refine bni ?_; repeat (refine bnk ?_; (try simp (disch:=first | omega | (simp only [LN]; omega)) only [↓EC,EW,seval,↓reduceIte,↓EBD,EBE]))); refine callM_d (c_spec_l01Next (by assumption) (by omega)) ?_; rintro _ _ ⟨r1,_,_,rfl,rfl,hs_,hr_⟩; (refine bni ?_; repeat (refine bnk ?_; (try simp (disch:=first | omega | (simp only [LN]; omega)) only [↓EC,EW,seval,↓reduceIte,↓EBD,EBE,srcC]))))
   obtain ⟨n,hn⟩:∃ n:Nat,1 + r1 = n:=⟨(1 + r1).toNat,by omega⟩
   have hnl:1 <= n /\ n <= 8:=by omega
   rw [hn]
   (refine pcm [0] rfl ?_; (refine bni ?_; repeat (refine bnk ?_; (try simp (disch:=first | omega | (simp only [LN]; omega)) only [↓EC,EW,seval,↓reduceIte,↓EBD,EBE]))); refine callM_d (c_spec_l01DrawPlaces (n:=2 * (n:Int)) (by omega) (by assumption)) ?_; rintro _ _ ⟨o,a2,z2,rfl,rfl,hs_,ho⟩; (refine bni ?_; repeat (refine bnk ?_; (try simp (disch:=first | omega | (simp only [LN]; omega)) only [↓EC,EW,seval,↓reduceIte,↓EBD,EBE,srcC]))))
   have hol:=ho.1
   (refine bni ?_; repeat (refine bnk ?_; (try simp (disch:=first | omega | (simp only [LN]; omega)) only [↓EC,EW,seval,↓reduceIte,↓EBD,EBE])))
   refine LPx_of (σ:=List Int × Nat) 200000 [(0,96,1),(66,28,1),(69,26,1),(70,26,1)] (fun s=>[.int .i64 (2 * (s.2:Int))]) (fun s=>[srcC x l a2 z2,.int .i64 0 :: vi .u8 (List.replicate 32 0),vi .u8 s.1,vi .u8 o])
    (fun s=>lo16 s.1 /\ s.2 <= n) (fun s=>n - s.2) (List.replicate 16 0,0) (by simp [frameOk,names,lpz,sclp,scv,scvs,nrfs,nrf,FRB]) ⟨lo16_zero,by simp only; omega⟩ ?_ ?_
   ·(refine bni ?_; repeat (refine bnk ?_; simp (disch:=first | omega | (simp only [LN]; omega)) only [↓EC,EW,seval,↓reduceIte,↓EBD,EBE,ColV_def,srcC]))
   ·rintro ⟨p,i⟩ ⟨g1,g2⟩
    simp only at g1 g2
    have hpl:=g1.1
    (refine bni ?_; repeat (refine bnk ?_; simp (disch:=first | omega | (simp only [LN]; omega)) only [↓EC,EW,seval,↓reduceIte,↓EBD,EBE,ColV_def,lheap_def,srcC]))
    (refine Split.mkB (fun h=>?_) (fun h=>?_) <;> (try simp only [SD] at h))
    ·have b1:=ho.2 (2 * i) (by omega)
     have b2:=ho.2 (2 * i + 1) (by omega)
     have e1:(2 * (i:Int)).toNat = 2 * i:=by omega
     have e2:(2 * (i:Int) + 1).toNat = 2 * i + 1:=by omega
     (refine bni ?_; repeat (refine bnk ?_; (try simp (disch:=first | omega | (simp only [LN]; omega)) only [↓EC,EW,seval,↓reduceIte,↓EBD,EBE,e1,e2])))
     exact ⟨(_,i + 1),by simp; omega,rfl,⟨lo16_set (lo16_set g1 b2) b1,by simp only; omega⟩,by simp only; omega⟩
    ·(refine bni ?_; repeat (refine bnk ?_; (try simp (disch:=first | omega | (simp only [LN]; omega)) only [↓EC,EW,seval,↓reduceIte,↓EBD,EBE])))
     (refine pcma [0] rfl ?_; (refine bni ?_; repeat (refine bnk ?_; (try simp (disch:=first | omega | (simp only [LN]; omega)) only [↓EC,EW,seval,↓reduceIte,↓EBD,EBE]))); refine callM_d (c_spec_l01Pick (m:=[3,4,2 * (n:Int)]) (by assumption) (by simp) (by simp)) ?_; rintro _ _ ⟨y1,_,_,hy_,rfl,rfl,hs_⟩; simp only [List.mem_cons,List.not_mem_nil,or_false] at hy_; (refine bni ?_; repeat (refine bnk ?_; (try simp (disch:=first | omega | (simp only [LN]; omega)) only [↓EC,EW,seval,↓reduceIte,↓EBD,EBE,srcC]))))
     (refine pcma [0] rfl ?_; (refine bni ?_; repeat (refine bnk ?_; (try simp (disch:=first | omega | (simp only [LN]; omega)) only [↓EC,EW,seval,↓reduceIte,↓EBD,EBE]))); refine callM_d (c_spec_l01Pairs (n:=2 * (n:Int)) (m:=y1) (by omega) (by omega) (by assumption)) ?_; rintro _ _ ⟨b,a4,z4,rfl,rfl,hs_,hb⟩; (refine bni ?_; repeat (refine bnk ?_; (try simp (disch:=first | omega | (simp only [LN]; omega)) only [↓EC,EW,seval,↓reduceIte,↓EBD,EBE,srcC]))))
     have hbl:=hb.1
     (refine bni ?_; repeat (refine bnk ?_; (try simp (disch:=first | omega | (simp only [LN]; omega)) only [↓EC,EW,seval,↓reduceIte,↓EBD,EBE])))
     have k1:=c_spec_l01Is (n:=2 * (n:Int)) hb.ok g1.ok
     unfold vD at k1
     refine pcd_v k1 ?_
     (refine bni ?_; repeat (refine bnk ?_; (try simp (disch:=first | omega | (simp only [LN]; omega)) only [↓EC,EW,seval,↓reduceIte,↓EBD,EBE])))
     (refine Split.mkB (fun h=>?_) (fun h=>?_) <;> (try simp only [SD] at h))
     ·(refine bni ?_; repeat (refine bnk ?_; (try simp (disch:=first | omega | (simp only [LN]; omega)) only [↓EC,EW,seval,↓reduceIte,↓EBD,EBE])))
      exact ⟨2 * n,b,p,_,_,rfl,rfl,by assumption,hb,g1,by omega,by omega⟩
     ·(refine bni ?_; repeat (refine bnk ?_; (try simp (disch:=first | omega | (simp only [LN]; omega)) only [↓EC,EW,seval,↓reduceIte,↓EBD,EBE])))
      exact ⟨(k + 1,a4,z4),by simp,rfl,⟨by assumption,by simp only; omega⟩,by simp only; omega⟩
  ·(refine bni ?_; repeat (refine bnk ?_; (try simp (disch:=first | omega | (simp only [LN]; omega)) only [↓EC,EW,seval,↓reduceIte,↓EBD,EBE])))
   (refine pcm [0] rfl ?_; (refine bni ?_; repeat (refine bnk ?_; (try simp (disch:=first | omega | (simp only [LN]; omega)) only [↓EC,EW,seval,↓reduceIte,↓EBD,EBE]))); refine callM_d (c_spec_l01Draw (m:=8) (by omega) (by assumption)) ?_; rintro _ _ ⟨n,p,q,a2,z2,rfl,rfl,hs_,hp,hq,hn,hnm⟩; (refine bni ?_; repeat (refine bnk ?_; (try simp (disch:=first | omega | (simp only [LN]; omega)) only [↓EC,EW,seval,↓reduceIte,↓EBD,EBE,srcC]))))
   have hpl:=hp.1
   have hql:=hq.1
   (refine bni ?_; repeat (refine bnk ?_; (try simp (disch:=first | omega | (simp only [LN]; omega)) only [↓EC,EW,seval,↓reduceIte,↓EBD,EBE,vD])))
   obtain ⟨m,p',q',c,e,op,oq,hm⟩:=suR_lo hp.ok hq.ok (n:=n)
   have k1:=c_spec_SubdividedOf (n:=n) hp.ok hq.ok (by omega)
   rw [e] at k1
   have hpl':=op.1
   have hql':=oq.1
   unfold vD at k1
   refine pcd_v k1 ?_
   (refine bni ?_; repeat (refine bnk ?_; (try simp (disch:=first | omega | (simp only [LN]; omega)) only [↓EC,EW,seval,↓reduceIte,↓EBD,EBE])))
   exact ⟨m,p',q',_,_,rfl,rfl,by assumption,op,oq,by omega,by omega⟩
theorem c_spec_l07Draw {x:Value} {l:List Int} {a z:Int} (hs:okS l a):PSpecM Tryz.prog 79 [.ptr 0 0] [(0,96,1)] [srcC x l a z] fun v c =>
  ∃ n C T S a' z',v = vF n C T S /\ c = [srcC x l a' z'] /\ okS l a' /\ fo32 C /\ fo32 T /\ fo32 S:=by
 refine spec_l07Draw_f.m rfl rfl ?_
 unfold srcC
 dsimp only [spec_l07Draw_F,pcal_B,pcalp_B,pcala_B,pcond_B,pgk_B,JN_B,LP_B]
 (refine bni ?_; repeat (refine bnk ?_; (try simp (disch:=first | omega | (simp only [LN]; omega)) only [↓EC,EW,seval,↓reduceIte,↓EBD,EBE])))
 (refine pcm [0] rfl ?_; (refine bni ?_; repeat (refine bnk ?_; (try simp (disch:=first | omega | (simp only [LN]; omega)) only [↓EC,EW,seval,↓reduceIte,↓EBD,EBE]))); refine callM_d (c_spec_l07MapS (by assumption)) ?_; rintro _ _ ⟨n,b,w,a1,z1,rfl,rfl,hs_,hb,hw,hn0,hn16⟩; (refine bni ?_; repeat (refine bnk ?_; (try simp (disch:=first | omega | (simp only [LN]; omega)) only [↓EC,EW,seval,↓reduceIte,↓EBD,EBE,srcC]))))
 have hbl:=hb.1
 have hwl:=hw.1
 have LC:=fgC_lo hw n.toNat (by omega)
 have LT:=fgT_lo hb n.toNat (by omega)
 have LS:=fgS_lo n.toNat (by omega)
 have k1:=c_spec_l07Flags (n:=n) hb hw ⟨hn0,hn16⟩
 generalize fgC w n.toNat = C at *
 generalize fgT b n.toNat = T at *
 generalize fgS n.toNat = S at *
 have hCl:=LC.1
 have hTl:=LT.1
 have hSl:=LS.1
 have hcts:(C ++ T ++ S).length = 96:=by simp [hCl,hTl,hSl]
 unfold vD vF at k1
 (refine bni ?_; repeat (refine bnk ?_; (try simp (disch:=first | omega | (simp only [LN]; omega)) only [↓EC,EW,seval,↓reduceIte,↓EBD,EBE,vD])))
 refine pcd_v k1 ?_
 (refine bni ?_; repeat (refine bnk ?_; (try simp (disch:=first | omega | (simp only [LN]; omega)) only [↓EC,EW,seval,↓reduceIte,↓EBD,EBE])))
 (refine pcm [0] rfl ?_; (refine bni ?_; repeat (refine bnk ?_; (try simp (disch:=first | omega | (simp only [LN]; omega)) only [↓EC,EW,seval,↓reduceIte,↓EBD,EBE]))); refine callM_d (c_spec_l01Next (by assumption) (by omega)) ?_; rintro _ _ ⟨r1,_,_,rfl,rfl,hs_,hr_⟩; (refine bni ?_; repeat (refine bnk ?_; (try simp (disch:=first | omega | (simp only [LN]; omega)) only [↓EC,EW,seval,↓reduceIte,↓EBD,EBE,srcC]))))
 have k2:=c_spec_l07Turn (n:=2 * n) (k:=r1) LC LT.1 LS (by omega) (by omega)
 obtain ⟨M1,M2⟩:=tu_lo (n:=2 * n) (k:=r1) LC LS
 unfold vF at k2
 (refine bni ?_; repeat (refine bnk ?_; (try simp (disch:=first | omega | (simp only [LN]; omega)) only [↓EC,EW,seval,↓reduceIte,↓EBD,EBE])))
 refine pcd_v k2 ?_
 generalize tuC C S (2 * n) r1 = C' at *
 generalize tuS C S (2 * n) r1 = S' at *
 have hCl:=M1.1
 have hSl:=M2.1
 have hct:(C' ++ T).length = 64:=by simp [hCl,hTl]
 have hcts:(C' ++ T ++ S').length = 96:=by simp [hCl,hTl,hSl]
 have t3:List.drop 64 (C' ++ T ++ S') = S':=by rw [<-hct,List.drop_left]
 have t1:List.take 32 (C' ++ T ++ S') = C':=by rw [List.append_assoc,<-hCl,List.take_left]
 have t4:List.drop 32 (C' ++ T ++ S') = T ++ S':=by rw [List.append_assoc,<-hCl,List.drop_left]
 have y1:33 + S'.length = 65:=by omega
 have y2:1 + S'.length = 33:=by omega
 have y3:List.drop 65 (V.int .i64 (2 * n) :: vi .u8 (C' ++ T ++ S')) = vi .u8 S':=by
  show List.drop 64 (vi .u8 (C' ++ T ++ S')) = _
  rw [vi_drop,t3]
 have y4:List.drop 33 (V.int .i64 (2 * n) :: vi .u8 (C' ++ T ++ S')) = vi .u8 (T ++ S'):=by
  show List.drop 32 (vi .u8 (C' ++ T ++ S')) = _
  rw [vi_drop,t4]
 (refine bni ?_; repeat (refine bnk ?_; (try simp (disch:=first | omega | (simp only [LN]; omega)) only [↓EC,EW,seval,↓reduceIte,↓EBD,EBE])))
 refine JNx_un ?_
 (refine bni ?_; repeat (refine bnk ?_; (try simp (disch:=first | omega | (simp only [LN]; omega)) only [↓EC,EW,seval,↓reduceIte,↓EBD,EBE])))
 (refine pcm [0] rfl ?_; (refine bni ?_; repeat (refine bnk ?_; (try simp (disch:=first | omega | (simp only [LN]; omega)) only [↓EC,EW,seval,↓reduceIte,↓EBD,EBE]))); refine callM_d (c_spec_l01Next (by assumption) (by omega)) ?_; rintro _ _ ⟨r2,_,_,rfl,rfl,hs_,hr_⟩; (refine bni ?_; repeat (refine bnk ?_; (try simp (disch:=first | omega | (simp only [LN]; omega)) only [↓EC,EW,seval,↓reduceIte,↓EBD,EBE,srcC]))))
 (refine Split.mkB (fun h=>?_) (fun h=>?_) <;> (try simp only [SD] at h))
 ·(refine bni ?_; repeat (refine bnk ?_; (try simp (disch:=first | omega | (simp only [LN]; omega)) only [↓EC,EW,seval,↓reduceIte,↓EBD,EBE])))
  (refine pcm [0] rfl ?_; (refine bni ?_; repeat (refine bnk ?_; (try simp (disch:=first | omega | (simp only [LN]; omega)) only [↓EC,EW,seval,↓reduceIte,↓EBD,EBE]))); refine callM_d (c_spec_l01Pick (m:=[0,33,2 * n - 4,2 * n + 4,36]) (by assumption) (by simp) (by simp)) ?_; rintro _ _ ⟨y1,_,_,hy_,rfl,rfl,hs_⟩; simp only [List.mem_cons,List.not_mem_nil,or_false] at hy_; (refine bni ?_; repeat (refine bnk ?_; (try simp (disch:=first | omega | (simp only [LN]; omega)) only [↓EC,EW,seval,↓reduceIte,↓EBD,EBE,srcC]))))
  exact ⟨y1,C',T,S',_,_,rfl,rfl,by assumption,M1.ok,LT.ok,M2.ok⟩
 ·(refine bni ?_; repeat (refine bnk ?_; (try simp (disch:=first | omega | (simp only [LN]; omega)) only [↓EC,EW,seval,↓reduceIte,↓EBD,EBE])))
  (refine Split.mkB (fun h=>?_) (fun h=>?_) <;> (try simp only [SD] at h))
  ·(refine bni ?_; repeat (refine bnk ?_; (try simp (disch:=first | omega | (simp only [LN]; omega)) only [↓EC,EW,seval,↓reduceIte,↓EBD,EBE,t3,t1,y1,y2,y3,y4])))
   exact ⟨2 * n,C',S',S',_,_,by simp [vF],rfl,by assumption,M1.ok,M2.ok,M2.ok⟩
  ·(refine bni ?_; repeat (refine bnk ?_; (try simp (disch:=first | omega | (simp only [LN]; omega)) only [↓EC,EW,seval,↓reduceIte,↓EBD,EBE])))
   (refine Split.mkB (fun h=>?_) (fun h=>?_) <;> (try simp only [SD] at h))
   ·(refine bni ?_; repeat (refine bnk ?_; (try simp (disch:=first | omega | (simp only [LN]; omega)) only [↓EC,EW,seval,↓reduceIte,↓EBD,EBE])))
    (refine pcm [0] rfl ?_; (refine bni ?_; repeat (refine bnk ?_; (try simp (disch:=first | omega | (simp only [LN]; omega)) only [↓EC,EW,seval,↓reduceIte,↓EBD,EBE]))); refine callM_d (c_spec_l01Next (by assumption) (by omega)) ?_; rintro _ _ ⟨r3,_,_,rfl,rfl,hs_,hr_⟩; (refine bni ?_; repeat (refine bnk ?_; (try simp (disch:=first | omega | (simp only [LN]; omega)) only [↓EC,EW,seval,↓reduceIte,↓EBD,EBE,srcC]))))
    have hc:=M1.2 r3.toNat (by omega)
    have hw1:IntKind.u8.wrap (gi C' r3.toNat + 1) = gi C' r3.toNat + 1:=by simp [IntKind.wrap,IntKind.signed,IntKind.bits]; omega
    (refine bni ?_; repeat (refine bnk ?_; (try simp (disch:=first | omega | (simp only [LN]; omega)) only [↓EC,EW,seval,↓reduceIte,↓EBD,EBE,hw1])))
    exact ⟨2 * n,_,T,S',_,_,rfl,rfl,by assumption,fo32_set (i:=r3.toNat) M1.ok (by omega),LT.ok,M2.ok⟩
   ·(refine bni ?_; repeat (refine bnk ?_; (try simp (disch:=first | omega | (simp only [LN]; omega)) only [↓EC,EW,seval,↓reduceIte,↓EBD,EBE])))
    (refine Split.mkB (fun h=>?_) (fun h=>?_) <;> (try simp only [SD] at h))
    ·(refine bni ?_; repeat (refine bnk ?_; (try simp (disch:=first | omega | (simp only [LN]; omega)) only [↓EC,EW,seval,↓reduceIte,↓EBD,EBE,t3,t1,y1,y2,y3,y4])))
     exact ⟨2 * n,S',T,S',_,_,by simp [vF],rfl,by assumption,M2.ok,LT.ok,M2.ok⟩
    ·(refine bni ?_; repeat (refine bnk ?_; (try simp (disch:=first | omega | (simp only [LN]; omega)) only [↓EC,EW,seval,↓reduceIte,↓EBD,EBE])))
     exact ⟨2 * n,C',T,S',_,_,rfl,rfl,by assumption,M1.ok,LT.ok,M2.ok⟩
theorem c_spec_DrawFlagsOf {x:Value} {l:List Int} (hB:okB l):PSpec Tryz.prog 23 [.fz x l] fun v=>∃ n p q,v = vD n p q /\ okP p /\ okP q /\ -1 <= n /\ n <= 17:=by
 refine spec_DrawFlagsOf_f.f ?_
 simp (disch:=first | omega | (simp only [LN]; omega)) only [↓EC,EW,seval,↓reduceIte,spec_DrawFlagsOf_F]
 (refine pcn_q (c_spec_l01From hB) rfl ?_; rintro _ _ ⟨rfl,z,rfl⟩; have hs_:=okS_0 hB; (try simp (disch:=first | omega | (simp only [LN]; omega)) only [↓EC,EW,seval,↓reduceIte,srcC]))
 (refine pcm [68] rfl ?_; (try simp (disch:=first | omega | (simp only [LN]; omega)) only [↓EC,EW,seval,↓reduceIte]); refine callM_d (c_spec_l07Spoil (by assumption)) ?_; rintro _ _ ⟨n,p,q,a1,z1,rfl,rfl,hs_,hp,hq,hn,hnm⟩; (try simp (disch:=first | omega | (simp only [LN]; omega)) only [↓EC,EW,seval,↓reduceIte,srcC]))
 have hpl:=hp.1
 have hql:=hq.1
 (try simp (disch:=first | omega | (simp only [LN]; omega)) only [↓EC,EW,seval,↓reduceIte,vD])
 exact ⟨n,p,q,rfl,hp,hq,hn,hnm⟩
theorem c_spec_DrawMapOfFlags {x:Value} {l:List Int} (hB:okB l):PSpec Tryz.prog 40 [.fz x l] fun v=>∃ n C T S,v = vF n C T S /\ fo32 C /\ fo32 T /\ fo32 S:=by
 refine spec_DrawMapOfFlags_f.f ?_
 simp (disch:=first | omega | (simp only [LN]; omega)) only [↓EC,EW,seval,↓reduceIte,spec_DrawMapOfFlags_F]
 (refine pcn_q (c_spec_l01From hB) rfl ?_; rintro _ _ ⟨rfl,z,rfl⟩; have hs_:=okS_0 hB; (try simp (disch:=first | omega | (simp only [LN]; omega)) only [↓EC,EW,seval,↓reduceIte,srcC]))
 (refine pcm [68] rfl ?_; (try simp (disch:=first | omega | (simp only [LN]; omega)) only [↓EC,EW,seval,↓reduceIte]); refine callM_d (c_spec_l07Draw (by assumption)) ?_; rintro _ _ ⟨n,C,T,S,a1,z1,rfl,rfl,hs_,hC,hT,hS⟩; (try simp (disch:=first | omega | (simp only [LN]; omega)) only [↓EC,EW,seval,↓reduceIte,srcC]))
 have hCl:=hC.1
 have hTl:=hT.1
 have hSl:=hS.1
 have hcts:(C ++ T ++ S).length = 96:=by simp [hCl,hTl,hSl]
 (try simp (disch:=first | omega | (simp only [LN]; omega)) only [↓EC,EW,seval,↓reduceIte,vF])
 exact ⟨n,C,T,S,rfl,hC,hT,hS⟩
theorem c_spec_DrawEulerOfFlags {x:Value} {l:List Int} (hB:okB l):PSpec Tryz.prog 44 [.fz x l] fun v=>∃ n C T S,v = vF n C T S /\ fo32 C /\ fo32 T /\ fo32 S:=by
 refine spec_DrawEulerOfFlags_f.f ?_
 simp (disch:=first | omega | (simp only [LN]; omega)) only [↓EC,EW,seval,↓reduceIte,spec_DrawEulerOfFlags_F]
 (refine pcn_q (c_spec_l01From hB) rfl ?_; rintro _ _ ⟨rfl,z,rfl⟩; have hs_:=okS_0 hB; (try simp (disch:=first | omega | (simp only [LN]; omega)) only [↓EC,EW,seval,↓reduceIte,srcC]))
 (refine pcm [68] rfl ?_; (try simp (disch:=first | omega | (simp only [LN]; omega)) only [↓EC,EW,seval,↓reduceIte]); refine callM_d (c_spec_l07Draw (by assumption)) ?_; rintro _ _ ⟨n,C,T,S,a1,z1,rfl,rfl,hs_,hC,hT,hS⟩; (try simp (disch:=first | omega | (simp only [LN]; omega)) only [↓EC,EW,seval,↓reduceIte,srcC]))
 have hCl:=hC.1
 have hTl:=hT.1
 have hSl:=hS.1
 have hcts:(C ++ T ++ S).length = 96:=by simp [hCl,hTl,hSl]
 (try simp (disch:=first | omega | (simp only [LN]; omega)) only [↓EC,EW,seval,↓reduceIte,vF])
 exact ⟨n,C,T,S,rfl,hC,hT,hS⟩
theorem c_spec_DrawTurnFlags {x:Value} {l:List Int} (hB:okB l):PSpec Tryz.prog 31 [.fz x l] fun v=>∃ n C T S k,v = .tup [vF n C T S,.int .i64 k] /\ fo32 C /\ fo32 T /\ fo32 S:=by
 refine spec_DrawTurnFlags_f.f ?_
 simp (disch:=first | omega | (simp only [LN]; omega)) only [↓EC,EW,seval,↓reduceIte,spec_DrawTurnFlags_F]
 (refine pcn_q (c_spec_l01From hB) rfl ?_; rintro _ _ ⟨rfl,z,rfl⟩; have hs_:=okS_0 hB; (try simp (disch:=first | omega | (simp only [LN]; omega)) only [↓EC,EW,seval,↓reduceIte,srcC]))
 (refine pcm [70] rfl ?_; (try simp (disch:=first | omega | (simp only [LN]; omega)) only [↓EC,EW,seval,↓reduceIte]); refine callM_d (c_spec_l07Draw (by assumption)) ?_; rintro _ _ ⟨n,C,T,S,a1,z1,rfl,rfl,hs_,hC,hT,hS⟩; (try simp (disch:=first | omega | (simp only [LN]; omega)) only [↓EC,EW,seval,↓reduceIte,srcC]))
 have hCl:=hC.1
 have hTl:=hT.1
 have hSl:=hS.1
 have hcts:(C ++ T ++ S).length = 96:=by simp [hCl,hTl,hSl]
 (try simp (disch:=first | omega | (simp only [LN]; omega)) only [↓EC,EW,seval,↓reduceIte,vF])
 (refine pcm [70] rfl ?_; (try simp (disch:=first | omega | (simp only [LN]; omega)) only [↓EC,EW,seval,↓reduceIte]); refine callM_d (c_spec_l01Near (m:=5) (by omega) (by assumption)) ?_; rintro _ _ ⟨k,a2,z2,rfl,rfl,hs_⟩; (try simp (disch:=first | omega | (simp only [LN]; omega)) only [↓EC,EW,seval,↓reduceIte,srcC]))
 (try simp (disch:=first | omega | (simp only [LN]; omega)) only [↓EC,EW,seval,↓reduceIte,vF])
 exact ⟨n,C,T,S,k,rfl,hC,hT,hS⟩
theorem c_laws_sumT {l:List Int} (hl:l.length <= 1000) (hb:∀ a ∈ l,0 <= a /\ a <= 1000):PSpec Tryz.prog 39 [.sl l.length (vi .i64 l)] fun v=>v = .int .i64 l.sum:=by
 refine laws_sum_f.f ?_
 dsimp only [laws_sum_F,pcal_B,pcalp_B,pcala_B,pcond_B,pgk_B,JN_B,LP_B]
 (refine bni ?_; repeat (refine bnk ?_; (try simp (disch:=first | omega | (simp only [LN]; omega)) only [↓EC,EW,seval,↓reduceIte,↓EBD,EBE])))
 refine LPx_of (σ:=Nat) 100000 [] (fun s=>[.int .i64 (smE s fun j=>gi l j),.int .i64 s]) (fun s=>[]) (fun s=>s <= l.length /\ 0 <= smE s (fun j=>gi l j) /\ smE s (fun j=>gi l j) <= 1000 * s) (fun s=>l.length - s) 0 (by simp [frameOk,names,lpz,sclp,scv,scvs,nrfs,nrf,FRB]) ⟨Nat.zero_le _,by simp [smE],by simp [smE]⟩ ?_ ?_
 ·(refine bni ?_; repeat (refine bnk ?_; simp (disch:=first | omega | (simp only [LN]; omega)) only [↓EC,EW,seval,↓reduceIte,↓EBD,EBE,ColV_def]))
  try rfl
 ·rintro s ⟨h1,h2,h3⟩
  (refine bni ?_; repeat (refine bnk ?_; simp (disch:=first | omega | (simp only [LN]; omega)) only [↓EC,EW,seval,↓reduceIte,↓EBD,EBE,ColV_def,lheap_def]))
  (refine Split.mkB (fun h=>?_) (fun h=>?_) <;> (try simp only [SD] at h))
  ·have ha:=hb (gi l s) (by rw [gi_of (show s < l.length by omega)]; exact List.getElem_mem _)
   (refine bni ?_; repeat (refine bnk ?_; (try simp (disch:=first | omega | (simp only [LN]; omega)) only [↓EC,EW,seval,↓reduceIte,↓EBD,EBE])))
   refine ⟨s + 1,rfl,⟨by omega,?_,?_⟩,by omega⟩ <;> simp only [smE] <;> omega
  ·obtain rfl:s = l.length:=by omega
   (refine bni ?_; repeat (refine bnk ?_; (try simp (disch:=first | omega | (simp only [LN]; omega)) only [↓EC,EW,seval,↓reduceIte,↓EBD,EBE])))
   rw [smE_sum]
end
section
set_option linter.unusedSectionVars false
set_option maxHeartbeats 1000000
section
variable {n:Int} {C T S c X:List Int}
theorem mpL_at {ν:List Int} (hinj:∀ x y,x < 32 -> y < 32 -> gi c x = 1 -> gi c y = 1 -> (gi ν x).toNat = (gi ν y).toNat -> x = y) (hν:∀ y,0 <= gi ν y /\ gi ν y < 16) {y:Nat} (hy:y < 32) (h1:gi c y = 1):∀ s,s <= 32 ->
  gi (mpL c X S ν s) (gi ν y).toNat = if y < s then gi ν (gi X (gi S y).toNat).toNat else 0
 | 0,_=>by simp only [mpL]; rw [gi_rep]; simp
 | s + 1,hs=>by
  have ih:=mpL_at hinj hν hy h1 s (by omega)
  simp only [mpL]
  split
  ·rename_i h2
   rw [gi_set,mpL_len,ih]
   by_cases e:s = y
   ·subst e
    rw [if_pos ⟨rfl,by have:=hν s; omega⟩,if_pos (by omega)]
   ·rw [if_neg fun q=>e (hinj s y (by omega) hy h2 h1 q.1)]
    by_cases q:y < s
    ·rw [if_pos q,if_pos (by omega)]
    ·rw [if_neg q,if_neg (by omega)]
  ·rename_i h2
   rw [ih]
   have:s ≠ y:=fun e=>h2 (e ▸ h1)
   by_cases q:y < s
   ·rw [if_pos q,if_pos (by omega)]
   ·rw [if_neg q,if_neg (by omega)]
theorem mpL_out {ν:List Int} {j:Nat} (h:∀ x,x < 32 -> gi c x = 1 -> (gi ν x).toNat ≠ j):∀ s,s <= 32 -> gi (mpL c X S ν s) j = 0
 | 0,_=>by simp only [mpL]; rw [gi_rep]; split <;> rfl
 | s + 1,hs=>by
  have ih:=mpL_out h s (by omega)
  simp only [mpL]
  split
  ·rename_i h2
   rw [gi_set,if_neg fun q=>h s (by omega) h2 q.1,ih]
  ·exact ih
theorem mpL_vals {ν:List Int} (hν:∀ y,0 <= gi ν y /\ gi ν y < 16) {j:Nat}:∀ s,0 <= gi (mpL c X S ν s) j /\ gi (mpL c X S ν s) j < 16
 | 0=>by simp only [mpL]; rw [gi_rep]; split <;> omega
 | s + 1=>by
  have ih:=mpL_vals hν (j:=j) s
  simp only [mpL]
  split
  ·rw [gi_set]; split
   ·exact hν _
   ·exact ih
  ·exact ih
structure Fmp (n:Int) (C T S c:List Int):Prop where
 F:Fls n C T S
 col:Clr [C,T,S] n.toNat c
variable (h:Fmp n C T S c)
include h
theorem Fmp.half:2 * nbC c n.toNat = n:=h.F.half h.col
theorem Fmp.lt1 {x:Nat} (h1:gi c x = 1):x < n.toNat:=Classical.byContradiction fun q=>by
 have:=h.col.out x (by omega); omega
theorem Fmp.nu {x:Nat} (h1:gi c x = 1):gi (nbT c n.toNat) x = nbC c x:=by
 rw [nbT_at _ h.F.h32.1,if_pos ⟨h.lt1 h1,h1⟩]
theorem Fmp.nu16 (y:Nat):0 <= gi (nbT c n.toNat) y /\ gi (nbT c n.toNat) y < 16:=h.F.nb16 h.col (Nat.le_refl _)
theorem Fmp.inj:∀ x y,x < 32 -> y < 32 -> gi c x = 1 -> gi c y = 1 -> (gi (nbT c n.toNat) x).toNat = (gi (nbT c n.toNat) y).toNat -> x = y:=fun x y _ _ hx hy e=>by
 rw [h.nu hx,h.nu hy] at e
 exact nbC_inj hx hy (by have:=nbC_nn (c:=c) x; have:=nbC_nn (c:=c) y; omega)
theorem Fmp.i1 {x:Nat} (h1:gi c x = 1):(nbC c x).toNat < (nbC c n.toNat).toNat:=by
 have:=nbC_lt (h.lt1 h1) h1
 have:=nbC_nn (c:=c) x
 omega
structure Fx (n:Int) (C T S X:List Int):Prop where
 m:X ∈ [C,T,S]
 iv:Iv X n.toNat
theorem Fmp.fc:Fx n C T S C:=⟨by simp,h.F.iC⟩
theorem Fmp.ft:Fx n C T S T:=⟨by simp,h.F.iT⟩
theorem Fmp.fs:Fx n C T S S:=⟨by simp,h.F.iS⟩
theorem Fmp.flip {x:Nat} (k:Fx n C T S X) (hx:x < n.toNat):gi c (fp X x) = 3 - gi c x:=h.col.ne x hx X k.m
theorem Fmp.xs1 {x:Nat} (k:Fx n C T S X) (h1:gi c x = 1):gi c (fp X (fp S x)) = 1:=by
 have hx:=h.lt1 h1
 rw [h.flip k (h.F.iS.lt x hx),h.flip h.fs hx]; omega
theorem Fmp.val {x:Nat} (k:Fx n C T S X) (h1:gi c x = 1):gi (mpB c X S n.toNat) (nbC c x).toNat = nbC c (fp X (fp S x)):=by
 have hx:=h.lt1 h1
 have h32:=h.F.h32
 have e:=mpL_at (X:=X) (S:=S) h.inj h.nu16 (y:=x) (by omega) h1 n.toNat h32.1
 rw [h.nu h1,if_pos hx] at e
 unfold mpB
 rw [e]
 have:=h.nu (h.xs1 k h1)
 unfold fp at this ⊢
 rw [this]
theorem Fmp.lo (X:List Int):lo16 (mpB c X S n.toNat):=⟨mpL_len _,fun i _=>mpL_vals h.nu16 _⟩
theorem Fmp.vfp {x:Nat} (k:Fx n C T S X) (h1:gi c x = 1):fp (mpB c X S n.toNat) (nbC c x).toNat = (nbC c (fp X (fp S x))).toNat:=by
 unfold fp
 have:=h.val k h1
 unfold fp at this
 rw [this]
theorem Fmp.onto {j:Nat} (hj:j < (nbC c n.toNat).toNat):∃ x,gi c x = 1 /\ (nbC c x).toNat = j:=by
 obtain ⟨x,_,h1,h2⟩:=nbC_onto (c:=c) (j:=j) n.toNat (by omega)
 exact ⟨x,h1,by omega⟩
theorem Fmp.hn:1 <= nbC c n.toNat /\ nbC c n.toNat <= 16:=by have:=h.half; have:=h.F.F.hn; omega
theorem Fmp.pf (k:Fx n C T S X):Pf (mpB c X S n.toNat) (nbC c n.toNat).toNat:=by
 refine ⟨fun j hj=>?_,fun i j hi hj e=>?_,by have:=h.hn; omega⟩
 ·obtain ⟨x,h1,rfl⟩:=h.onto hj
  rw [h.vfp k h1]
  exact h.i1 (h.xs1 k h1)
 ·obtain ⟨x,h1,rfl⟩:=h.onto hi
  obtain ⟨y,h2,rfl⟩:=h.onto hj
  rw [h.vfp k h1,h.vfp k h2] at e
  have a1:=nbC_nn (c:=c) (fp X (fp S x))
  have a2:=nbC_nn (c:=c) (fp X (fp S y))
  have e1:=nbC_inj (h.xs1 k h1) (h.xs1 k h2) (by omega)
  have hx:=h.lt1 h1
  have hy:=h.lt1 h2
  have e2:fp S x = fp S y:=by
   rw [<-k.iv.iv _ (h.F.iS.lt x hx),<-k.iv.iv _ (h.F.iS.lt y hy),e1]
  have e3:x = y:=by rw [<-h.F.iS.iv x hx,<-h.F.iS.iv y hy,e2]
  rw [e3]
theorem Fmp.out (X:List Int) {j:Nat} (hj:nbC c n.toNat <= j):gi (mpB c X S n.toNat) j = 0:=mpL_out (fun x _ h1 e=>by
 rw [h.nu h1] at e
 have:=h.i1 h1
 omega) n.toNat h.F.h32.1
theorem Fmp.pd (k:Fx n C T S X):Pd (mpB c X S n.toNat) (nbC c n.toNat) /\ isPm (mpB c X S n.toNat) (nbC c n.toNat) :=
 ⟨pd_of h.hn (h.lo X) (h.pf k),isPm_of h.hn (h.lo X) (h.pf k) fun j hj=>h.out X hj⟩
theorem Fmp.dz:Dz (nbC c n.toNat) (mpB c T S n.toNat) (mpB c C S n.toNat):=dz_of (h.pd h.ft).1 (h.pd h.fc).1 (h.pd h.ft).2 (h.pd h.fc).2 fun Q h0 hB hW=>by
 have h32:=h.F.h32
 have z1:gi c 0 = 1:=h.col.z
 have key:∀ y,y < n.toNat -> (gi c y = 1 -> Q (nbC c y).toNat) /\ (gi c y = 2 -> Q (nbC c (fp S y)).toNat):=fun y hy=>by
  have r:=h.F.all y hy
  induction r with
  | refl=>exact ⟨fun _=>h0,fun e=>by omega⟩
  | @step y l r hl ih =>
   have hyN:y < n.toNat:=r.lt (ivs3 h.F.iC h.F.iT h.F.iS) (by omega)
   obtain ⟨i1,i2⟩:=ih hyN
   have hv:=h.col.vs y hyN
   have hsy:=h.F.iS.lt y hyN
   have hss:=h.F.iS.iv y hyN
   have fS:=h.flip h.fs hyN
   -- what 'X' does,where 'X S' is one of the permutations
   have gen:∀ {X:List Int} (k:Fx n C T S X),(∀ x,x < (nbC c n.toNat).toNat -> Q x -> Q (fp (mpB c X S n.toNat) x)) -> (gi c (fp X y) = 1 -> Q (nbC c (fp X y)).toNat) /\ (gi c (fp X y) = 2 -> Q (nbC c (fp S (fp X y))).toNat):=fun {X} k hX=>by
    have hXy:=k.iv.lt y hyN
    have fX:=h.flip k hyN
    constructor
    ·intro e
     have e2:gi c y = 2:=by omega
     have s1:gi c (fp S y) = 1:=by omega
     have:=hX _ (h.i1 s1) (i2 e2)
     rw [h.vfp k s1,hss] at this
     exact this
    ·intro e
     have e1:gi c y = 1:=by omega
     have s1:gi c (fp S (fp X y)) = 1:=by rw [h.flip h.fs hXy]; omega
     refine cl_back (h.pf k) hX (h.i1 s1) ?_
     rw [h.vfp k s1,h.F.iS.iv _ hXy,k.iv.iv y hyN]
     exact i1 e1
   simp only [List.mem_cons,List.not_mem_nil,or_false] at hl
   rcases hl with rfl | rfl | rfl
   ·exact gen h.fc hW
   ·exact gen h.ft hB
   ·constructor
    ·intro e; exact i2 (by omega)
    ·intro e
     rw [hss]; exact i1 (by omega)
 intro x hx
 obtain ⟨y,h1,rfl⟩:=h.onto hx
 exact (key y (h.lt1 h1)).1 h1
end
theorem mpR_0 {n:Int} {C T S:List Int} (hC:fo32 C) (hT:fo32 T) (hS:fo32 S) (h:(mpR n C T S).2 = 0):∃ q:Cst,mpR n C T S = ((nbC q.2 n.toNat,mpB q.2 T S n.toNat,mpB q.2 C S n.toNat),0) /\ Dz (nbC q.2 n.toNat) (mpB q.2 T S n.toNat) (mpB q.2 C S n.toNat):=by
 unfold mpR at h ⊢
 split at h
 ·rename_i hf
  have F:=(flB_iff.1 hf).fo hC hT hS
  unfold mpR0 at h
  cases hq:clsR [C,T,S] with
  | none=>rw [hq] at h; cases h
  | some q =>
   refine ⟨q,?_,(Fmp.mk F (F.col hq)).dz⟩
   rw [if_pos hf]; unfold mpR0; rw [hq]
 ·cases h
theorem mpR_len {n:Int} {C T S:List Int}:(mpR n C T S).1.2.1.length = 16 /\ (mpR n C T S).1.2.2.length = 16:=by
 unfold mpR
 split
 ·unfold mpR0
  cases clsR [C,T,S] with
  | none=>simp [z16]
  | some q=>exact ⟨mpL_len _,mpL_len _⟩
 ·simp [z16]
end
section
set_option linter.unusedSectionVars false
set_option maxHeartbeats 1000000
section
variable {b w:List Int} {n:Int}
theorem fgC_at {y:Nat}:∀ s,s <= 16 -> gi (fgC w s) y = if y < 2 * s then (if y % 2 = 0 then 2 * gi w (y / 2) + 1 else 2 * gi w (y / 2)) else 0
 | 0,_=>by simp only [fgC]; rw [gi_rep]; simp
 | s + 1,hs=>by
  have l:=fgC_len (w:=w) s
  have e:fgC w (s + 1) = ((fgC w s).set (2 * s) (2 * gi w s + 1)).set (2 * s + 1) (2 * gi w s):=rfl
  rw [e,gi_set,gi_set,List.length_set,l,fgC_at s (by omega)]
  by_cases e1:2 * s + 1 = y
  ·subst e1
   rw [if_pos ⟨rfl,by omega⟩,if_pos (by omega),if_neg (by omega),show (2 * s + 1) / 2 = s by omega]
  ·rw [if_neg fun q=>e1 q.1]
   by_cases e2:2 * s = y
   ·subst e2
    rw [if_pos ⟨rfl,by omega⟩,if_pos (by omega),if_pos (by omega),show 2 * s / 2 = s by omega]
   ·rw [if_neg fun q=>e2 q.1]
    by_cases q:y < 2 * s
    ·rw [if_pos q,if_pos (show y < 2 * (s + 1) by omega)]
    ·rw [if_neg q,if_neg (by omega)]
theorem fgS_at {y:Nat}:∀ s,s <= 16 -> gi (fgS s) y = if y < 2 * s then (if y % 2 = 0 then (y:Int) + 1 else (y:Int) - 1) else 0
 | 0,_=>by simp only [fgS]; rw [gi_rep]; simp
 | s + 1,hs=>by
  have l:=fgS_len s
  have e:fgS (s + 1) = ((fgS s).set (2 * s) (2 * s + 1)).set (2 * s + 1) (2 * s):=rfl
  rw [e,gi_set,gi_set,List.length_set,l,fgS_at s (by omega)]
  by_cases e1:2 * s + 1 = y
  ·subst e1
   rw [if_pos ⟨rfl,by omega⟩,if_pos (by omega),if_neg (by omega)]; omega
  ·rw [if_neg fun q=>e1 q.1]
   by_cases e2:2 * s = y
   ·subst e2
    rw [if_pos ⟨rfl,by omega⟩,if_pos (by omega),if_pos (by omega)]; omega
   ·rw [if_neg fun q=>e2 q.1]
    by_cases q:y < 2 * s
    ·rw [if_pos q,if_pos (show y < 2 * (s + 1) by omega)]
    ·rw [if_neg q,if_neg (by omega)]
structure Cl (n:Int) (b w:List Int):Prop where
 Z:Dz n b w
 pr:∀ x,x < n.toNat -> fp w x ≠ x /\ fp w (fp w x) = x
variable (h:Cl n b w)
include h
theorem Cl.nn:1 <= n.toNat /\ n.toNat <= 16 /\ ((n.toNat:Nat):Int) = n /\ (2 * n).toNat = 2 * n.toNat:=by have:=h.Z.B.hn; omega
theorem Cl.bl {x:Nat} (hx:x < n.toNat):fp b x < n.toNat:=h.Z.B.pf.lt x hx
theorem Cl.wl {x:Nat} (hx:x < n.toNat):fp w x < n.toNat:=h.Z.W.pf.lt x hx
theorem Cl.gb (x:Nat):gi b x = (fp b x:Int):=fp_nn h.Z.B.lo x
theorem Cl.gw (x:Nat):gi w x = (fp w x:Int):=fp_nn h.Z.W.lo x
theorem Cl.c0 {x:Nat} (hx:x < n.toNat):fp (fgC w n.toNat) (2 * x) = 2 * fp w x + 1:=by
 have:=h.nn
 unfold fp
 rw [fgC_at _ (by omega),if_pos (by omega),if_pos (by omega),show 2 * x / 2 = x by omega,h.gw]; omega
theorem Cl.c1 {x:Nat} (hx:x < n.toNat):fp (fgC w n.toNat) (2 * x + 1) = 2 * fp w x:=by
 have:=h.nn
 unfold fp
 rw [fgC_at _ (by omega),if_pos (by omega),if_neg (by omega),show (2 * x + 1) / 2 = x by omega,h.gw]; omega
theorem Cl.s0 {x:Nat} (hx:x < n.toNat):fp (fgS n.toNat) (2 * x) = 2 * x + 1:=by
 have:=h.nn
 unfold fp
 rw [fgS_at _ (by omega),if_pos (by omega),if_pos (by omega)]; omega
theorem Cl.s1 {x:Nat} (hx:x < n.toNat):fp (fgS n.toNat) (2 * x + 1) = 2 * x:=by
 have:=h.nn
 unfold fp
 rw [fgS_at _ (by omega),if_pos (by omega),if_neg (by omega)]; omega
theorem Cl.tAt:∀ s,s <= n.toNat -> (∀ y,y < s -> gi (fgT b s) (2 * y + 1) = 2 * fp b y) /\ (∀ y,y < s -> gi (fgT b s) (2 * fp b y) = 2 * y + 1) /\ ∀ i,2 * n.toNat <= i -> gi (fgT b s) i = 0
 | 0,_=>⟨fun y hy=>absurd hy (Nat.not_lt_zero y),fun y hy=>absurd hy (Nat.not_lt_zero y),fun i _=>by simp only [fgT]; rw [gi_rep]; split <;> rfl⟩
 | s + 1,hs=>by
  obtain ⟨i1,i2,i3⟩:=Cl.tAt s (by omega)
  have l:=fgT_len (b:=b) s
  have nn:=h.nn
  have hb:=h.bl (x:=s) (by omega)
  have eg:(gi b s).toNat = fp b s:=rfl
  have e:fgT b (s + 1) = ((fgT b s).set (2 * s + 1) (2 * gi b s)).set (2 * fp b s) (2 * s + 1):=rfl
  rw [e,h.gb]
  refine ⟨fun y hy=>?_,fun y hy=>?_,fun i hi=>?_⟩
  ·rw [gi_set,if_neg (by omega),gi_set,l]
   by_cases e1:y = s
   ·subst e1; rw [if_pos ⟨rfl,by omega⟩]
   ·rw [if_neg (by omega),i1 y (by omega)]
  ·rw [gi_set,List.length_set,l]
   by_cases e1:y = s
   ·subst e1; rw [if_pos ⟨rfl,by omega⟩]
   ·rw [if_neg fun q=>e1 (h.Z.B.pf.inj y s (by omega) (by omega) (by omega)),gi_set,if_neg (by omega),i2 y (by omega)]
  ·rw [gi_set,if_neg (by omega),gi_set,if_neg (by omega),i3 i hi]
theorem Cl.t1 {x:Nat} (hx:x < n.toNat):fp (fgT b n.toNat) (2 * x + 1) = 2 * fp b x:=by
 have:=(h.tAt n.toNat (Nat.le_refl _)).1 x hx
 unfold fp at this ⊢
 rw [this]; omega
theorem Cl.t0 {x:Nat} (hx:x < n.toNat):fp (fgT b n.toNat) (2 * fp b x) = 2 * x + 1:=by
 have:=(h.tAt n.toNat (Nat.le_refl _)).2.1 x hx
 show (gi _ _).toNat = _
 rw [this]; omega
theorem Cl.cases {y:Nat} (hy:y < 2 * n.toNat):∃ x,x < n.toNat /\ (y = 2 * x ∨ y = 2 * x + 1):=⟨y / 2,by omega,by omega⟩
theorem Cl.casesT {y:Nat} (hy:y < 2 * n.toNat):∃ x,x < n.toNat /\ (y = 2 * fp b x ∨ y = 2 * x + 1):=by
 obtain ⟨x,hx,e | e⟩:=h.cases hy
 ·obtain ⟨z,hz,rfl⟩:=h.Z.B.pf.onto hx
  exact ⟨z,hz,.inl e⟩
 ·exact ⟨x,hx,.inr e⟩
theorem Cl.lC:fl32 (fgC w n.toNat):=fgC_lo h.Z.W.lo _ h.nn.2.1
theorem Cl.lT:fl32 (fgT b n.toNat):=fgT_lo h.Z.B.lo _ h.nn.2.1
theorem Cl.lS:fl32 (fgS n.toNat):=fgS_lo _ h.nn.2.1
omit h in
theorem fl32.nn {l:List Int} (hl:fl32 l) (x:Nat):0 <= gi l x:=by
 by_cases q:x < 32
 ·exact (hl.2 x q).1
 ·rw [gi_over (by rw [hl.1]; omega)]; omega
theorem Cl.iC:Iv (fgC w n.toNat) (2 * n).toNat:=by
 obtain ⟨_,_,_,e⟩:=h.nn
 rw [e]
 refine ⟨fun y hy=>?_,fun y hy=>?_,fun y hy=>?_,h.lC.nn⟩
 all_goals
  obtain ⟨x,hx,rfl | rfl⟩:=h.cases hy
  all_goals
   have hw:=h.wl hx
   obtain ⟨p1,p2⟩:=h.pr x hx
 ·rw [h.c0 hx]; omega
 ·rw [h.c1 hx]; omega
 ·rw [h.c0 hx]; omega
 ·rw [h.c1 hx]; omega
 ·rw [h.c0 hx,h.c1 hw,p2]
 ·rw [h.c1 hx,h.c0 hw,p2]
theorem Cl.iS:Iv (fgS n.toNat) (2 * n).toNat:=by
 obtain ⟨_,_,_,e⟩:=h.nn
 rw [e]
 refine ⟨fun y hy=>?_,fun y hy=>?_,fun y hy=>?_,h.lS.nn⟩
 all_goals obtain ⟨x,hx,rfl | rfl⟩:=h.cases hy
 ·rw [h.s0 hx]; omega
 ·rw [h.s1 hx]; omega
 ·rw [h.s0 hx]; omega
 ·rw [h.s1 hx]; omega
 ·rw [h.s0 hx,h.s1 hx]
 ·rw [h.s1 hx,h.s0 hx]
theorem Cl.iT:Iv (fgT b n.toNat) (2 * n).toNat:=by
 obtain ⟨_,_,_,e⟩:=h.nn
 rw [e]
 refine ⟨fun y hy=>?_,fun y hy=>?_,fun y hy=>?_,h.lT.nn⟩
 all_goals
  obtain ⟨x,hx,rfl | rfl⟩:=h.casesT hy
  all_goals have hb:=h.bl hx
 ·rw [h.t0 hx]; omega
 ·rw [h.t1 hx]; omega
 ·rw [h.t0 hx]; omega
 ·rw [h.t1 hx]; omega
 ·rw [h.t0 hx,h.t1 hx]
 ·rw [h.t1 hx,h.t0 hx]
theorem Cl.ev:n % 2 = 0:=by
 have iv:Iv w n.toNat:=⟨fun x hx=>h.wl hx,fun x hx=>(h.pr x hx).1,fun x hx=>(h.pr x hx).2,lo16_nn h.Z.W.lo⟩
 have:=smE_even iv (g:=fun _=>1) fun x hx=>rfl
 rw [smE_const] at this
 have:=h.nn
 omega
theorem Cl.toDart {L:List (List Int)} {y:Nat} (hs:fgS n.toNat ∈ L) (hy:y < 2 * n.toNat):Rl L y (2 * (y / 2)):=by
 obtain ⟨x,hx,rfl | rfl⟩:=h.cases hy
 ·rw [show 2 * x / 2 = x by omega]; exact .refl
 ·have:=Rl.one (L:=L) (x:=2 * x + 1) hs
  rw [h.s1 hx] at this
  rw [show (2 * x + 1) / 2 = x by omega]; exact this
theorem Cl.fls:Fls (2 * n) (fgC w n.toNat) (fgT b n.toNat) (fgS n.toNat):=by
 obtain ⟨n1,n2,n3,e⟩:=h.nn
 have ev:=h.ev
 have iC:=h.iC
 have iT:=h.iT
 have iS:=h.iS
 have out:∀ {l:List Int},(∀ x:Nat,2 * n.toNat <= x -> gi l x = 0) -> ∀ x:Nat,2 * n <= x -> gi l x = 0:=fun hl x hx=>hl x (by omega)
 have pC:Prs (fgC w n.toNat) (2 * n):=Prs.of iC (out fun x hx=>by rw [fgC_at _ n2,if_neg (by omega)]) (by omega)
 have pS:Prs (fgS n.toNat) (2 * n):=Prs.of iS (out fun x hx=>by rw [fgS_at _ n2,if_neg (by omega)]) (by omega)
 have pT:Prs (fgT b n.toNat) (2 * n):=Prs.of iT (out fun x hx=>(h.tAt n.toNat (Nat.le_refl _)).2.2 x hx) (by omega)
 refine Fl.fo ⟨⟨by omega,by omega⟩,by omega,pC,pT,pS,fun y hy=>?_,fun y hy=>?_,?_⟩ h.lC.ok h.lT.ok h.lS.ok
 ·obtain ⟨x,hx,rfl | rfl⟩:=h.cases (y:=y) (by omega)
  ·have hw:=h.wl hx
   have a1:=h.c0 hx
   have a2:=h.s1 hw
   have a3:=h.s0 hx
   have a4:=h.c1 hx
   have b1:=h.lS.nn (2 * fp w x + 1)
   have b2:=h.lC.nn (2 * x + 1)
   rw [<-a1] at a2 b1
   rw [<-a3] at a4 b2
   unfold fp at *; omega
  ·have hw:=h.wl hx
   have a1:=h.c1 hx
   have a2:=h.s0 hw
   have a3:=h.s1 hx
   have a4:=h.c0 hx
   have b1:=h.lS.nn (2 * fp w x)
   have b2:=h.lC.nn (2 * x)
   rw [<-a1] at a2 b1
   rw [<-a3] at a4 b2
   unfold fp at *; omega
 ·obtain ⟨x,hx,rfl | rfl⟩:=h.cases (y:=y) (by omega)
  ·have hw:=h.wl hx
   obtain ⟨p1,p2⟩:=h.pr x hx
   have a1:=h.c0 hx
   have a2:=h.s1 hw
   rw [<-a1] at a2
   unfold fp at *; omega
  ·have hw:=h.wl hx
   obtain ⟨p1,p2⟩:=h.pr x hx
   have a1:=h.c1 hx
   have a2:=h.s0 hw
   rw [<-a1] at a2
   unfold fp at *; omega
 ·refine (obs_one (by omega) (by omega) (ivs3 iC iT iS)).2 fun y hy=>?_
  have hv:=ivs3 iC iT iS
  have key:∀ x,x < n.toNat -> Rl [fgC w n.toNat,fgT b n.toNat,fgS n.toNat] 0 (2 * x):=h.Z.alls .refl (fun x hx r=>by
   have r1:=r.step (l:=fgS n.toNat) (by simp)
   rw [h.s0 hx] at r1
   have r2:=r1.step (l:=fgT b n.toNat) (by simp)
   rw [h.t1 hx] at r2
   exact r2) fun x hx r=>by
   have r1:=r.step (l:=fgS n.toNat) (by simp)
   rw [h.s0 hx] at r1
   have r2:=r1.step (l:=fgC w n.toNat) (by simp)
   rw [h.c1 hx] at r2
   exact r2
  have hy2:y < 2 * n.toNat:=by omega
  have r1:=h.toDart (L:=[fgC w n.toNat,fgT b n.toNat,fgS n.toNat]) (by simp) hy2
  exact (key (y / 2) (by omega)).trans (r1.symm hv hy)
def clp (n:Int):List Int:=(List.range 32).map fun x:Nat=>if x < 2 * n.toNat then (if x % 2 = 0 then 1 else 2) else 0
omit h in
theorem clp_at {x:Nat} (hx:x < 32):gi (clp n) x = if x < 2 * n.toNat then (if x % 2 = 0 then 1 else 2) else 0:=by
 rw [gi_of (by simp [clp]; exact hx)]; simp [clp]
theorem Cl.col:Clr [fgC w n.toNat,fgT b n.toNat,fgS n.toNat] (2 * n).toNat (clp n):=by
 obtain ⟨n1,n2,n3,e⟩:=h.nn
 have z0:∀ x,x < n.toNat -> gi (clp n) (2 * x) = 1:=fun x hx=>by rw [clp_at (by omega),if_pos (by omega),if_pos (by omega)]
 have z1:∀ x,x < n.toNat -> gi (clp n) (2 * x + 1) = 2:=fun x hx=>by rw [clp_at (by omega),if_pos (by omega),if_neg (by omega)]
 rw [e]
 refine ⟨by simp [clp],z0 0 (by omega),fun y hy=>?_,fun y hy l hl=>?_,fun y hy=>?_⟩
 ·obtain ⟨x,hx,rfl | rfl⟩:=h.cases hy
  ·exact .inl (z0 x hx)
  ·exact .inr (z1 x hx)
 ·simp only [List.mem_cons,List.not_mem_nil,or_false] at hl
  rcases hl with rfl | rfl | rfl
  ·obtain ⟨x,hx,rfl | rfl⟩:=h.cases hy
   ·rw [h.c0 hx,z1 _ (h.wl hx),z0 x hx]; rfl
   ·rw [h.c1 hx,z0 _ (h.wl hx),z1 x hx]; rfl
  ·obtain ⟨x,hx,rfl | rfl⟩:=h.casesT hy
   ·rw [h.t0 hx,z1 x hx,z0 _ (h.bl hx)]; rfl
   ·rw [h.t1 hx,z0 _ (h.bl hx),z1 x hx]; rfl
  ·obtain ⟨x,hx,rfl | rfl⟩:=h.cases hy
   ·rw [h.s0 hx,z1 x hx,z0 x hx]; rfl
   ·rw [h.s1 hx,z0 x hx,z1 x hx]; rfl
 ·by_cases q:y < 32
  ·rw [clp_at q,if_neg (by omega)]
  ·rw [gi_over (by simp [clp]; omega)]
theorem Cl.fmp:Fmp (2 * n) (fgC w n.toNat) (fgT b n.toNat) (fgS n.toNat) (clp n):=⟨h.fls,h.col⟩
theorem Cl.some:∃ q,clsR [fgC w n.toNat,fgT b n.toNat,fgS n.toNat] = Option.some (q,clp n):=by
 have F:=h.fls
 exact clsR_some F.h32.1 (by have:=F.h32; omega) (ivs3 F.iC F.iT F.iS) F.all h.col
theorem Cl.num:∀ x,x <= n.toNat -> nbC (clp n) (2 * x) = x
 | 0,_=>rfl
 | x + 1,hx=>by
  have nn:=h.nn
  have ih:=Cl.num x (by omega)
  rw [show 2 * (x + 1) = 2 * x + 1 + 1 by omega,nbC_succ,nbC_succ,ih,clp_at (by omega),clp_at (by omega),if_pos (by omega:2 * x < 2 * n.toNat),if_pos (by omega:2 * x % 2 = 0),if_pos rfl,if_pos (by omega:2 * x + 1 < 2 * n.toNat),if_neg (by omega:¬ (2 * x + 1) % 2 = 0),if_neg (by decide)]
  omega
theorem Cl.one {x:Nat} (hx:x < n.toNat):gi (clp n) (2 * x) = 1:=by have:=h.nn; rw [clp_at (by omega),if_pos (by omega),if_pos (by omega)]
theorem Cl.back (okb:okP b) (okw:okP w):nbC (clp n) (2 * n).toNat = n /\ mpB (clp n) (fgT b n.toNat) (fgS n.toNat) (2 * n).toNat = b /\ mpB (clp n) (fgC w n.toNat) (fgS n.toNat) (2 * n).toNat = w:=by
 obtain ⟨n1,n2,n3,e⟩:=h.nn
 have M:=h.fmp
 have hN:nbC (clp n) (2 * n).toNat = n:=by rw [e,h.num n.toNat (Nat.le_refl _)]; omega
 refine ⟨hN,?_,?_⟩
 ·refine pm_ext (n:=n) (M.lo _) h.Z.B.lo (fun j hj=>M.out _ (by rw [hN]; exact hj)) (fun j hj=>pm_out h.Z.D.pb h.Z.B.lo.1 hj) fun x hx=>?_
  have hb:=h.bl hx
  have:=M.vfp M.ft (h.one hx)
  rw [h.s0 hx,h.t1 hx,h.num x (by omega),h.num _ (by omega)] at this
  simpa using this
 ·refine pm_ext (n:=n) (M.lo _) h.Z.W.lo (fun j hj=>M.out _ (by rw [hN]; exact hj)) (fun j hj=>pm_out h.Z.D.pw h.Z.W.lo.1 hj) fun x hx=>?_
  have hw:=h.wl hx
  have:=M.vfp M.fc (h.one hx)
  rw [h.s0 hx,h.c1 hx,h.num x (by omega),h.num _ (by omega)] at this
  simpa using this
theorem Cl.kR {L:List (List Int)} {p:List Int} (hv:Ivs L (2 * n).toNat) (hp:Pf p n.toNat) (δ:Nat -> Nat) (d0:∀ x,x < n.toNat -> δ (2 * x) = x) (dl:∀ y,y < 2 * n.toNat -> δ y < n.toNat)
  (hst:∀ y,y < 2 * n.toNat -> ∀ l ∈ L,Rch p (δ y) (δ (fp l y))) (hb:∀ y,y < 2 * n.toNat -> Rl L y (2 * δ y)) (hq:∀ x,x < n.toNat -> Rl L (2 * x) (2 * fp p x)):Sep.kR (Rl L) (2 * n).toNat = Sep.kR (Rch p) n.toNat:=by
 obtain ⟨n1,n2,n3,e⟩:=h.nn
 refine kR_map (Rl.eqv hv) hp.eqv δ (fun x=>2 * x) (fun y hy=>dl y (by omega)) (fun x hx=>⟨by omega,d0 x hx⟩) fun i j hi hj=>⟨fun r=>?_,fun r=>?_⟩
 ·clear hj
  induction r with
  | refl=>exact .refl
  | step r hl ih=>exact ih.trans (hst _ (by have:=r.lt hv hi; omega) _ hl)
 ·have hi':i < 2 * n.toNat:=by omega
  have hj':j < 2 * n.toNat:=by omega
  obtain ⟨k,hk⟩:=r
  have key:∀ k,Rl L (2 * δ i) (2 * it p k (δ i)):=fun k=>by
   induction k with
   | zero=>exact .refl
   | succ k ih=>exact ih.trans (hq _ (it_lt hp (dl i hi') k))
  have:=key k
  rw [hk] at this
  exact ((hb i hi').trans this).trans ((hb j hj').symm hv hj)
theorem Cl.half:2 * ((cyc w n).length:Int) = n:=by
 obtain ⟨n1,n2,n3,e⟩:=h.nn
 have iv:Iv w n.toNat:=⟨fun x hx=>h.wl hx,fun x hx=>(h.pr x hx).1,fun x hx=>(h.pr x hx).2,lo16_nn h.Z.W.lo⟩
 have h1:=smE_even iv (g:=fun _=>1) fun x hx=>rfl
 rw [smE_const] at h1
 have h2:=h.Z.W.cyc_kR
 have h3:Sep.kR (Rch w) n.toNat = smE n.toNat fun x=>if x < fp w x then (1:Int) else 0:=by
  unfold Sep.kR
  refine smE_congr _ fun x hx=>?_
  obtain ⟨p1,p2⟩:=h.pr x hx
  have orb:∀ j,Rch w j x -> j < n.toNat -> j = x ∨ j = fp w x:=fun j ⟨k,hk⟩ hj=>by
   have:∀ k,it w k j = j ∨ it w k j = fp w j:=fun k=>by
    induction k with
    | zero=>exact .inl rfl
    | succ k ih =>
     simp only [it]
     rcases ih with e | e
     ·rw [e]; exact .inr rfl
     ·rw [e,(h.pr j hj).2]; exact .inl rfl
   rcases this k with e | e
   ·left; omega
   ·right
    rw [<-hk,e,(h.pr j hj).2]
  by_cases q:x < fp w x
  ·rw [if_pos q,if_pos fun j hj r=>by
    rcases orb j r (by omega) with e | e <;> omega]
  ·rw [if_neg q,if_neg fun z=>z (fp w x) (by omega) ⟨1,by simp only [it]; exact p2⟩]
 rw [h2,h3]
 omega
theorem Cl.eul:euF (2 * n) (fgC w n.toNat) (fgT b n.toNat) (fgS n.toNat) = eulN n b w:=by
 obtain ⟨n1,n2,n3,e⟩:=h.nn
 have F:=h.fls
 have f4:=F.four
 have hw:=h.half
 have hn:=h.Z.B.hn
 have k1:=obs_kR F.h32.1 (ivs2 F.iT F.iS)
 have k3:=obs_kR F.h32.1 (ivs2 F.iT F.iC)
 have P:Pd (thenP w b n) n:=pd_of hn (thenP_lo h.Z.W.lo h.Z.B.lo hn) (then_pf hn h.Z.W.pf h.Z.B.pf)
 have q1:Sep.kR (Rl [fgT b n.toNat,fgS n.toNat]) (2 * n).toNat = Sep.kR (Rch b) n.toNat:=by
  refine h.kR (ivs2 F.iT F.iS) h.Z.B.pf (fun y=>y / 2) (fun x hx=>by omega) (fun y hy=>by omega) (fun y hy l hl=>?_) (fun y hy=>h.toDart (by simp) hy) fun x hx=>?_
  ·simp only [List.mem_cons,List.not_mem_nil,or_false] at hl
   rcases hl with rfl | rfl
   ·obtain ⟨x,hx,rfl | rfl⟩:=h.casesT hy
    ·rw [h.t0 hx,show 2 * fp b x / 2 = fp b x by omega,show (2 * x + 1) / 2 = x by omega]
     exact Rch.symm h.Z.B.pf hx ⟨1,rfl⟩
    ·rw [h.t1 hx,show 2 * fp b x / 2 = fp b x by omega,show (2 * x + 1) / 2 = x by omega]
     exact ⟨1,rfl⟩
   ·obtain ⟨x,hx,rfl | rfl⟩:=h.cases hy
    ·rw [h.s0 hx,show 2 * x / 2 = x by omega,show (2 * x + 1) / 2 = x by omega]; exact .refl
    ·rw [h.s1 hx,show 2 * x / 2 = x by omega,show (2 * x + 1) / 2 = x by omega]; exact .refl
  ·have r1:=Rl.one (L:=[fgT b n.toNat,fgS n.toNat]) (l:=fgS n.toNat) (x:=2 * x) (by simp)
   rw [h.s0 hx] at r1
   have r2:=r1.step (l:=fgT b n.toNat) (by simp)
   rw [h.t1 hx] at r2
   exact r2
 have q3:Sep.kR (Rl [fgT b n.toNat,fgC w n.toNat]) (2 * n).toNat = Sep.kR (Rch (thenP w b n)) n.toNat:=by
  have d0:∀ x,(if 2 * x % 2 = 0 then 2 * x / 2 else fp w (2 * x / 2)) = x:=fun x=>by rw [if_pos (by omega)]; omega
  have d1:∀ x,(if (2 * x + 1) % 2 = 0 then (2 * x + 1) / 2 else fp w ((2 * x + 1) / 2)) = fp w x:=fun x=>by rw [if_neg (by omega),show (2 * x + 1) / 2 = x by omega]
  have st:∀ x,x < n.toNat -> Rch (thenP w b n) (fp w x) (fp b x):=fun x hx=>⟨1,by simp only [it]; rw [then_fp hn (h.wl hx),(h.pr x hx).2]⟩
  refine h.kR (ivs2 F.iT F.iC) P.pf (fun y=>if y % 2 = 0 then y / 2 else fp w (y / 2)) (fun x hx=>d0 x) (fun y hy=>?_) (fun y hy l hl=>?_) (fun y hy=>?_) fun x hx=>?_
  ·obtain ⟨x,hx,rfl | rfl⟩:=h.cases hy
   ·rw [d0]; exact hx
   ·rw [d1]; exact h.wl hx
  ·simp only [List.mem_cons,List.not_mem_nil,or_false] at hl
   rcases hl with rfl | rfl
   ·obtain ⟨x,hx,rfl | rfl⟩:=h.casesT hy
    ·rw [h.t0 hx,d0,d1]
     exact Rch.symm P.pf (h.wl hx) (st x hx)
    ·rw [h.t1 hx,d0,d1]
     exact st x hx
   ·obtain ⟨x,hx,rfl | rfl⟩:=h.cases hy
    ·rw [h.c0 hx,d0,d1,(h.pr x hx).2]; exact .refl
    ·rw [h.c1 hx,d0,d1]; exact .refl
  ·obtain ⟨x,hx,rfl | rfl⟩:=h.cases hy
   ·rw [d0]; exact .refl
   ·rw [d1]
    have r1:=Rl.one (L:=[fgT b n.toNat,fgC w n.toNat]) (l:=fgC w n.toNat) (x:=2 * x + 1) (by simp)
    rw [h.c1 hx] at r1
    exact r1
  ·have r1:=Rl.one (L:=[fgT b n.toNat,fgC w n.toNat]) (l:=fgC w n.toNat) (x:=2 * x) (by simp)
   rw [h.c0 hx] at r1
   have r2:=r1.step (l:=fgT b n.toNat) (by simp)
   rw [h.t1 (h.wl hx)] at r2
   rw [then_fp hn hx]
   exact r2
 have c1:=h.Z.B.cyc_kR
 have c2:=P.cyc_kR
 have c3:=lens_nC h.Z.lf_swap
 have c4:=lens_nC (back_lens P)
 have c5:faceP w b n = backP (thenP w b n) n:=rfl
 rw [c5] at c3
 unfold euF eulN
 omega
end
end
section
set_option maxHeartbeats 16000000
theorem vleq96r {l:List Int} (hl:l.length = 96):vleq [.i .u8,.i .u8,.i .u8,.i .u8,.i .u8,.i .u8,.i .u8,.i .u8,.i .u8,.i .u8,.i .u8,.i .u8,.i .u8,.i .u8,.i .u8,.i .u8,.i .u8,.i .u8,.i .u8,.i .u8,.i .u8,.i .u8,.i .u8,.i .u8,.i .u8,.i .u8,.i .u8,.i .u8,.i .u8,.i .u8,.i .u8,.i .u8,.i .u8,.i .u8,.i .u8,.i .u8,.i .u8,.i .u8,.i .u8,.i .u8,.i .u8,.i .u8,.i .u8,.i .u8,.i .u8,.i .u8,.i .u8,.i .u8,.i .u8,.i .u8,.i .u8,.i .u8,.i .u8,.i .u8,.i .u8,.i .u8,.i .u8,.i .u8,.i .u8,.i .u8,.i .u8,.i .u8,.i .u8,.i .u8,.i .u8,.i .u8,.i .u8,.i .u8,.i .u8,.i .u8,.i .u8,.i .u8,.i .u8,.i .u8,.i .u8,.i .u8,.i .u8,.i .u8,.i .u8,.i .u8,.i .u8,.i .u8,.i .u8,.i .u8,.i .u8,.i .u8,.i .u8,.i .u8,.i .u8,.i .u8,.i .u8,.i .u8,.i .u8,.i .u8,.i .u8,.i .u8] (vi .u8 l) (vi .u8 l) = some true:=by
 have:=vleqT (k:=.u8) (l:=l) (m:=l) rfl
 rw [hl] at this
 simp only [decide_true] at this
 exact this
theorem c_laws_likeIntsN:PSpec Tryz.prog 38 [.nils,.nils] fun v=>v = .bool true:=by
 refine laws_likeInts_f.f ?_
 dsimp only [laws_likeInts_F,pcal_B,pcalp_B,pcala_B,pcond_B,pgk_B,JN_B,LP_B]
 (refine bni ?_; repeat (refine bnk ?_; (try simp (disch:=first | omega | (simp only [LN]; omega)) only [↓EC,EW,seval,↓reduceIte,↓EBD,EBE])))
 refine LPx_of (σ:=Nat) 100000 [] (fun s=>[.int .i64 s]) (fun s=>[]) (fun s=>s = 0) (fun s=>0) 0 (by simp [frameOk,names,lpz,sclp,scv,scvs,nrfs,nrf,FRB]) rfl ?_ ?_
 ·(refine bni ?_; repeat (refine bnk ?_; simp (disch:=first | omega | (simp only [LN]; omega)) only [↓EC,EW,seval,↓reduceIte,↓EBD,EBE,ColV_def]))
  try rfl
 ·rintro s rfl
  (refine bni ?_; repeat (refine bnk ?_; simp (disch:=first | omega | (simp only [LN]; omega)) only [↓EC,EW,seval,↓reduceIte,↓EBD,EBE,ColV_def,lheap_def]))
  try rfl
theorem c_spec_AreFlags {n:Int} {C T S:List Int} (hC:fo32 C) (hT:fo32 T) (hS:fo32 S):PSpec Tryz.prog 34 [vF n C T S] fun v=>v = .bool (flB n C T S):=by
 have hCl:=hC.1
 have hTl:=hT.1
 have hSl:=hS.1
 have hcts:(C ++ T ++ S).length = 96:=by simp [hCl,hTl,hSl]
 have k1:=c_spec_l07Are (n:=n) hC hT hS
 refine spec_AreFlags_f.f ?_
 unfold vF at *
 dsimp only [spec_AreFlags_F,pcal_B,pcalp_B,pcala_B,pcond_B,pgk_B,JN_B,LP_B]
 (refine bni ?_; repeat (refine bnk ?_; (try simp (disch:=first | omega | (simp only [LN]; omega)) only [↓EC,EW,seval,↓reduceIte,↓EBD,EBE])))
 refine pcd_v k1 ?_
 (refine bni ?_; repeat (refine bnk ?_; (try simp (disch:=first | omega | (simp only [LN]; omega)) only [↓EC,EW,seval,↓reduceIte,↓EBD,EBE])))
section
variable {n k:Int} {b w C T S:List Int}
theorem flR_len:(flR n b w).1.2.1.length = 32 /\ (flR n b w).1.2.2.1.length = 32 /\ (flR n b w).1.2.2.2.length = 32:=by
 unfold flR
 split
 ·split
  ·exact ⟨fgC_len _,fgT_len _,fgS_len _⟩
  ·exact ⟨z32_len,z32_len,z32_len⟩
 ·exact ⟨z32_len,z32_len,z32_len⟩
theorem flR_0 (h:(flR n b w).2 = 0):isDB n b w = true /\ clB n w = true /\ flR n b w = ((2 * n,fgC w n.toNat,fgT b n.toNat,fgS n.toNat),0):=by
 cases hd:isDB n b w with
 | false=>rw [flR_no hd] at h; cases h
 | true =>
  cases hc:clB n w with
  | false=>rw [flR_out hd hc] at h; cases h
  | true=>exact ⟨rfl,rfl,flR_in hd hc⟩
theorem tuR_fo (hC:fo32 C) (hT:fo32 T) (hS:fo32 S):fo32 (tuR n C T S k).1.2.1 /\ fo32 (tuR n C T S k).1.2.2.1 /\ fo32 (tuR n C T S k).1.2.2.2:=by
 unfold tuR
 split
 ·rename_i hf
  split
  ·rename_i hk
   have G:=((flB_iff.1 hf).fo hC hT hS).turn hk
   exact ⟨G.c.ok,G.t.ok,G.s.ok⟩
  ·exact ⟨fo_z32,fo_z32,fo_z32⟩
 ·exact ⟨fo_z32,fo_z32,fo_z32⟩
theorem tuR_0 (h:(tuR n C T S k).2 = 0):flB n C T S = true /\ (0 <= k /\ k <= 5) /\ tuR n C T S k = ((n,tuC C S n k,T,tuS C S n k),0):=by
 cases hf:flB n C T S with
 | false=>rw [tuR_no hf] at h; cases h
 | true =>
  by_cases hk:0 <= k /\ k <= 5
  ·exact ⟨rfl,hk,tuR_in hf hk⟩
  ·rw [tuR_out hf hk] at h; cases h
theorem deg_b (F:Fls n C T S) {X:List Int} (iX:Iv X n.toNat):(deg T X n).length <= 16 /\ (∀ a ∈ deg T X n,0 <= a /\ a <= 1000) /\ (deg T X n).sum = n.tdiv 2:=by
 obtain ⟨o1,o2⟩:=F.ob iX
 have h32:=F.h32
 have hs:=deg_sum (T:=T) (X:=X) h32.1 (by omega) F.iT iX
 have h4:=F.F.h4
 have e:n.tdiv 2 = n / 2:=Int.tdiv_eq_ediv_of_nonneg (by omega)
 refine ⟨by rw [deg_len]; exact o2,fun a ha=>?_,by omega⟩
 unfold deg at ha
 rw [dsc_mem] at ha
 unfold hlf at ha
 obtain ⟨x,hx,rfl⟩:=List.mem_map.1 ha
 have:=o1 x hx
 have e2:x.tdiv 2 = x / 2:=Int.tdiv_eq_ediv_of_nonneg (by omega)
 omega
end
theorem c_like {l:List Int} (h:l.length <= 16):PSpec Tryz.prog 38 [.sl l.length (vi .i64 l),.sl l.length (vi .i64 l)] fun v=>v = .bool true:=by
 have:=c_laws_likeIntsT (l:=l) (m:=l) (by omega)
 simp only [decide_true] at this
 exact this
theorem mpR_d {n:Int} {C T S:List Int} (hC:fo32 C) (hT:fo32 T) (hS:fo32 S) (h:(mpR n C T S).2 = 0):okP (mpR n C T S).1.2.1 /\ okP (mpR n C T S).1.2.2 /\ isDB (mpR n C T S).1.1 (mpR n C T S).1.2.1 (mpR n C T S).1.2.2 = true:=by
 obtain ⟨q,e,D⟩:=mpR_0 hC hT hS h
 rw [e]
 exact ⟨D.B.lo.ok,D.W.lo.ok,D.isB⟩
theorem c_FnFlags {x:Value} {l:List Int} (hl:∀ a ∈ l,0 <= a /\ a <= 255):PSpec Tryz.prog 4 [.fz x l] fun v=>v = .bool true:=by
 refine laws_FnFlags_f.f ?_
 dsimp only [laws_FnFlags_F,pcal_B,pcalp_B,pcala_B,pcond_B,pgk_B,JN_B,LP_B]
 (refine bni ?_; repeat (refine bnk ?_; (try simp (disch:=first | omega | (simp only [LN]; omega)) only [↓EC,EW,seval,↓reduceIte,↓EBD,EBE])))
 refine pcd_v c_laws_bigT ?_
 (refine bni ?_; repeat (refine bnk ?_; (try simp (disch:=first | omega | (simp only [LN]; omega)) only [↓EC,EW,seval,↓reduceIte,↓EBD,EBE])))
 (refine Split.mkB (fun h=>?_) (fun h=>?_) <;> (try simp only [SD] at h))
 ·(refine bni ?_; repeat (refine bnk ?_; (try simp (disch:=first | omega | (simp only [LN]; omega)) only [↓EC,EW,seval,↓reduceIte,↓EBD,EBE])))
 have hll:l.length <= 4096:=by omega
 have hB:okB l:=⟨by omega,hl⟩
 (refine bni ?_; repeat (refine bnk ?_; (try simp (disch:=first | omega | (simp only [LN]; omega)) only [↓EC,EW,seval,↓reduceIte,↓EBD,EBE])))
 refine pcd_r (c_spec_DrawFlagsOf hB) ?_
 rintro _ ⟨n,b,w,rfl,hb,hw,hn1,hn2⟩
 have hbl:=hb.1
 have hwl:=hw.1
 have i1:=c_impl_FlagsOf (n:=n) hb hw
 have s1:=c_spec_FlagsOf (n:=n) hb hw
 obtain ⟨x1,x2,x3⟩:=flR_len (n:=n) (b:=b) (w:=w)
 have ex0:=fun h=>flR_0 (n:=n) (b:=b) (w:=w) h
 simp only [vFC,vF,vD] at i1 s1
 generalize flR n b w = r at *
 have v1:=vleq96r (l:=r.1.2.1 ++ r.1.2.2.1 ++ r.1.2.2.2) (by simp [x1,x2,x3])
 (refine bni ?_; repeat (refine bnk ?_; (try simp (disch:=first | omega | (simp only [LN]; omega)) only [↓EC,EW,seval,↓reduceIte,↓EBD,EBE,vD])))
 refine pcd_v i1 ?_
 (refine bni ?_; repeat (refine bnk ?_; (try simp (disch:=first | omega | (simp only [LN]; omega)) only [↓EC,EW,seval,↓reduceIte,↓EBD,EBE])))
 refine pcd_v s1 ?_
 (refine bni ?_; repeat (refine bnk ?_; (try simp (disch:=first | omega | (simp only [LN]; omega)) only [↓EC,EW,seval,↓reduceIte,↓EBD,EBE,v1])))
 refine JNx_of (fun o h=>o = [.fz x l] /\ Fre 82 h) ?_ ?_
 ·intro K hK
  (refine bni ?_; repeat (refine bnk ?_; (try simp (disch:=first | omega | (simp only [LN]; omega)) only [↓EC,EW,seval,↓reduceIte,↓EBD,EBE])))
  (refine Split.mkB (fun h=>?_) (fun h=>?_) <;> (try simp only [SD] at h))
  ·obtain ⟨hd,hc,rfl⟩:=ex0 h
   have D:=(isDB_iff.1 hd).dz hb hw
   have hn:=D.B.hn
   have Q:Cl n b w:=⟨D,D.W.clB.1 hc⟩
   have F:=Q.fls
   obtain ⟨q,eq⟩:=Q.some
   obtain ⟨k1,k2,k3⟩:=Q.back hb hw
   have g1:=c_impl_IsOrientable (n:=2 * n) F.c.ok F.t.ok F.s.ok
   have g2:=c_impl_EulerOfFlags (n:=2 * n) F.c.ok F.t.ok F.s.ok
   have g3:=c_impl_EulerOf hb hw hd
   have g4:=c_impl_MapOfFlags (n:=2 * n) F.c.ok F.t.ok F.s.ok
   have g5:=c_impl_AreAlike (n:=n) (m:=n) hb hw hb hw
   have g6:=c_impl_AreFlags (n:=2 * n) F.c.ok F.t.ok F.s.ok
   have fb:=flB_yes F.F
   have eo:orR (2 * n) (fgC w n.toNat) (fgT b n.toNat) (fgS n.toNat) = (true,0):=by simp [orR,fb,eq]
   have em:mpR (2 * n) (fgC w n.toNat) (fgT b n.toNat) (fgS n.toNat) = ((n,b,w),0):=by simp only [mpR,fb,if_true,mpR0,eq,k1,k2,k3]
   have ea:akR n n b w b w = (true,0):=by
    have:Alk n b w b w:=(can_alk D D).1 rfl
    simp [akR,akB,hd,this]
   rw [eo] at g1
   rw [euR_yes fb,Q.eul] at g2
   rw [em] at g4
   rw [ea] at g5
   rw [fb] at g6
   simp only [vDC,vF,vD] at g1 g2 g3 g4 g5 g6
   have m1:=F.c.1
   have m2:=F.t.1
   have m3:=F.s.1
   clear em eo k1 k2 k3 eq fb
   generalize fgC w n.toNat = C at *
   generalize fgT b n.toNat = T at *
   generalize fgS n.toNat = S at *
   (refine bni ?_; repeat (refine bnk ?_; (try simp (disch:=first | omega | (simp only [LN]; omega)) only [↓EC,EW,seval,↓reduceIte,↓EBD,EBE])))
   refine pcd_v g1 ?_
   (refine bni ?_; repeat (refine bnk ?_; (try simp (disch:=first | omega | (simp only [LN]; omega)) only [↓EC,EW,seval,↓reduceIte,↓EBD,EBE])))
   refine pcd_v g2 ?_
   (refine bni ?_; repeat (refine bnk ?_; (try simp (disch:=first | omega | (simp only [LN]; omega)) only [↓EC,EW,seval,↓reduceIte,↓EBD,EBE])))
   refine pcd_v g3 ?_
   (refine bni ?_; repeat (refine bnk ?_; (try simp (disch:=first | omega | (simp only [LN]; omega)) only [↓EC,EW,seval,↓reduceIte,↓EBD,EBE])))
   refine pcd_v g4 ?_
   (refine bni ?_; repeat (refine bnk ?_; (try simp (disch:=first | omega | (simp only [LN]; omega)) only [↓EC,EW,seval,↓reduceIte,↓EBD,EBE])))
   refine pcd_v g5 ?_
   (refine bni ?_; repeat (refine bnk ?_; (try simp (disch:=first | omega | (simp only [LN]; omega)) only [↓EC,EW,seval,↓reduceIte,↓EBD,EBE])))
   refine pcd_v g6 ?_
   (refine bni ?_; repeat (refine bnk ?_; (try simp (disch:=first | omega | (simp only [LN]; omega)) only [↓EC,EW,seval,↓reduceIte,↓EBD,EBE])))
   exact hK _ _ ⟨rfl,by repeat' (first | exact Fre.nil | refine Fre.put ?_ (by decide))⟩
  ·(refine bni ?_; repeat (refine bnk ?_; (try simp (disch:=first | omega | (simp only [LN]; omega)) only [↓EC,EW,seval,↓reduceIte,↓EBD,EBE])))
   exact hK _ _ ⟨rfl,by repeat' (first | exact Fre.nil | refine Fre.put ?_ (by decide))⟩
 ·rintro o h0 ⟨rfl,hf⟩
  clear ex0 x1 x2 x3 v1 i1 s1 hb hw hbl hwl hn1 hn2 r
  clear n b w
  have f82:=hf 82 (by decide)
  have f84:=hf 84 (by decide)
  have f86:=hf 86 (by decide)
  have f88:=hf 88 (by decide)
  have f90:=hf 90 (by decide)
  have f92:=hf 92 (by decide)
  have f94:=hf 94 (by decide)
  (refine bni ?_; repeat (refine bnk ?_; (try simp (disch:=first | omega | (simp only [LN]; omega)) only [↓EC,EW,seval,↓reduceIte,↓EBD,EBE])))
  refine pcd_r (c_spec_DrawTurnFlags hB) ?_
  rintro _ ⟨n,C,T,S,k,rfl,hC,hT,hS⟩
  have hCl:=hC.1
  have hTl:=hT.1
  have hSl:=hS.1
  have hcts:(C ++ T ++ S).length = 96:=by simp [hCl,hTl,hSl]
  have i1:=c_impl_TurnFlags (n:=n) (k:=k) hC hT hS
  have s1:=c_spec_TurnFlags (n:=n) (k:=k) hC hT hS
  have i2:=c_impl_AreFlags (n:=n) hC hT hS
  have s2:=c_spec_AreFlags (n:=n) hC hT hS
  obtain ⟨y1,y2,y3⟩:=tuR_fo (n:=n) (k:=k) hC hT hS
  have x1:=y1.1
  have x2:=y2.1
  have x3:=y3.1
  have ex0:=fun h=>tuR_0 (n:=n) (C:=C) (T:=T) (S:=S) (k:=k) h
  simp only [vFC,vF] at i1 s1 i2 s2
  generalize tuR n C T S k = r at *
  have v1:=vleq96r (l:=r.1.2.1 ++ r.1.2.2.1 ++ r.1.2.2.2) (by simp [x1,x2,x3])
  (refine bni ?_; repeat (refine bnk ?_; (try simp (disch:=first | omega | (simp only [LN]; omega)) only [↓EC,EW,seval,↓reduceIte,↓EBD,EBE,vF,f82])))
  refine pcd_v i1 ?_
  (refine bni ?_; repeat (refine bnk ?_; (try simp (disch:=first | omega | (simp only [LN]; omega)) only [↓EC,EW,seval,↓reduceIte,↓EBD,EBE,f84])))
  refine pcd_v s1 ?_
  (refine bni ?_; repeat (refine bnk ?_; (try simp (disch:=first | omega | (simp only [LN]; omega)) only [↓EC,EW,seval,↓reduceIte,↓EBD,EBE,v1,f86])))
  refine pcd_v i2 ?_
  (refine bni ?_; repeat (refine bnk ?_; (try simp (disch:=first | omega | (simp only [LN]; omega)) only [↓EC,EW,seval,↓reduceIte,↓EBD,EBE])))
  refine pcd_v s2 ?_
  (refine bni ?_; repeat (refine bnk ?_; (try simp (disch:=first | omega | (simp only [LN]; omega)) only [↓EC,EW,seval,↓reduceIte,↓EBD,EBE])))
  refine JNx_of (fun o h=>o = [.fz x l] /\ Fre 104 h) ?_ ?_
  ·intro K hK
   (refine bni ?_; repeat (refine bnk ?_; (try simp (disch:=first | omega | (simp only [LN]; omega)) only [↓EC,EW,seval,↓reduceIte,↓EBD,EBE])))
   (refine Split.mkB (fun h=>?_) (fun h=>?_) <;> (try simp only [SD] at h))
   ·obtain ⟨hfl,hk,rfl⟩:=ex0 h
    have F:=(flB_iff.1 hfl).fo hC hT hS
    have G1:=F.turn (k:=1) (by omega)
    have G2:=F.turn (k:=2) (by omega)
    have GK:=F.turn hk
    have b1:=bo_len (C:=C) (S:=S) (n:=n)
    have j1:tuC C S n 1 = S:=by simp [tuC]
    have j2:tuS C S n 1 = C:=by simp [tuS]
    have j3:tuC C S n 2 = bo C S n:=by simp [tuC]
    have j4:tuS C S n 2 = S:=by simp [tuS]
    have j5:tuC S C n 1 = C:=by simp [tuC]
    have j6:tuS S C n 1 = S:=by simp [tuS]
    have j7:tuC (bo C S n) S n 2 = C:=by simp [tuC,F.bobo]
    have j8:tuS (bo C S n) S n 2 = S:=by simp [tuS]
    rw [j1,j2] at G1
    rw [j3,j4] at G2
    have q1:=flB_yes G1.F
    have q2:=flB_yes G2.F
    have qk:=flB_yes GK.F
    have g1:=c_impl_TurnFlags (n:=n) (k:=1) hC hT hS
    have g2:=c_impl_TurnFlags (n:=n) (k:=1) hS hT hC
    have g3:=c_impl_TurnFlags (n:=n) (k:=2) hC hT hS
    have g4:=c_impl_TurnFlags (n:=n) (k:=2) F.lP.ok hT hS
    rw [tuR_in hfl (by omega),j1,j2] at g1
    rw [tuR_in q1 (by omega),j5,j6] at g2
    rw [tuR_in hfl (by omega),j3,j4] at g3
    rw [tuR_in q2 (by omega),j7,j8] at g4
    have g5:=c_impl_VertexDegrees (n:=n) hC hT hS hfl
    have g6:=c_impl_FaceDegrees (n:=n) hS hT hC q1
    have g7:=c_impl_ZigzagDegrees (n:=n) hC hT hS hfl
    have g8:=c_impl_FaceDegrees (n:=n) F.lP.ok hT hS q2
    have g9:=c_impl_AreFlags (n:=n) y1 y2 y3
    simp only at g9 x1 x2 x3
    rw [qk] at g9
    obtain ⟨d1,d2,d3⟩:=deg_b F F.iS
    obtain ⟨d4,d5,d6⟩:=deg_b F F.iP
    have l1:=c_like d1
    have l2:=c_like d4
    have u1:=c_laws_sumT (by omega) d2
    have u2:=c_laws_sumT (by omega) d5
    rw [d3] at u1
    rw [d6] at u2
    have v2:=vleq96r (l:=C ++ T ++ S) hcts
    have wn:IntKind.i64.wrap (n.tdiv 2) = n.tdiv 2:=by
     have:=F.F.hn
     have e:n.tdiv 2 = n / 2:=Int.tdiv_eq_ediv_of_nonneg (by omega)
     rw [e]; simp [IntKind.wrap,IntKind.signed,IntKind.bits]; omega
    simp only [vFC,vF,vDg] at g1 g2 g3 g4 g5 g6 g7 g8 g9
    clear q1 q2 qk GK G1 G2 j1 j2 j3 j4 j5 j6 j7 j8 ex0 i1 s1 i2 s2 v1 y1 y2 y3
    generalize deg T S n = da at *
    generalize deg T (bo C S n) n = db at *
    generalize bo C S n = P at *
    generalize tuC C S n k = CK at *
    generalize tuS C S n k = SK at *
    (refine bni ?_; repeat (refine bnk ?_; (try simp (disch:=first | omega | (simp only [LN]; omega)) only [↓EC,EW,seval,↓reduceIte,↓EBD,EBE,f88])))
    refine pcd_v g1 ?_
    (refine bni ?_; repeat (refine bnk ?_; (try simp (disch:=first | omega | (simp only [LN]; omega)) only [↓EC,EW,seval,↓reduceIte,↓EBD,EBE,f88])))
    refine pcd_v g2 ?_
    (refine bni ?_; repeat (refine bnk ?_; (try simp (disch:=first | omega | (simp only [LN]; omega)) only [↓EC,EW,seval,↓reduceIte,↓EBD,EBE,f90])))
    refine pcd_v g3 ?_
    (refine bni ?_; repeat (refine bnk ?_; (try simp (disch:=first | omega | (simp only [LN]; omega)) only [↓EC,EW,seval,↓reduceIte,↓EBD,EBE,f92])))
    refine pcd_v g4 ?_
    (refine bni ?_; repeat (refine bnk ?_; (try simp (disch:=first | omega | (simp only [LN]; omega)) only [↓EC,EW,seval,↓reduceIte,↓EBD,EBE,f94])))
    refine pcd_v g5 ?_
    (refine bni ?_; repeat (refine bnk ?_; (try simp (disch:=first | omega | (simp only [LN]; omega)) only [↓EC,EW,seval,↓reduceIte,↓EBD,EBE])))
    refine pcd_v g6 ?_
    (refine bni ?_; repeat (refine bnk ?_; (try simp (disch:=first | omega | (simp only [LN]; omega)) only [↓EC,EW,seval,↓reduceIte,↓EBD,EBE])))
    refine pcd_v g7 ?_
    (refine bni ?_; repeat (refine bnk ?_; (try simp (disch:=first | omega | (simp only [LN]; omega)) only [↓EC,EW,seval,↓reduceIte,↓EBD,EBE])))
    refine pcd_v g8 ?_
    (refine bni ?_; repeat (refine bnk ?_; (try simp (disch:=first | omega | (simp only [LN]; omega)) only [↓EC,EW,seval,↓reduceIte,↓EBD,EBE,v2])))
    refine pcd_v g9 ?_
    (refine bni ?_; repeat (refine bnk ?_; (try simp (disch:=first | omega | (simp only [LN]; omega)) only [↓EC,EW,seval,↓reduceIte,↓EBD,EBE])))
    refine pcd_v l1 ?_
    (refine bni ?_; repeat (refine bnk ?_; (try simp (disch:=first | omega | (simp only [LN]; omega)) only [↓EC,EW,seval,↓reduceIte,↓EBD,EBE])))
    refine pcd_v l2 ?_
    (refine bni ?_; repeat (refine bnk ?_; (try simp (disch:=first | omega | (simp only [LN]; omega)) only [↓EC,EW,seval,↓reduceIte,↓EBD,EBE])))
    refine pcd_v u1 ?_
    (refine bni ?_; repeat (refine bnk ?_; (try simp (disch:=first | omega | (simp only [LN]; omega)) only [↓EC,EW,seval,↓reduceIte,↓EBD,EBE,wn])))
    refine pcd_v u2 ?_
    (refine bni ?_; repeat (refine bnk ?_; (try simp (disch:=first | omega | (simp only [LN]; omega)) only [↓EC,EW,seval,↓reduceIte,↓EBD,EBE,wn])))
    exact hK _ _ ⟨rfl,by repeat' (first | exact hf.up (by decide) | refine Fre.put ?_ (by decide))⟩
   ·(refine bni ?_; repeat (refine bnk ?_; (try simp (disch:=first | omega | (simp only [LN]; omega)) only [↓EC,EW,seval,↓reduceIte,↓EBD,EBE])))
    exact hK _ _ ⟨rfl,by repeat' (first | exact hf.up (by decide) | refine Fre.put ?_ (by decide))⟩
  ·rintro o h1 ⟨rfl,hg⟩
   clear ex0 x1 x2 x3 y1 y2 y3 v1 i1 s1 i2 s2 hC hT hS hCl hTl hSl hcts r f82 f84 f86 f88 f90 f92 f94 hf
   clear n C T S k
   have f104:=hg 104 (by decide)
   have f105:=hg 105 (by decide)
   have f107:=hg 107 (by decide)
   have f113:=hg 113 (by decide)
   (refine bni ?_; repeat (refine bnk ?_; (try simp (disch:=first | omega | (simp only [LN]; omega)) only [↓EC,EW,seval,↓reduceIte,↓EBD,EBE])))
   refine pcd_r (c_spec_DrawMapOfFlags hB) ?_
   rintro _ ⟨n,C,T,S,rfl,hC,hT,hS⟩
   have hCl:=hC.1
   have hTl:=hT.1
   have hSl:=hS.1
   have hcts:(C ++ T ++ S).length = 96:=by simp [hCl,hTl,hSl]
   have i1:=c_impl_MapOfFlags (n:=n) hC hT hS
   have s1:=c_spec_MapOfFlags (n:=n) hC hT hS
   have i2:=c_impl_IsOrientable (n:=n) hC hT hS
   have s2:=c_spec_IsOrientable (n:=n) hC hT hS
   obtain ⟨x1,x2⟩:=mpR_len (n:=n) (C:=C) (T:=T) (S:=S)
   have ex0:=fun h=>mpR_d (n:=n) hC hT hS h
   simp only [vDC,vD,vF] at i1 s1 i2 s2
   generalize mpR n C T S = r at *
   generalize orR n C T S = ro at *
   have v1:=vleq32r (l:=r.1.2.1 ++ r.1.2.2) (by simp [x1,x2])
   (refine bni ?_; repeat (refine bnk ?_; (try simp (disch:=first | omega | (simp only [LN]; omega)) only [↓EC,EW,seval,↓reduceIte,↓EBD,EBE,vF,f104])))
   refine pcd_v i1 ?_
   (refine bni ?_; repeat (refine bnk ?_; (try simp (disch:=first | omega | (simp only [LN]; omega)) only [↓EC,EW,seval,↓reduceIte,↓EBD,EBE,f105])))
   refine pcd_v s1 ?_
   (refine bni ?_; repeat (refine bnk ?_; (try simp (disch:=first | omega | (simp only [LN]; omega)) only [↓EC,EW,seval,↓reduceIte,↓EBD,EBE,f107])))
   refine pcd_v i2 ?_
   (refine bni ?_; repeat (refine bnk ?_; (try simp (disch:=first | omega | (simp only [LN]; omega)) only [↓EC,EW,seval,↓reduceIte,↓EBD,EBE])))
   refine pcd_v s2 ?_
   (refine bni ?_; repeat (refine bnk ?_; (try simp (disch:=first | omega | (simp only [LN]; omega)) only [↓EC,EW,seval,↓reduceIte,↓EBD,EBE,v1])))
   (refine Split.mkB (fun h=>?_) (fun h=>?_) <;> (try simp only [SD] at h))
   ·obtain ⟨p1,p2,p3⟩:=ex0 h
    have kd:=c_impl_IsDessin (n:=r.1.1) p1 p2
    rw [p3] at kd
    simp only [vD] at kd
    (refine bni ?_; repeat (refine bnk ?_; (try simp (disch:=first | omega | (simp only [LN]; omega)) only [↓EC,EW,seval,↓reduceIte,↓EBD,EBE])))
    refine pcd_v kd ?_
    (refine bni ?_; repeat (refine bnk ?_; (try simp (disch:=first | omega | (simp only [LN]; omega)) only [↓EC,EW,seval,↓reduceIte,↓EBD,EBE])))
    clear i1 s1 i2 s2 v1 ex0
    refine pcd_r (c_spec_DrawEulerOfFlags hB) ?_
    rintro _ ⟨m,A,B,E,rfl,hA,hBB,hE⟩
    have hAl:=hA.1
    have hBl:=hBB.1
    have hEl:=hE.1
    have hcts2:(A ++ B ++ E).length = 96:=by simp [hAl,hBl,hEl]
    have e1:=c_impl_EulerOfFlags (n:=m) hA hBB hE
    have e2:=c_spec_EulerOfFlags (n:=m) hA hBB hE
    cases hf:flB m A B E with
    | true =>
     have F:=(flB_iff.1 hf).fo hA hBB hE
     have q1:=c_impl_VertexDegrees (n:=m) hA hBB hE hf
     have q2:=c_spec_VertexDegrees (n:=m) hA hBB hE hf
     have q3:=c_impl_FaceDegrees (n:=m) hA hBB hE hf
     have q4:=c_spec_FaceDegrees (n:=m) hA hBB hE hf
     have q5:=c_impl_ZigzagDegrees (n:=m) hA hBB hE hf
     have q6:=c_spec_ZigzagDegrees (n:=m) hA hBB hE hf
     have l1:=c_like (deg_b F F.iS).1
     have l2:=c_like (deg_b F F.iC).1
     have l3:=c_like (deg_b F F.iP).1
     simp only [vF,vDg] at e1 e2 q1 q2 q3 q4 q5 q6
     clear F
     generalize euR m A B E = eu at *
     generalize deg B E m = d1 at *
     generalize deg B A m = d2 at *
     generalize deg B (bo A E m) m = d3 at *
     (refine bni ?_; repeat (refine bnk ?_; (try simp (disch:=first | omega | (simp only [LN]; omega)) only [↓EC,EW,seval,↓reduceIte,↓EBD,EBE,vF,f113])))
     refine pcd_v e1 ?_
     (refine bni ?_; repeat (refine bnk ?_; (try simp (disch:=first | omega | (simp only [LN]; omega)) only [↓EC,EW,seval,↓reduceIte,↓EBD,EBE])))
     refine pcd_v e2 ?_
     (refine bni ?_; repeat (refine bnk ?_; (try simp (disch:=first | omega | (simp only [LN]; omega)) only [↓EC,EW,seval,↓reduceIte,↓EBD,EBE])))
     refine pcd_v q1 ?_
     (refine bni ?_; repeat (refine bnk ?_; (try simp (disch:=first | omega | (simp only [LN]; omega)) only [↓EC,EW,seval,↓reduceIte,↓EBD,EBE])))
     refine pcd_v q2 ?_
     (refine bni ?_; repeat (refine bnk ?_; (try simp (disch:=first | omega | (simp only [LN]; omega)) only [↓EC,EW,seval,↓reduceIte,↓EBD,EBE])))
     refine pcd_v q3 ?_
     (refine bni ?_; repeat (refine bnk ?_; (try simp (disch:=first | omega | (simp only [LN]; omega)) only [↓EC,EW,seval,↓reduceIte,↓EBD,EBE])))
     refine pcd_v q4 ?_
     (refine bni ?_; repeat (refine bnk ?_; (try simp (disch:=first | omega | (simp only [LN]; omega)) only [↓EC,EW,seval,↓reduceIte,↓EBD,EBE])))
     refine pcd_v q5 ?_
     (refine bni ?_; repeat (refine bnk ?_; (try simp (disch:=first | omega | (simp only [LN]; omega)) only [↓EC,EW,seval,↓reduceIte,↓EBD,EBE])))
     refine pcd_v q6 ?_
     (refine bni ?_; repeat (refine bnk ?_; (try simp (disch:=first | omega | (simp only [LN]; omega)) only [↓EC,EW,seval,↓reduceIte,↓EBD,EBE])))
     refine pcd_v l1 ?_
     (refine bni ?_; repeat (refine bnk ?_; (try simp (disch:=first | omega | (simp only [LN]; omega)) only [↓EC,EW,seval,↓reduceIte,↓EBD,EBE])))
     refine pcd_v l2 ?_
     (refine bni ?_; repeat (refine bnk ?_; (try simp (disch:=first | omega | (simp only [LN]; omega)) only [↓EC,EW,seval,↓reduceIte,↓EBD,EBE])))
     refine pcd_v l3 ?_
     (refine bni ?_; repeat (refine bnk ?_; (try simp (disch:=first | omega | (simp only [LN]; omega)) only [↓EC,EW,seval,↓reduceIte,↓EBD,EBE])))
    | false =>
     have q1:=c_impl_VertexDegreesN (n:=m) hA hBB hE hf
     have q2:=c_spec_VertexDegreesN (n:=m) hA hBB hE hf
     have q3:=c_impl_FaceDegreesN (n:=m) hA hBB hE hf
     have q4:=c_spec_FaceDegreesN (n:=m) hA hBB hE hf
     have q5:=c_impl_ZigzagDegreesN (n:=m) hA hBB hE hf
     have q6:=c_spec_ZigzagDegreesN (n:=m) hA hBB hE hf
     simp only [vF] at e1 e2 q1 q2 q3 q4 q5 q6
     generalize euR m A B E = eu at *
     (refine bni ?_; repeat (refine bnk ?_; (try simp (disch:=first | omega | (simp only [LN]; omega)) only [↓EC,EW,seval,↓reduceIte,↓EBD,EBE,vF,f113])))
     refine pcd_v e1 ?_
     (refine bni ?_; repeat (refine bnk ?_; (try simp (disch:=first | omega | (simp only [LN]; omega)) only [↓EC,EW,seval,↓reduceIte,↓EBD,EBE])))
     refine pcd_v e2 ?_
     (refine bni ?_; repeat (refine bnk ?_; (try simp (disch:=first | omega | (simp only [LN]; omega)) only [↓EC,EW,seval,↓reduceIte,↓EBD,EBE])))
     refine pcd_v q1 ?_
     (refine bni ?_; repeat (refine bnk ?_; (try simp (disch:=first | omega | (simp only [LN]; omega)) only [↓EC,EW,seval,↓reduceIte,↓EBD,EBE])))
     refine pcd_v q2 ?_
     (refine bni ?_; repeat (refine bnk ?_; (try simp (disch:=first | omega | (simp only [LN]; omega)) only [↓EC,EW,seval,↓reduceIte,↓EBD,EBE])))
     refine pcd_v q3 ?_
     (refine bni ?_; repeat (refine bnk ?_; (try simp (disch:=first | omega | (simp only [LN]; omega)) only [↓EC,EW,seval,↓reduceIte,↓EBD,EBE])))
     refine pcd_v q4 ?_
     (refine bni ?_; repeat (refine bnk ?_; (try simp (disch:=first | omega | (simp only [LN]; omega)) only [↓EC,EW,seval,↓reduceIte,↓EBD,EBE])))
     refine pcd_v q5 ?_
     (refine bni ?_; repeat (refine bnk ?_; (try simp (disch:=first | omega | (simp only [LN]; omega)) only [↓EC,EW,seval,↓reduceIte,↓EBD,EBE])))
     refine pcd_v q6 ?_
     (refine bni ?_; repeat (refine bnk ?_; (try simp (disch:=first | omega | (simp only [LN]; omega)) only [↓EC,EW,seval,↓reduceIte,↓EBD,EBE])))
     refine pcd_v c_laws_likeIntsN ?_
     (refine bni ?_; repeat (refine bnk ?_; (try simp (disch:=first | omega | (simp only [LN]; omega)) only [↓EC,EW,seval,↓reduceIte,↓EBD,EBE])))
     refine pcd_v c_laws_likeIntsN ?_
     (refine bni ?_; repeat (refine bnk ?_; (try simp (disch:=first | omega | (simp only [LN]; omega)) only [↓EC,EW,seval,↓reduceIte,↓EBD,EBE])))
     refine pcd_v c_laws_likeIntsN ?_
     (refine bni ?_; repeat (refine bnk ?_; (try simp (disch:=first | omega | (simp only [LN]; omega)) only [↓EC,EW,seval,↓reduceIte,↓EBD,EBE])))
   ·(refine bni ?_; repeat (refine bnk ?_; (try simp (disch:=first | omega | (simp only [LN]; omega)) only [↓EC,EW,seval,↓reduceIte,↓EBD,EBE])))
    clear i1 s1 i2 s2 v1 ex0
    refine pcd_r (c_spec_DrawEulerOfFlags hB) ?_
    rintro _ ⟨m,A,B,E,rfl,hA,hBB,hE⟩
    have hAl:=hA.1
    have hBl:=hBB.1
    have hEl:=hE.1
    have hcts2:(A ++ B ++ E).length = 96:=by simp [hAl,hBl,hEl]
    have e1:=c_impl_EulerOfFlags (n:=m) hA hBB hE
    have e2:=c_spec_EulerOfFlags (n:=m) hA hBB hE
    cases hf:flB m A B E with
    | true =>
     have F:=(flB_iff.1 hf).fo hA hBB hE
     have q1:=c_impl_VertexDegrees (n:=m) hA hBB hE hf
     have q2:=c_spec_VertexDegrees (n:=m) hA hBB hE hf
     have q3:=c_impl_FaceDegrees (n:=m) hA hBB hE hf
     have q4:=c_spec_FaceDegrees (n:=m) hA hBB hE hf
     have q5:=c_impl_ZigzagDegrees (n:=m) hA hBB hE hf
     have q6:=c_spec_ZigzagDegrees (n:=m) hA hBB hE hf
     have l1:=c_like (deg_b F F.iS).1
     have l2:=c_like (deg_b F F.iC).1
     have l3:=c_like (deg_b F F.iP).1
     simp only [vF,vDg] at e1 e2 q1 q2 q3 q4 q5 q6
     clear F
     generalize euR m A B E = eu at *
     generalize deg B E m = d1 at *
     generalize deg B A m = d2 at *
     generalize deg B (bo A E m) m = d3 at *
     (refine bni ?_; repeat (refine bnk ?_; (try simp (disch:=first | omega | (simp only [LN]; omega)) only [↓EC,EW,seval,↓reduceIte,↓EBD,EBE,vF,f113])))
     refine pcd_v e1 ?_
     (refine bni ?_; repeat (refine bnk ?_; (try simp (disch:=first | omega | (simp only [LN]; omega)) only [↓EC,EW,seval,↓reduceIte,↓EBD,EBE])))
     refine pcd_v e2 ?_
     (refine bni ?_; repeat (refine bnk ?_; (try simp (disch:=first | omega | (simp only [LN]; omega)) only [↓EC,EW,seval,↓reduceIte,↓EBD,EBE])))
     refine pcd_v q1 ?_
     (refine bni ?_; repeat (refine bnk ?_; (try simp (disch:=first | omega | (simp only [LN]; omega)) only [↓EC,EW,seval,↓reduceIte,↓EBD,EBE])))
     refine pcd_v q2 ?_
     (refine bni ?_; repeat (refine bnk ?_; (try simp (disch:=first | omega | (simp only [LN]; omega)) only [↓EC,EW,seval,↓reduceIte,↓EBD,EBE])))
     refine pcd_v q3 ?_
     (refine bni ?_; repeat (refine bnk ?_; (try simp (disch:=first | omega | (simp only [LN]; omega)) only [↓EC,EW,seval,↓reduceIte,↓EBD,EBE])))
     refine pcd_v q4 ?_
     (refine bni ?_; repeat (refine bnk ?_; (try simp (disch:=first | omega | (simp only [LN]; omega)) only [↓EC,EW,seval,↓reduceIte,↓EBD,EBE])))
     refine pcd_v q5 ?_
     (refine bni ?_; repeat (refine bnk ?_; (try simp (disch:=first | omega | (simp only [LN]; omega)) only [↓EC,EW,seval,↓reduceIte,↓EBD,EBE])))
     refine pcd_v q6 ?_
     (refine bni ?_; repeat (refine bnk ?_; (try simp (disch:=first | omega | (simp only [LN]; omega)) only [↓EC,EW,seval,↓reduceIte,↓EBD,EBE])))
     refine pcd_v l1 ?_
     (refine bni ?_; repeat (refine bnk ?_; (try simp (disch:=first | omega | (simp only [LN]; omega)) only [↓EC,EW,seval,↓reduceIte,↓EBD,EBE])))
     refine pcd_v l2 ?_
     (refine bni ?_; repeat (refine bnk ?_; (try simp (disch:=first | omega | (simp only [LN]; omega)) only [↓EC,EW,seval,↓reduceIte,↓EBD,EBE])))
     refine pcd_v l3 ?_
     (refine bni ?_; repeat (refine bnk ?_; (try simp (disch:=first | omega | (simp only [LN]; omega)) only [↓EC,EW,seval,↓reduceIte,↓EBD,EBE])))
    | false =>
     have q1:=c_impl_VertexDegreesN (n:=m) hA hBB hE hf
     have q2:=c_spec_VertexDegreesN (n:=m) hA hBB hE hf
     have q3:=c_impl_FaceDegreesN (n:=m) hA hBB hE hf
     have q4:=c_spec_FaceDegreesN (n:=m) hA hBB hE hf
     have q5:=c_impl_ZigzagDegreesN (n:=m) hA hBB hE hf
     have q6:=c_spec_ZigzagDegreesN (n:=m) hA hBB hE hf
     simp only [vF] at e1 e2 q1 q2 q3 q4 q5 q6
     generalize euR m A B E = eu at *
     (refine bni ?_; repeat (refine bnk ?_; (try simp (disch:=first | omega | (simp only [LN]; omega)) only [↓EC,EW,seval,↓reduceIte,↓EBD,EBE,vF,f113])))
     refine pcd_v e1 ?_
     (refine bni ?_; repeat (refine bnk ?_; (try simp (disch:=first | omega | (simp only [LN]; omega)) only [↓EC,EW,seval,↓reduceIte,↓EBD,EBE])))
     refine pcd_v e2 ?_
     (refine bni ?_; repeat (refine bnk ?_; (try simp (disch:=first | omega | (simp only [LN]; omega)) only [↓EC,EW,seval,↓reduceIte,↓EBD,EBE])))
     refine pcd_v q1 ?_
     (refine bni ?_; repeat (refine bnk ?_; (try simp (disch:=first | omega | (simp only [LN]; omega)) only [↓EC,EW,seval,↓reduceIte,↓EBD,EBE])))
     refine pcd_v q2 ?_
     (refine bni ?_; repeat (refine bnk ?_; (try simp (disch:=first | omega | (simp only [LN]; omega)) only [↓EC,EW,seval,↓reduceIte,↓EBD,EBE])))
     refine pcd_v q3 ?_
     (refine bni ?_; repeat (refine bnk ?_; (try simp (disch:=first | omega | (simp only [LN]; omega)) only [↓EC,EW,seval,↓reduceIte,↓EBD,EBE])))
     refine pcd_v q4 ?_
     (refine bni ?_; repeat (refine bnk ?_; (try simp (disch:=first | omega | (simp only [LN]; omega)) only [↓EC,EW,seval,↓reduceIte,↓EBD,EBE])))
     refine pcd_v q5 ?_
     (refine bni ?_; repeat (refine bnk ?_; (try simp (disch:=first | omega | (simp only [LN]; omega)) only [↓EC,EW,seval,↓reduceIte,↓EBD,EBE])))
     refine pcd_v q6 ?_
     (refine bni ?_; repeat (refine bnk ?_; (try simp (disch:=first | omega | (simp only [LN]; omega)) only [↓EC,EW,seval,↓reduceIte,↓EBD,EBE])))
     refine pcd_v c_laws_likeIntsN ?_
     (refine bni ?_; repeat (refine bnk ?_; (try simp (disch:=first | omega | (simp only [LN]; omega)) only [↓EC,EW,seval,↓reduceIte,↓EBD,EBE])))
     refine pcd_v c_laws_likeIntsN ?_
     (refine bni ?_; repeat (refine bnk ?_; (try simp (disch:=first | omega | (simp only [LN]; omega)) only [↓EC,EW,seval,↓reduceIte,↓EBD,EBE])))
     refine pcd_v c_laws_likeIntsN ?_
     (refine bni ?_; repeat (refine bnk ?_; (try simp (disch:=first | omega | (simp only [LN]; omega)) only [↓EC,EW,seval,↓reduceIte,↓EBD,EBE])))
theorem t_FnFlags:∀ xs,Ty.oks [.sl (.int .u8)] xs -> PSpec Tryz.prog 4 xs fun r=>r = .bool true:=by
 rintro xs ⟨v,r,rfl,hv,rfl⟩
 obtain ⟨l,rfl,h1,h2⟩:=ok_ints hv
 exact pspec_fz fun x=>c_FnFlags fun a ha=>h2 a ha
end
end Go.Proofs.YtbjbpmicnmjbfaaGreat.Sep

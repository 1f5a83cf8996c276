/- Texts put together: C40, C112, C114, C1231, C140, C122, C123, C141, C142, C143, C87, C113, C115, C116, C117, C118, C119, C144, C155. -/
import Derived.Test.YtbjbpmicnmjbfaaGreatK4
import Derived.Lib.BytesEntry
import Derived.Lib.Bytealg
import Derived.Laws.Externs
import Derived.WalkKit
import Derived.Deep.RegionWith
namespace Go.Proofs.YtbjbpmicnmjbfaaGreat.Sep
open Go.RowKit
set_option linter.unusedVariables false
set_option linter.unusedSimpArgs false
set_option maxRecDepth 20000
section
set_option maxHeartbeats 1000000
def srX (x:Int):Sr:=([x],(List.replicate 16 false).set x.toNat true)
theorem srX_ok {x:Int} (hx:0 <= x /\ x < 16):SrOk (srX x):=by
 refine ⟨by simp[srX],?_,fun j hj=>?_⟩
 ·have hl:x.toNat < (List.replicate 16 false).length:=by simp; omega
  simp only[srX]
  rw[List.count_set hl]
  simp
 ·have:j = 0:=by simp[srX] at hj; exact hj
  subst this; exact hx
theorem srRun_ok {p q:List Int} (hp:lo16 p) (hq:lo16 q):∀ (k i:Nat) {s:Sr},SrOk s -> SrOk (srRun p q k i s)
 | 0,i,s,h=>h
 | k + 1,i,s,h=>by
  simp only[srRun]
  split
  ·exact srRun_ok hp hq k (i + 1) (srStep_ok hp hq h (by assumption))
  ·exact h
def nmdL (p q:List Int) (x:Int):List Int:=(srRun p q 17 0 (srX x)).1
theorem nmdL_ok {p q:List Int} (hp:lo16 p) (hq:lo16 q) {x:Int} (hx:0 <= x /\ x < 16):(nmdL p q x).length <= 16 /\ ∀ j,j < (nmdL p q x).length -> 0 <= gi (nmdL p q x) j /\ gi (nmdL p q x) j < 16 :=
 ⟨(srRun_ok hp hq 17 0 (srX_ok hx)).le,(srRun_ok hp hq 17 0 (srX_ok hx)).lo⟩
def nameT (l:List Int):Nat -> List Int
 | 0=>List.replicate 16 0
 | s + 1=>(nameT l s).set (gi l s).toNat s
theorem nameT_len {l:List Int}:∀ s,(nameT l s).length = 16
 | 0=>by simp[nameT]
 | s + 1=>by simp[nameT,nameT_len s]
theorem nameT_lo {l:List Int}:∀ s,s <= 16 -> lo16 (nameT l s)
 | 0,_=>⟨by simp[nameT],fun i hi=>by simp only[nameT]; rw[gi_rep]; split <;> omega⟩
 | s + 1,h=>⟨by simp[nameT,nameT_len],fun i hi=>by
  simp only[nameT]
  rw[gi_set]
  split
  ·omega
  ·exact (nameT_lo s (by omega)).2 i hi⟩
def nmgP (p q:List Int) (x:Int):List Int:=nameT (nmdL p q x) (nmdL p q x).length
theorem nmgP_lo {p q:List Int} (hp:lo16 p) (hq:lo16 q) {x:Int} (hx:0 <= x /\ x < 16):lo16 (nmgP p q x):=nameT_lo _ (nmdL_ok hp hq hx).1
theorem visit_pre {y:Int} {s:Sr} {j:Nat} (hj:j < s.1.length):gi (visit y s).1 j = gi s.1 j:=by
 unfold visit; split
 ·rfl
 ·simp only[gi_app]; rw[if_pos hj]
theorem srStep_pre {p q:List Int} {i:Nat} {s:Sr} {j:Nat} (hj:j < s.1.length):gi (srStep p q i s).1 j = gi s.1 j:=by
 unfold srStep
 rw[visit_pre (Nat.lt_of_lt_of_le hj visit_len),visit_pre hj]
theorem sr_mid {p q:List Int} {i j:Nat} {s0 s:Sr} (hp:lo16 p) (hq:lo16 q) (h1:SrOk s0) (hi:i < s0.1.length) (h:s = if j = 0 then s0 else if j = 1 then visit (gi p (gi s0.1 i).toNat) s0 else srStep p q i s0) :
  SrOk s /\ (∀ k,k < s0.1.length -> gi s.1 k = gi s0.1 k) /\ s0.1.length <= s.1.length:=by
 have h0:=h1.lo i hi
 rw[h]
 split
 ·exact ⟨h1,fun _ _=>rfl,Nat.le_refl _⟩
 ·split
  ·exact ⟨visit_ok h1 (hp.2 _ (by omega)),fun k hk=>visit_pre hk,visit_len⟩
  ·exact ⟨srStep_ok hp hq h1 hi,fun k hk=>srStep_pre hk,srStep_len⟩
theorem c_impl_named {n:Int} {p q:List Int} {x:Int} (hp:lo16 p) (hq:lo16 q) (hx:0 <= x /\ x < 16):PSpec Tryz.prog 112 [vD n p q,.int .i64 x] fun v=>v = .own 5 1 (nmdL p q x).length (vi .u8 (nmdL p q x)):=by
 have hl:=hp.1
 have hk:=hq.1
 refine impl_named_f.f ?_
 unfold vD
 simp (disch:=first|omega|(simp only[LN];omega)) only[↓EC,EW,seval,↓reduceIte,impl_named_F,hl,hk]
 refine LP_of (σ:=Sr × Nat) 100000 [(66,28,1),(69,120,1)] (fun s=>[.own 5 1 s.1.1.length (vi .u8 s.1.1),.int .i64 s.2]) (fun s=>[.int .i64 n :: vi .u8 (p ++ q),vb s.1.2])
  (fun s=>SrOk s.1 /\ s.2 <= s.1.1.length /\ srRun p q (17 - s.2) s.2 s.1 = srRun p q 17 0 (srX x)) (fun s=>17 - s.2) (srX x,0) (by simp[frameOk,names,lpz,sclp,scv,scvs,nrfs,nrf,FRB]) ⟨srX_ok hx,Nat.zero_le _,rfl⟩ ?_ ?_
 ·simp (disch:=first|omega|(simp only[LN];omega)) only[↓EC,EW,seval,↓reduceIte,CVd]
  exact ⟨rfl,rfl⟩
 ·rintro ⟨⟨l,m⟩,i⟩ ⟨h1,h2,h3⟩
  simp only at h1 h2 h3
  have hm:=h1.len
  have hle:=h1.le
  simp only at hm hle
  simp (disch:=first|omega|(simp only[LN];omega)) only[↓EC,EW,seval,↓reduceIte,CVd,lhd]
  (refine Split.mk (fun h=>?_) (fun h=>?_) <;> (try simp only[SD]at h))
  ·have hi:i < l.length:=by omega
   have hlo:=h1.lo i hi
   simp only at hlo
   have hy1:=hp.2 (gi l i).toNat (by omega)
   have hy2:=hq.2 (gi l i).toNat (by omega)
   (try simp (disch:=first|omega|(simp only[LN];omega)) only[↓EC,EW,seval,↓reduceIte,hl,hk])
   refine LP_of (σ:=Sr × Nat) 200000 [(66,28,1),(69,120,1),(100,5,1)] (fun s=>[.own 5 1 s.1.1.length (vi .u8 s.1.1),.int .i64 s.2])
    (fun s=>[.int .i64 n :: vi .u8 (p ++ q),vb s.1.2,vi .u8 [gi p (gi l i).toNat,gi q (gi l i).toNat]])
    (fun s=>s.2 <= 2 /\ s.1 = if s.2 = 0 then (l,m) else if s.2 = 1 then visit (gi p (gi l i).toNat) (l,m) else srStep p q i (l,m)) (fun s=>2 - s.2) ((l,m),0) (by simp[frameOk,names,lpz,sclp,scv,scvs,nrfs,nrf,FRB]) ⟨Nat.zero_le 2,rfl⟩ ?_ ?_
   ·simp (disch:=first|omega|(simp only[LN];omega)) only[↓EC,EW,seval,↓reduceIte,CVd]
    rfl
   ·rintro ⟨s,j⟩ ⟨g1,g2⟩
    simp only at g1 g2
    obtain ⟨hs,hpre,hil⟩:=sr_mid (s0:=(l,m)) hp hq h1 hi g2
    simp only at hil
    have hsm:=hs.len
    have hsl:=hs.le
    simp (disch:=first|omega|(simp only[LN];omega)) only[↓EC,EW,seval,↓reduceIte,CVd,lhd]
    (refine Split.mk (fun h=>?_) (fun h=>?_) <;> (try simp only[SD]at h))
    ·have hj:j = 0 ∨ j = 1:=by omega
     rcases hj with rfl | rfl
     ·(try simp (disch:=first|omega|(simp only[LN];omega)) only[↓EC,EW,seval,↓reduceIte,hl,hk])
      rw[if_pos rfl] at g2
      (refine Split.mk (fun h=>?_) (fun h=>?_) <;> (try simp only[SD]at h))
      ·exact ⟨(visit (gi p (gi l i).toNat) s,1),by rw[visit_no h]; simp,by rw[visit_no h],⟨by simp,by rw[g2]; rfl⟩,by simp⟩
      ·exact ⟨(visit (gi p (gi l i).toNat) s,1),by rw[visit_yes h]; simp,by rw[visit_yes h],⟨by simp,by rw[g2]; rfl⟩,by simp⟩
     ·(try simp (disch:=first|omega|(simp only[LN];omega)) only[↓EC,EW,seval,↓reduceIte,hl,hk])
      rw[if_neg (by decide),if_pos rfl] at g2
      (refine Split.mk (fun h=>?_) (fun h=>?_) <;> (try simp only[SD]at h))
      ·exact ⟨(visit (gi q (gi l i).toNat) s,2),by rw[visit_no h]; simp,by rw[visit_no h],⟨by simp,by rw[g2]; rfl⟩,by simp⟩
      ·exact ⟨(visit (gi q (gi l i).toNat) s,2),by rw[visit_yes h]; simp,by rw[visit_yes h],⟨by simp,by rw[g2]; rfl⟩,by simp⟩
    ·(try simp (disch:=first|omega|(simp only[LN];omega)) only[↓EC,EW,seval,↓reduceIte])
     rw[if_neg (by omega),if_neg (by omega)] at g2
     refine ⟨(s,i + 1),rfl,rfl,⟨hs,by simp only; omega,?_⟩,by simp only; omega⟩
     rw[show 17 - i = 16 - i + 1 from by omega] at h3
     simp only[srRun,if_pos hi] at h3
     try simp only
     rw[g2,show 17 - (i + 1) = 16 - i from by omega]
     exact h3
  ·(try simp (disch:=first|omega|(simp only[LN];omega)) only[↓EC,EW,seval,↓reduceIte])
   unfold nmdL
   rw[<-h3,show 17 - i = 16 - i + 1 from by omega]
   simp only[srRun]
   rw[if_neg (by omega)]
theorem c_impl_naming {n:Int} {p q:List Int} {x:Int} (hp:lo16 p) (hq:lo16 q) (hx:0 <= x /\ x < 16):PSpec Tryz.prog 94 [vD n p q,.int .i64 x] fun v=>v = .agg (vi .u8 (nmgP p q x)):=by
 have hl:=hp.1
 have hk:=hq.1
 obtain ⟨n1,n2⟩:=nmdL_ok hp hq hx
 refine impl_naming_f.f ?_
 have h1:=c_impl_named (n:=n) hp hq hx
 unfold vD at h1 ⊢
 simp (disch:=first|omega|(simp only[LN];omega)) only[↓EC,EW,seval,↓reduceIte,impl_naming_F,hl,hk]
 refine pcd_v h1 ?_
 unfold nmgP
 generalize nmdL p q x = L at *
 (try simp (disch:=first|omega|(simp only[LN];omega)) only[↓EC,EW,seval,↓reduceIte,hl,hk])
 refine LP_of (σ:=Nat) 100000 [(66,28,1),(68,26,1),(69,26,1)] (fun s=>[.int .i64 s]) (fun s=>[.int .i64 n :: vi .u8 (p ++ q),vi .u8 (List.replicate 16 0),vi .u8 (nameT L s)])
  (fun s=>s <= L.length) (fun s=>L.length - s) 0 (by simp[frameOk,names,lpz,sclp,scv,scvs,nrfs,nrf,FRB]) (Nat.zero_le _) ?_ ?_
 ·simp (disch:=first|omega|(simp only[LN];omega)) only[↓EC,EW,seval,↓reduceIte,CVd]
  rfl
 ·rintro s h1
  have hnl:=nameT_len (l:=L) s
  simp (disch:=first|omega|(simp only[LN];omega)) only[↓EC,EW,seval,↓reduceIte,CVd,lhd]
  (refine Split.mk (fun h=>?_) (fun h=>?_) <;> (try simp only[SD]at h))
  ·have hb:=n2 s (by omega)
   (try simp (disch:=first|omega|(simp only[LN];omega)) only[↓EC,EW,seval,↓reduceIte])
   (refine ⟨s + 1,?_⟩; repeat' (first | (refine And.intro ?_ ?_) | rfl | omega | trivial))
  ·have:s = L.length:=by omega
   subst this
   (try simp (disch:=first|omega|(simp only[LN];omega)) only[↓EC,EW,seval,↓reduceIte,hnl])
def rnT (p b:List Int):Nat -> List Int
 | 0=>List.replicate 16 0
 | s + 1=>(rnT p b s).set (gi p s).toNat (gi p (gi b s).toNat)
theorem rnT_len {p b:List Int}:∀ s,(rnT p b s).length = 16
 | 0=>by simp[rnT]
 | s + 1=>by simp[rnT,rnT_len s]
theorem rnT_lo {p b:List Int} (hp:lo16 p) (hb:lo16 b):∀ s,s <= 16 -> lo16 (rnT p b s)
 | 0,_=>⟨by simp[rnT],fun i hi=>by simp only[rnT]; rw[gi_rep]; split <;> omega⟩
 | s + 1,h=>⟨by simp[rnT,rnT_len],fun i hi=>by
  have h1:=hb.2 s (by omega)
  simp only[rnT]
  rw[gi_set]
  split
  ·exact hp.2 _ (by omega)
  ·exact (rnT_lo hp hb s (by omega)).2 i hi⟩
theorem c_impl_rename {n:Int} {b w p:List Int} (hb:lo16 b) (hw:lo16 w) (hp:lo16 p) (hn:1 <= n /\ n <= 16):PSpec Tryz.prog 93 [vD n b w,.agg (vi .u8 p)] fun v=>v = vD n (rnT p b n.toNat) (rnT p w n.toNat):=by
 have hl:=hb.1
 have hk:=hw.1
 have hpl:=hp.1
 refine impl_rename_f.f ?_
 unfold vD
 simp (disch:=first|omega|(simp only[LN];omega)) only[↓EC,EW,seval,↓reduceIte,impl_rename_F,hl,hk,hpl]
 refine LP_of (σ:=Nat) 100000 [(66,28,1),(67,26,1),(68,28,1),(69,28,1)] (fun s=>[.int .i64 s])
  (fun s=>[.int .i64 n :: vi .u8 (b ++ w),vi .u8 p,.int .i64 0 :: vi .u8 (List.replicate 32 0),.int .i64 n :: vi .u8 (rnT p b s ++ rnT p w s)])
  (fun s=>(s:Int) <= n) (fun s=>(n - s).toNat) 0 (by simp[frameOk,names,lpz,sclp,scv,scvs,nrfs,nrf,FRB]) (by simp only[Int.natCast_zero]; omega) ?_ ?_
 ·simp (disch:=first|omega|(simp only[LN];omega)) only[↓EC,EW,seval,↓reduceIte,CVd]
  rfl
 ·rintro s h1
  have q1:=rnT_len (p:=p) (b:=b) s
  have q2:=rnT_len (p:=p) (b:=w) s
  simp (disch:=first|omega|(simp only[LN];omega)) only[↓EC,EW,seval,↓reduceIte,CVd,lhd]
  (refine Split.mk (fun h=>?_) (fun h=>?_) <;> (try simp only[SD]at h))
  ·have a1:=hp.2 s (by omega)
   have a2:=hb.2 s (by omega)
   have a3:=hw.2 s (by omega)
   have a4:=hp.2 (gi b s).toNat (by omega)
   have a5:=hp.2 (gi w s).toNat (by omega)
   (try simp (disch:=first|omega|(simp only[LN];omega)) only[↓EC,EW,seval,↓reduceIte,hl,hk,hpl,q1,q2])
   exact ⟨s + 1,rfl,rfl,by omega,by omega⟩
  ·have:s = n.toNat:=by omega
   subst this
   (try simp (disch:=first|omega|(simp only[LN];omega)) only[↓EC,EW,seval,↓reduceIte,hl,hk,q1,q2])
theorem c_impl_isDart {n x:Int} {b w:List Int} (hb:b.length = 16) (hw:w.length = 16):PSpec Tryz.prog 91 [vD n b w,.sl 1 [.int .i64 x]] fun v=>v = .bool (decide (0 <= x /\ x < n)):=by
 refine impl_isDart_f.f ?_
 unfold vD
 simp (disch:=first|omega|(simp only[LN];omega)) only[↓EC,EW,seval,↓reduceIte,impl_isDart_F,hb,hw]
 refine LP_of (σ:=Nat) 100000 [(66,28,1)] (fun s=>[.int .i64 s]) (fun s=>[.int .i64 n :: vi .u8 (b ++ w)]) (fun s=>s <= 1 /\ (0 < s -> 0 <= x /\ x < n)) (fun s=>1 - s) 0 (by simp[frameOk,names,lpz,sclp,scv,scvs,nrfs,nrf,FRB]) ⟨Nat.zero_le _,fun h=>absurd h (by decide)⟩ ?_ ?_
 ·simp (disch:=first|omega|(simp only[LN];omega)) only[↓EC,EW,seval,↓reduceIte,CVd]
 ·rintro s ⟨h1,h2⟩
  simp (disch:=first|omega|(simp only[LN];omega)) only[↓EC,EW,seval,↓reduceIte,CVd,lhd]
  (refine Split.mk (fun h=>?_) (fun h=>?_) <;> (try simp only[SD]at h))
  ·have:s = 0:=by omega
   subst this
   (try simp (disch:=first|omega|(simp only[LN];omega)) only[↓EC,EW,seval,↓reduceIte])
   (refine Split.mk (fun h=>?_) (fun h=>?_) <;> (try simp only[SD]at h))
   ·(try simp (disch:=first|omega|(simp only[LN];omega)) only[↓EC,EW,seval,↓reduceIte])
    rw[eq_comm,V.bool.injEq,decide_eq_false_iff_not]; omega
   ·(try simp (disch:=first|omega|(simp only[LN];omega)) only[↓EC,EW,seval,↓reduceIte])
    (refine Split.mk (fun h=>?_) (fun h=>?_) <;> (try simp only[SD]at h))
    ·(try simp (disch:=first|omega|(simp only[LN];omega)) only[↓EC,EW,seval,↓reduceIte])
     rw[eq_comm,V.bool.injEq,decide_eq_false_iff_not]; omega
    ·(try simp (disch:=first|omega|(simp only[LN];omega)) only[↓EC,EW,seval,↓reduceIte])
     exact ⟨1,rfl,⟨by omega,fun _=>by omega⟩,by omega⟩
  ·(try simp (disch:=first|omega|(simp only[LN];omega)) only[↓EC,EW,seval,↓reduceIte])
   rw[eq_comm,V.bool.injEq,decide_eq_true_eq]
   exact h2 (by omega)
end
section
set_option maxHeartbeats 1000000
theorem fp_nn {p:List Int} (hp:lo16 p) (x:Nat):gi p x = (fp p x:Int):=by have:=lo16_nn hp x; unfold fp; omega
theorem gi_ext16 {l m:List Int} (hl:l.length = 16) (hm:m.length = 16) (h:∀ i,i < 16 -> gi l i = gi m i):l = m:=gi_ext (by omega) fun i hi=>h i (by omega)
section
variable {b w:List Int} {n:Int}
theorem visit_sub {y:Int} {s:Sr} {z:Int} (h:z ∈ s.1):z ∈ (visit y s).1:=by
 unfold visit; split
 ·exact h
 ·exact List.mem_append_left _ h
theorem visit_has {y:Int} {s:Sr} (h:Q.Sx n s) (hn:n <= 16) (hy:0 <= y /\ y < n):y ∈ (visit y s).1:=by
 unfold visit; split
 ·rename_i hv
  have:=(h.has y.toNat (by omega)).1 hv
  rw[show ((y.toNat:Nat):Int) = y by omega] at this; exact this
 ·exact List.mem_append_right _ (List.mem_singleton.2 rfl)
theorem Sx_len {s:Sr} (h:Q.Sx n s):s.1.length <= n.toNat:=by
 have:=nodup_len n.toNat (s.1.map Int.toNat) (List.pairwise_map.2 (List.Pairwise.imp_of_mem (fun {a c} ha hc hne ee=>by
  have:=h.lt a ha
  have:=h.lt c hc
  omega) h.nd)) fun z hz=>by
  obtain ⟨u,hu,rfl⟩:=List.mem_map.1 hz
  have:=h.lt u hu
  omega
 simpa using this
theorem Sx_step (hn:1 <= n /\ n <= 16) (hb:ltP b n) (hw:ltP w n) {s:Sr} (h:Q.Sx n s) {k:Nat} (hk:k < s.1.length):Q.Sx n (srStep b w k s):=by
 have hm:gi s.1 k ∈ s.1:=by rw[gi_of hk]; exact List.getElem_mem hk
 have hz:=h.lt _ hm
 exact Q.Sx.visit hn (Q.Sx.visit hn h (hb (gi s.1 k).toNat (by omega))) (hw (gi s.1 k).toNat (by omega))
theorem srRun_cl (hn:1 <= n /\ n <= 16) (hb:ltP b n) (hw:ltP w n):∀ (m i:Nat) {s:Sr},i + m = 17 -> Q.Sx n s -> i <= s.1.length -> (∀ j,j < i -> gi b (gi s.1 j).toNat ∈ s.1 /\ gi w (gi s.1 j).toNat ∈ s.1) ->
  Q.Sx n (srRun b w m i s) /\ (∀ z ∈ s.1,z ∈ (srRun b w m i s).1) /\ ∀ z ∈ (srRun b w m i s).1,gi b z.toNat ∈ (srRun b w m i s).1 /\ gi w z.toNat ∈ (srRun b w m i s).1
 | 0,i,s,e,h,hi,hc=>by
  have:=Sx_len h
  omega
 | m + 1,i,s,e,h,hi,hc=>by
  simp only[srRun]
  split
  ·rename_i hlt
   have h':=Sx_step hn hb hw h hlt
   have hm:gi s.1 i ∈ s.1:=by rw[gi_of hlt]; exact List.getElem_mem hlt
   have hz:=h.lt _ hm
   have by_:=hb (gi s.1 i).toNat (by omega)
   have wy_:=hw (gi s.1 i).toNat (by omega)
   have sub:∀ z ∈ s.1,z ∈ (srStep b w i s).1:=fun z hz=>visit_sub (visit_sub hz)
   obtain ⟨c1,c2,c3⟩:=srRun_cl hn hb hw m (i + 1) (s:=srStep b w i s) (by omega) h' (Nat.le_trans hlt srStep_len) fun j hj=>by
    rw[srStep_pre (show j < s.1.length by omega)]
    by_cases q:j = i
    ·subst q
     exact ⟨visit_sub (visit_has h hn.2 by_),visit_has (Q.Sx.visit hn h by_) hn.2 wy_⟩
    ·exact ⟨sub _ (hc j (by omega)).1,sub _ (hc j (by omega)).2⟩
   exact ⟨c1,fun z hz=>c2 z (sub z hz),c3⟩
  ·refine ⟨h,fun z hz=>hz,fun z hz=>?_⟩
   obtain ⟨j,hj,rfl⟩:=List.getElem_of_mem hz
   have:=hc j (by omega)
   rw[gi_of hj] at this; exact this
theorem srRun_ind (hb:ltP b n) (hw:ltP w n) {S:Nat -> Prop} (hB:∀ x,x < n.toNat -> S x -> S (fp b x)) (hW:∀ x,x < n.toNat -> S x -> S (fp w x)):∀ (m i:Nat) {s:Sr},(∀ z ∈ s.1,(0 <= z /\ z < n) /\ S z.toNat) -> ∀ z ∈ (srRun b w m i s).1,S z.toNat
 | 0,i,s,h=>fun z hz=>(h z hz).2
 | m + 1,i,s,h=>by
  simp only[srRun]
  split
  ·rename_i hlt
   have hm:gi s.1 i ∈ s.1:=by rw[gi_of hlt]; exact List.getElem_mem hlt
   obtain ⟨hz,hS⟩:=h _ hm
   have by_:=hb (gi s.1 i).toNat (by omega)
   have wy_:=hw (gi s.1 i).toNat (by omega)
   have hv:∀ (y:Int) (s:Sr),(∀ z ∈ s.1,(0 <= z /\ z < n) /\ S z.toNat) -> ((0 <= y /\ y < n) /\ S y.toNat) -> ∀ z ∈ (visit y s).1,(0 <= z /\ z < n) /\ S z.toNat:=fun y s hs hy z hz=>by
    unfold visit at hz
    split at hz
    ·exact hs z hz
    ·rcases List.mem_append.1 hz with hz | hz
     ·exact hs z hz
     ·rw[List.mem_singleton.1 hz]; exact hy
   exact srRun_ind hb hw hB hW m (i + 1) (hv _ _ (hv _ _ h ⟨by_,hB _ (by omega) hS⟩) ⟨wy_,hW _ (by omega) hS⟩)
  ·exact fun z hz=>(h z hz).2
theorem full_len {L:List Int} (hn:0 <= n) (h:∀ x:Nat,x < n.toNat -> (x:Int) ∈ L):n.toNat <= L.length:=by
 have:=List.Nodup.length_le_of_subset (l₁:=(List.range n.toNat).map fun x:Nat=>(x:Int)) (l₂:=L) (List.pairwise_map.2 (List.Pairwise.imp (fun {a c} h e=>h (by omega)) List.nodup_range)) fun z hz=>by
  obtain ⟨x,hx,rfl⟩:=List.mem_map.1 hz
  exact h x (List.mem_range.1 hx)
 simpa using this
theorem full_mem {L:List Int} (nd:L.Nodup) (lt:∀ y ∈ L,0 <= y /\ y < n) (hl:n.toNat <= L.length) {x:Nat} (hx:x < n.toNat):(x:Int) ∈ L:=by
 refine Classical.byContradiction fun hno=>?_
 have hnd:(x :: L.map Int.toNat).Nodup:=by
  refine List.nodup_cons.2 ⟨fun hm=>?_,List.pairwise_map.2 (List.Pairwise.imp_of_mem ?_ nd)⟩
  ·obtain ⟨z,hz,ez⟩:=List.mem_map.1 hm
   have:=lt z hz
   rw[show z = (x:Int) from by omega] at hz
   exact hno hz
  ·intro a c ha hc hne ee
   have:=lt a ha
   have:=lt c hc
   omega
 have:=nodup_len n.toNat _ hnd fun z hz=>by
  rcases List.mem_cons.1 hz with rfl | hz
  ·omega
  ·obtain ⟨u,hu,rfl⟩:=List.mem_map.1 hz
   have:=lt u hu
   omega
 simp at this
 omega
theorem cnt_of (hn:1 <= n /\ n <= 16) (hb:ltP b n) (hw:ltP w n) (hall:∀ S:Nat -> Prop,S 0 -> (∀ x,x < n.toNat -> S x -> S (fp b x)) -> (∀ x,x < n.toNat -> S x -> S (fp w x)) -> ∀ x,x < n.toNat -> S x):(cntR b w:Int) = n:=by
 obtain ⟨c1,c2,c3⟩:=srRun_cl hn hb hw 17 0 rfl (Q.Sx.zero hn) (Nat.zero_le _) fun j hj=>absurd hj (Nat.not_lt_zero j)
 have fin:=hall (fun x=>(x:Int) ∈ (srRun b w 17 0 sr0).1) (c2 0 (by simp[sr0])) (fun x hx h=>by
  have:=(c3 _ h).1
  have bx:=hb x (by omega)
  rw[Int.toNat_natCast] at this
  unfold fp; rw[show (((gi b x).toNat:Nat):Int) = gi b x by omega]; exact this) (fun x hx h=>by
  have:=(c3 _ h).2
  have wx:=hw x (by omega)
  rw[Int.toNat_natCast] at this
  unfold fp; rw[show (((gi w x).toNat:Nat):Int) = gi w x by omega]; exact this)
 have h1:=full_len (by omega) fin
 have h2:=Sx_len c1
 unfold cntR
 omega
theorem Dz.alls (h:Dz n b w) {S:Nat -> Prop} (h0:S 0) (hB:∀ x,x < n.toNat -> S x -> S (fp b x)) (hW:∀ x,x < n.toNat -> S x -> S (fp w x)):∀ x,x < n.toNat -> S x:=fun x hx=>by
 have hn:=h.B.hn
 obtain ⟨c1,c2,c3⟩:=srRun_cl hn h.B.lt h.W.lt 17 0 rfl (Q.Sx.zero hn) (Nat.zero_le _) fun j hj=>absurd hj (Nat.not_lt_zero j)
 have hc:=h.D.cn
 unfold cntR at hc
 have hm:=full_mem c1.nd c1.lt (by omega) hx
 have:=srRun_ind h.B.lt h.W.lt hB hW 17 0 (s:=sr0) (fun z hz=>by
  have:z = 0:=by simpa [sr0] using hz
  subst this; exact ⟨by omega,h0⟩) _ hm
 simpa using this
theorem cl_back {p:List Int} {N:Nat} (hp:Pf p N) {S:Nat -> Prop} (hS:∀ x,x < N -> S x -> S (fp p x)) {x:Nat} (hx:x < N) (h:S (fp p x)):S x:=by
 obtain ⟨K,h1,h2⟩:=it_ret hp hx
 obtain ⟨k,rfl⟩:∃ k,K = k + 1:=⟨K - 1,by omega⟩
 rw[it_succ] at h2
 rw[<-h2]
 have:∀ k,S (it p k (fp p x)):=fun k=>by
  induction k with
  | zero=>exact h
  | succ k ih=>exact hS _ (it_lt hp (hp.lt x hx) k) ih
 exact this k
theorem Dz.alls_from (h:Dz n b w) {S:Nat -> Prop} {x0:Nat} (hx0:x0 < n.toNat) (h0:S x0) (hB:∀ x,x < n.toNat -> S x -> S (fp b x)) (hW:∀ x,x < n.toNat -> S x -> S (fp w x)):∀ x,x < n.toNat -> S x:=by
 refine h.alls (Classical.byContradiction fun hno=>?_) hB hW
 exact h.alls (S:=fun y=>¬ S y) hno (fun x hx hs q=>hs (cl_back h.B.pf hB hx q)) (fun x hx hs q=>hs (cl_back h.W.pf hW hx q)) x0 hx0 h0
theorem srX_Sx (hn:1 <= n /\ n <= 16) {x:Nat} (hx:x < n.toNat):Q.Sx n (srX x):=by
 refine ⟨by simp[srX],by simp[srX],fun y hy=>?_,fun y hy=>?_⟩
 ·simp only[srX,List.mem_singleton]
  rw[gb_set,gb_rep]
  simp
  omega
 ·simp only[srX,List.mem_singleton] at hy; omega
structure Nm (n:Int) (L:List Int):Prop where
 nd:L.Nodup
 lt:∀ y ∈ L,0 <= y /\ y < n
 len:L.length = n.toNat
 all:∀ x:Nat,x < n.toNat -> (x:Int) ∈ L
theorem Dz.nm (h:Dz n b w) {x:Nat} (hx:x < n.toNat):Nm n (nmdL b w x):=by
 have hn:=h.B.hn
 obtain ⟨c1,c2,c3⟩:=srRun_cl hn h.B.lt h.W.lt 17 0 rfl (srX_Sx hn hx) (Nat.zero_le _) fun j hj=>absurd hj (Nat.not_lt_zero j)
 have fin:=h.alls_from (S:=fun y=>(y:Int) ∈ nmdL b w x) hx (c2 x (by simp[srX])) (fun y hy hm=>by
  have:=(c3 _ hm).1
  have bx:=h.B.lt y (by omega)
  rw[Int.toNat_natCast] at this
  unfold fp; rw[show (((gi b y).toNat:Nat):Int) = gi b y by omega]; exact this) (fun y hy hm=>by
  have:=(c3 _ hm).2
  have wx:=h.W.lt y (by omega)
  rw[Int.toNat_natCast] at this
  unfold fp; rw[show (((gi w y).toNat:Nat):Int) = gi w y by omega]; exact this)
 refine ⟨c1.nd,c1.lt,?_,fin⟩
 have h1:=full_len (by omega) fin
 have h2:=Sx_len c1
 unfold nmdL at *
 omega
theorem nameT_at {L:List Int} (nd:L.Nodup) (lt:∀ y ∈ L,0 <= y /\ y < 16):∀ s,s <= L.length -> ∀ j,j < s -> gi (nameT L s) (gi L j).toNat = j
 | 0,_,j,hj=>absurd hj (Nat.not_lt_zero j)
 | s + 1,hs,j,hj=>by
  simp only[nameT]
  have m1:gi L j ∈ L:=by rw[gi_of (show j < L.length by omega)]; exact List.getElem_mem _
  have m2:gi L s ∈ L:=by rw[gi_of (show s < L.length by omega)]; exact List.getElem_mem _
  have l1:=lt _ m1
  have l2:=lt _ m2
  rw[gi_set,nameT_len]
  by_cases e:j = s
  ·subst e; rw[if_pos ⟨rfl,by omega⟩]
  ·rw[if_neg,nameT_at nd lt s (by omega) j (by omega)]
   rintro ⟨q,_⟩
   have q:gi L s = gi L j:=by omega
   rw[gi_of (show s < L.length by omega),gi_of (show j < L.length by omega)] at q
   exact e ((List.getElem_inj nd).1 q).symm
theorem nmx_at (hn:n <= 16) {L:List Int} (h:Nm n L) {j:Nat} (hj:j < n.toNat):fp (nameT L L.length) (gi L j).toNat = j:=by
 unfold fp
 rw[nameT_at h.nd (fun y hy=>by have:=h.lt y hy; omega) _ (Nat.le_refl _) j (by rw[h.len]; exact hj)]; simp
theorem nm_ex {L:List Int} (h:Nm n L) {y:Nat} (hy:y < n.toNat):∃ j,j < n.toNat /\ (gi L j).toNat = y:=by
 obtain ⟨j,hj,e⟩:=List.getElem_of_mem (h.all y hy)
 exact ⟨j,by rw[<-h.len]; exact hj,by rw[gi_of hj,e]; simp⟩
theorem nm_pf (hn:1 <= n /\ n <= 16) {L:List Int} (h:Nm n L):Pf (nameT L L.length) n.toNat:=by
 refine ⟨fun y hy=>?_,fun y z hy hz e=>?_,by omega⟩
 ·obtain ⟨j,hj,rfl⟩:=nm_ex h hy
  rw[nmx_at hn.2 h hj]; exact hj
 ·obtain ⟨j,hj,rfl⟩:=nm_ex h hy
  obtain ⟨k,hk,rfl⟩:=nm_ex h hz
  rw[nmx_at hn.2 h hj,nmx_at hn.2 h hk] at e
  rw[e]
theorem rnT_at {p c:List Int} {N:Nat} (hp:Pf p N):∀ s,s <= N -> ∀ i,i < s -> gi (rnT p c s) (fp p i) = gi p (gi c i).toNat
 | 0,_,i,hi=>absurd hi (Nat.not_lt_zero i)
 | s + 1,hs,i,hi=>by
  have hN:=hp.le
  have l1:=hp.lt s (by omega)
  simp only[rnT]
  rw[gi_set,rnT_len]
  by_cases e:i = s
  ·subst e; rw[if_pos ⟨rfl,by unfold fp at *; omega⟩]
  ·rw[if_neg,rnT_at hp s (by omega) i (by omega)]
   rintro ⟨q,_⟩
   exact e (hp.inj _ _ (by omega) (by omega) q.symm)
theorem rnT_out {p c:List Int} {y:Nat}:∀ s,(∀ i,i < s -> fp p i ≠ y) -> gi (rnT p c s) y = 0
 | 0,_=>by simp only[rnT]; rw[gi_rep]; split <;> rfl
 | s + 1,h=>by
  simp only[rnT]
  rw[gi_set,if_neg fun q=>h s (by omega) q.1,rnT_out s fun i hi=>h i (by omega)]
theorem rnT_fp {p c:List Int} (hp:Pf p n.toNat) {i:Nat} (hi:i < n.toNat):fp (rnT p c n.toNat) (fp p i) = fp p (fp c i):=by
 conv=>lhs; unfold fp
 have:=rnT_at (c:=c) hp _ (Nat.le_refl _) i hi
 unfold fp at this ⊢
 rw[this]
structure Iso (n:Int) (b w b' w' σ:List Int):Prop where
 pf:Pf σ n.toNat
 eb:∀ x,x < n.toNat -> fp b' (fp σ x) = fp σ (fp b x)
 ew:∀ x,x < n.toNat -> fp w' (fp σ x) = fp σ (fp w x)
variable {b' w' σ:List Int}
theorem Iso.symm (hn:1 <= n /\ n <= 16) (i:Iso n b w b' w' σ) (hb:Pf b n.toNat) (hw:Pf w n.toNat):Iso n b' w' b w (backP σ n):=by
 refine ⟨back_pf hn i.pf,fun x hx=>?_,fun x hx=>?_⟩
 ·obtain ⟨y,hy,rfl⟩:=i.pf.onto hx
  rw[back_fp i.pf hy,i.eb y hy,back_fp i.pf (hb.lt y hy)]
 ·obtain ⟨y,hy,rfl⟩:=i.pf.onto hx
  rw[back_fp i.pf hy,i.ew y hy,back_fp i.pf (hw.lt y hy)]
theorem Iso.trans (hn:1 <= n /\ n <= 16) {b'' w'' τ:List Int} (i:Iso n b w b' w' σ) (j:Iso n b' w' b'' w'' τ) (hb:Pf b n.toNat) (hw:Pf w n.toNat):Iso n b w b'' w'' (thenP σ τ n):=by
 refine ⟨then_pf hn i.pf j.pf,fun x hx=>?_,fun x hx=>?_⟩
 ·rw[then_fp hn hx,j.eb _ (i.pf.lt x hx),i.eb x hx,then_fp hn (hb.lt x hx)]
 ·rw[then_fp hn hx,j.ew _ (i.pf.lt x hx),i.ew x hx,then_fp hn (hw.lt x hx)]
theorem Iso.face (h:Dz n b w) (h':Dz n b' w') (i:Iso n b w b' w' σ) {x:Nat} (hx:x < n.toNat):fp (faceP b' w' n) (fp σ x) = fp σ (fp (faceP b w n) x):=by
 have hf:=h.F.pf.lt x hx
 have h1:=h'.face (i.pf.lt _ hf)
 rw[i.eb _ hf,i.ew _ (h.B.pf.lt _ hf),h.face' hx] at h1
 exact h1
theorem Iso.dz (h:Dz n b w) (i:Iso n b w b' w' σ) (hb:Pd b' n) (hw:Pd w' n) (pb:isPm b' n) (pw:isPm w' n):isD n b' w':=by
 refine ⟨pb,pw,cnt_of hb.hn hb.lt hw.lt fun S h0 hB hW x hx=>?_⟩
 obtain ⟨y,hy,rfl⟩:=i.pf.onto hx
 obtain ⟨z,hz,ez⟩:=i.pf.onto (show 0 < n.toNat by have:=hb.hn; omega)
 exact h.alls_from (S:=fun y=>S (fp σ y)) hz (by rw[ez]; exact h0) (fun y hy hs=>by rw[<-i.eb y hy]; exact hB _ (i.pf.lt y hy) hs) (fun y hy hs=>by rw[<-i.ew y hy]; exact hW _ (i.pf.lt y hy) hs) y hy
structure SrSim (n:Int) (σ:List Int) (s s':Sr):Prop where
 sa:Q.Sx n s
 sb:Q.Sx n s'
 e:s'.1 = s.1.map fun y=>(fp σ y.toNat:Int)
theorem SrSim.gb {s s':Sr} (h:SrSim n σ s s') (hn:n <= 16) (hσ:Pf σ n.toNat) {y:Nat} (hy:y < n.toNat):gb s'.2 (fp σ y) = gb s.2 y:=by
 have h1:=h.sa.has y (by omega)
 have h2:=h.sb.has (fp σ y) (by have:=hσ.lt y hy; omega)
 rw[h.e] at h2
 have h3:((fp σ y:Nat):Int) ∈ s.1.map (fun y=>(fp σ y.toNat:Int)) ↔ (y:Int) ∈ s.1:=by
  constructor
  ·intro hm
   obtain ⟨z,hz,e⟩:=List.mem_map.1 hm
   have:=h.sa.lt z hz
   have:=hσ.inj z.toNat y (by omega) hy (by omega)
   rw[show (y:Int) = z by omega]; exact hz
  ·intro hm
   exact List.mem_map.2 ⟨_,hm,by simp⟩
 rw[h3] at h2
 cases h4:Sep.gb s.2 y <;> cases h5:Sep.gb s'.2 (fp σ y) <;> simp_all
theorem SrSim.visit {s s':Sr} (h:SrSim n σ s s') (hn:1 <= n /\ n <= 16) (hσ:Pf σ n.toNat) {y:Nat} (hy:y < n.toNat):SrSim n σ (visit y s) (visit (fp σ y:Nat) s'):=by
 have hl:=hσ.lt y hy
 refine ⟨Q.Sx.visit hn h.sa (by omega),Q.Sx.visit hn h.sb (by omega),?_⟩
 have:=h.gb hn.2 hσ hy
 unfold Sep.visit
 simp only[Int.toNat_natCast]
 rw[this]
 split
 ·exact h.e
 ·simp only[List.map_append,List.map_cons,List.map_nil,Int.toNat_natCast]; rw[h.e]
theorem SrSim.run (hn:1 <= n /\ n <= 16) (hb:Pd b n) (hw:Pd w n) (lb:lo16 b') (lw:lo16 w') (i:Iso n b w b' w' σ):∀ (m k:Nat) {s s':Sr},SrSim n σ s s' -> SrSim n σ (srRun b w m k s) (srRun b' w' m k s')
 | 0,k,s,s',h=>h
 | m + 1,k,s,s',h=>by
  have hl:s'.1.length = s.1.length:=by rw[h.e]; simp
  simp only[srRun,hl]
  split
  ·rename_i hlt
   refine SrSim.run hn hb hw lb lw i m (k + 1) ?_
   have hm:gi s.1 k ∈ s.1:=by rw[gi_of hlt]; exact List.getElem_mem hlt
   have hz:=h.sa.lt _ hm
   obtain ⟨z,hz1,ez⟩:∃ z:Nat,z < n.toNat /\ gi s.1 k = z:=⟨(gi s.1 k).toNat,by omega,by omega⟩
   have e1:gi s'.1 k = (fp σ z:Nat):=by
    rw[h.e,gi_of (by simpa using hlt),List.getElem_map,<-gi_of hlt,ez,Int.toNat_natCast]
   unfold srStep
   rw[e1,ez]
   simp only[Int.toNat_natCast]
   have q1:gi b z = (fp b z:Nat):=fp_nn hb.lo z
   have q2:gi w z = (fp w z:Nat):=fp_nn hw.lo z
   have q3:gi b' (fp σ z) = (fp σ (fp b z):Nat):=by rw[<-i.eb z hz1]; exact fp_nn lb _
   have q4:gi w' (fp σ z) = (fp σ (fp w z):Nat):=by rw[<-i.ew z hz1]; exact fp_nn lw _
   rw[q1,q2,q3,q4]
   exact (h.visit hn i.pf (hb.pf.lt z hz1)).visit hn i.pf (hw.pf.lt z hz1)
  ·exact h
def frB (b w:List Int) (n:Int) (x:Int):List Int:=rnT (nmgP b w x) b n.toNat
def frW (b w:List Int) (n:Int) (x:Int):List Int:=rnT (nmgP b w x) w n.toNat
theorem nmg_pf (h:Dz n b w) {x:Nat} (hx:x < n.toNat):Pf (nmgP b w x) n.toNat:=nm_pf h.B.hn (h.nm hx)
theorem frm_iso (h:Dz n b w) {x:Nat} (hx:x < n.toNat):Iso n b w (frB b w n x) (frW b w n x) (nmgP b w x) :=
 ⟨nmg_pf h hx,fun y hy=>rnT_fp (nmg_pf h hx) hy,fun y hy=>rnT_fp (nmg_pf h hx) hy⟩
theorem rn_lt {p c:List Int} (hn:1 <= n /\ n <= 16) (hp:Pf p n.toNat) (hc:Pf c n.toNat) (lp:lo16 p) (lc:lo16 c):lo16 (rnT p c n.toNat) /\ ltP (rnT p c n.toNat) n /\ Pf (rnT p c n.toNat) n.toNat /\ isPm (rnT p c n.toNat) n:=by
 have l:=rnT_lo lp lc n.toNat (by omega)
 have hlt:∀ y,y < n.toNat -> fp (rnT p c n.toNat) y < n.toNat:=fun y hy=>by
  obtain ⟨i,hi,rfl⟩:=hp.onto hy
  rw[rnT_fp hp hi]; exact hp.lt _ (hc.lt i hi)
 have pf:Pf (rnT p c n.toNat) n.toNat:=by
  refine ⟨hlt,fun y z hy hz e=>?_,by omega⟩
  obtain ⟨i,hi,rfl⟩:=hp.onto hy
  obtain ⟨j,hj,rfl⟩:=hp.onto hz
  rw[rnT_fp hp hi,rnT_fp hp hj] at e
  rw[hc.inj i j hi hj (hp.inj _ _ (hc.lt i hi) (hc.lt j hj) e)]
 refine ⟨l,fun y hy=>?_,pf,hn,fun j hj=>⟨fun hjn=>⟨?_,fun k hk e=>?_⟩,fun hjn=>?_⟩⟩
 ·have:=hlt y (by omega)
  rw[fp_nn l y]; omega
 ·have:=hlt j (by omega)
  rw[fp_nn l j]; omega
 ·rw[fp_nn l k,fp_nn l j] at e
  have:=pf.inj k j (by omega) (by omega) (by omega)
  omega
 ·exact rnT_out _ fun i hi e=>by have:=hp.lt i hi; omega
theorem nmg_lo (h:Dz n b w) {x:Nat} (hx:x < n.toNat):lo16 (nmgP b w x):=nmgP_lo h.B.lo h.W.lo (by have:=h.B.hn; omega)
theorem lo16.ok {p:List Int} (h:lo16 p):okP p:=⟨h.1,fun i hi=>by have:=h.2 i hi; omega⟩
theorem frm_dz (h:Dz n b w) {x:Nat} (hx:x < n.toNat):Dz n (frB b w n x) (frW b w n x):=by
 obtain ⟨a1,a2,a3,a4⟩:=rn_lt h.B.hn (nmg_pf h hx) h.B.pf (nmg_lo h hx) h.B.lo
 obtain ⟨c1,c2,c3,c4⟩:=rn_lt h.B.hn (nmg_pf h hx) h.W.pf (nmg_lo h hx) h.W.lo
 exact ((frm_iso h hx).dz h ⟨a1,a2,h.B.hn,a3⟩ ⟨c1,c2,h.B.hn,c3⟩ a4 c4).dz a1.ok c1.ok
theorem nm_sim (h:Dz n b w) (h':Dz n b' w') (i:Iso n b w b' w' σ) {x:Nat} (hx:x < n.toNat):nmdL b' w' (fp σ x:Nat) = (nmdL b w x).map fun y=>(fp σ y.toNat:Int):=by
 have hl:=i.pf.lt x hx
 exact (SrSim.run h.B.hn h.B h.W h'.B.lo h'.W.lo i 17 0 (s:=srX x) (s':=srX (fp σ x:Nat)) ⟨srX_Sx h.B.hn hx,srX_Sx h.B.hn hl,by simp[srX]⟩).e
theorem nmg_sim (h:Dz n b w) (h':Dz n b' w') (i:Iso n b w b' w' σ) {x y:Nat} (hx:x < n.toNat) (hy:y < n.toNat):fp (nmgP b' w' (fp σ x:Nat)) (fp σ y) = fp (nmgP b w x) y:=by
 have hn:=h.B.hn
 have m:=h.nm hx
 have m':=h'.nm (i.pf.lt x hx)
 obtain ⟨j,hj,rfl⟩:=nm_ex m hy
 have e1:=nmx_at hn.2 m hj
 have e2:=nmx_at hn.2 m' hj
 have e3:(gi (nmdL b' w' (fp σ x:Nat)) j).toNat = fp σ (gi (nmdL b w x) j).toNat:=by
  rw[nm_sim h h' i hx,gi_of (by rw[List.length_map,m.len]; exact hj),List.getElem_map,<-gi_of (by rw[m.len]; exact hj),Int.toNat_natCast]
 rw[e3] at e2
 unfold nmgP
 rw[e1,e2]
theorem rn_eq {p c p' c':List Int} (hn:1 <= n /\ n <= 16) (hp:Pf p n.toNat) (hp':Pf p' n.toNat) (hσ:Pf σ n.toNat) (lp:lo16 p) (lc:lo16 c) (lp':lo16 p') (lc':lo16 c')
  (h:∀ y,y < n.toNat -> fp p' (fp σ y) = fp p y) (hc:∀ y,y < n.toNat -> fp c y < n.toNat /\ fp c' (fp σ y) = fp σ (fp c y)):rnT p' c' n.toNat = rnT p c n.toNat:=by
 refine gi_ext16 (rnT_len _) (rnT_len _) fun z hz=>?_
 by_cases hzn:z < n.toNat
 ·obtain ⟨y,hy,rfl⟩:=hp.onto hzn
  have e1:=rnT_fp (c:=c) hp hy
  have e2:=rnT_fp (c:=c') hp' (hσ.lt y hy)
  rw[h y hy,(hc y hy).2,h _ (hc y hy).1] at e2
  rw[fp_nn (rnT_lo lp' lc' n.toNat (by omega)),fp_nn (rnT_lo lp lc n.toNat (by omega)),e1,e2]
 ·rw[rnT_out (p:=p') _ fun i hi e=>by have:=hp'.lt i hi; omega,rnT_out (p:=p) _ fun i hi e=>by have:=hp.lt i hi; omega]
theorem frm_sim (h:Dz n b w) (h':Dz n b' w') (i:Iso n b w b' w' σ) {x:Nat} (hx:x < n.toNat):frB b' w' n (fp σ x:Nat) = frB b w n x /\ frW b' w' n (fp σ x:Nat) = frW b w n x:=by
 have hn:=h.B.hn
 have hl:=i.pf.lt x hx
 exact ⟨rn_eq hn (nmg_pf h hx) (nmg_pf h' hl) i.pf (nmg_lo h hx) h.B.lo (nmg_lo h' hl) h'.B.lo (fun y hy=>nmg_sim h h' i hx hy) fun y hy=>⟨h.B.pf.lt y hy,i.eb y hy⟩,
  rn_eq hn (nmg_pf h hx) (nmg_pf h' hl) i.pf (nmg_lo h hx) h.W.lo (nmg_lo h' hl) h'.W.lo (fun y hy=>nmg_sim h h' i hx hy) fun y hy=>⟨h.W.pf.lt y hy,i.ew y hy⟩⟩
def Alk (n:Int) (b w b' w':List Int):Prop:=∃ σ,Iso n b w b' w' σ
theorem Alk.symm (h:Dz n b w):Alk n b w b' w' -> Alk n b' w' b w:=fun ⟨σ,i⟩=>⟨_,i.symm h.B.hn h.B.pf h.W.pf⟩
theorem Alk.trans {b'' w'':List Int} (h:Dz n b w):Alk n b w b' w' -> Alk n b' w' b'' w'' -> Alk n b w b'' w'':=fun ⟨σ,i⟩ ⟨τ,j⟩=>⟨_,i.trans h.B.hn j h.B.pf h.W.pf⟩
theorem alk_of (h:Dz n b w) (h':Dz n b' w') {x y:Nat} (hx:x < n.toNat) (hy:y < n.toNat) (e1:frB b' w' n y = frB b w n x) (e2:frW b' w' n y = frW b w n x):Alk n b w b' w':=by
 have i:=frm_iso h hx
 have j:=frm_iso h' hy
 rw[e1,e2] at j
 exact Alk.trans h ⟨_,i⟩ (Alk.symm h' ⟨_,j⟩)
theorem alk_frm (h:Dz n b w) (h':Dz n b' w') (i:Alk n b w b' w') {x:Nat} (hx:x < n.toNat):∃ y,y < n.toNat /\ frB b' w' n y = frB b w n x /\ frW b' w' n y = frW b w n x:=by
 obtain ⟨σ,i⟩:=i
 have:=frm_sim h h' i hx
 exact ⟨_,i.pf.lt x hx,this.1,this.2⟩
def ltL:List Int -> List Int -> Bool
 | a :: l,c :: m=>decide (a < c) || (decide (a = c) && ltL l m)
 | _,_=>false
theorem ltL_tri:∀ {l m:List Int},l.length = m.length -> ltL l m = false -> ltL m l = false -> l = m
 | [],[],_,_,_=>rfl
 | a :: l,c :: m,hl,h1,h2=>by
  simp only[ltL,Bool.or_eq_false_iff,decide_eq_false_iff_not,Bool.and_eq_false_iff] at h1 h2
  have e:a = c:=by omega
  subst e
  have:=ltL_tri (l:=l) (m:=m) (by simpa using hl) (by rcases h1.2 with q | q; exact absurd rfl q; exact q) (by rcases h2.2 with q | q; exact absurd rfl q; exact q)
  rw[this]
 | [],_ :: _,hl,_,_=>by simp at hl
 | _ :: _,[],hl,_,_=>by simp at hl
theorem ltL_irr:∀ {l:List Int},ltL l l = false
 | []=>rfl
 | a :: l=>by simp[ltL,ltL_irr (l:=l)]
theorem ltL_trans:∀ {l m k:List Int},ltL l m = true -> ltL m k = true -> ltL l k = true
 | [],_,_,h,_=>by simp[ltL] at h
 | _ :: _,[],_,h,_=>by simp[ltL] at h
 | _ :: _,_ :: _,[],_,h=>by simp[ltL] at h
 | a :: l,c :: m,d :: k,h1,h2=>by
  simp only[ltL,Bool.or_eq_true,decide_eq_true_eq,Bool.and_eq_true] at h1 h2 ⊢
  rcases h1 with h1 | ⟨h1,h1'⟩ <;> rcases h2 with h2 | ⟨h2,h2'⟩
  ·exact .inl (by omega)
  ·exact .inl (by omega)
  ·exact .inl (by omega)
  ·exact .inr ⟨by omega,ltL_trans h1' h2'⟩
abbrev Fm:=List Int × List Int
def ltD (f g:Fm):Bool:=ltL f.1 g.1 || (decide (f.1 = g.1) && ltL f.2 g.2)
theorem ltD_tri {f g:Fm} (h1:f.1.length = g.1.length) (h2:f.2.length = g.2.length) (a:ltD f g = false) (c:ltD g f = false):f = g:=by
 simp only[ltD,Bool.or_eq_false_iff,Bool.and_eq_false_iff,decide_eq_false_iff_not] at a c
 have e:=ltL_tri h1 a.1 c.1
 have e2:=ltL_tri h2 (by rcases a.2 with q | q; exact absurd e q; exact q) (by rcases c.2 with q | q; exact absurd e.symm q; exact q)
 exact Prod.ext e e2
theorem ltD_irr {f:Fm}:ltD f f = false:=by simp[ltD,ltL_irr]
theorem ltD_trans {f g k:Fm} (a:ltD f g = true) (c:ltD g k = true):ltD f k = true:=by
 simp only[ltD,Bool.or_eq_true,Bool.and_eq_true,decide_eq_true_eq] at a c ⊢
 rcases a with a | ⟨a,a'⟩ <;> rcases c with c | ⟨c,c'⟩
 ·exact .inl (ltL_trans a c)
 ·rw[<-c]; exact .inl a
 ·rw[a]; exact .inl c
 ·exact .inr ⟨a.trans c,ltL_trans a' c'⟩
def frm (b w:List Int) (n:Int) (x:Int):Fm:=(frB b w n x,frW b w n x)
def cnF (b w:List Int) (n:Int):Nat -> Fm
 | 0=>frm b w n 0
 | s + 1=>if ltD (frm b w n ((s + 1:Nat):Int)) (cnF b w n s) = true then frm b w n ((s + 1:Nat):Int) else cnF b w n s
theorem frm_len {x:Int}:(frm b w n x).1.length = 16 /\ (frm b w n x).2.length = 16:=⟨rnT_len _,rnT_len _⟩
theorem cnF_ex:∀ s,∃ x:Nat,x <= s /\ cnF b w n s = frm b w n x
 | 0=>⟨0,Nat.le_refl _,rfl⟩
 | s + 1=>by
  simp only[cnF]
  split
  ·exact ⟨s + 1,Nat.le_refl _,rfl⟩
  ·obtain ⟨x,hx,e⟩:=cnF_ex s
   exact ⟨x,by omega,e⟩
theorem cnF_min:∀ s,∀ x:Nat,x <= s -> ltD (frm b w n x) (cnF b w n s) = false
 | 0,x,hx=>by
  obtain rfl:x = 0:=by omega
  exact ltD_irr
 | s + 1,x,hx=>by
  simp only[cnF]
  split
  ·rename_i hlt
   by_cases e:x = s + 1
   ·subst e; exact ltD_irr
   ·cases hc:ltD (frm b w n x) (frm b w n ((s + 1:Nat):Int)) with
    | false=>rfl
    | true=>exact absurd (ltD_trans hc hlt) (by rw[cnF_min s x (by omega)]; simp)
  ·rename_i hlt
   by_cases e:x = s + 1
   ·subst e; simpa using hlt
   ·exact cnF_min s x (by omega)
def canD (b w:List Int) (n:Int):Fm:=cnF b w n (n.toNat - 1)
theorem canD_ex (h:Dz n b w):∃ x:Nat,x < n.toNat /\ canD b w n = frm b w n x:=by
 obtain ⟨x,hx,e⟩:=cnF_ex (b:=b) (w:=w) (n:=n) (n.toNat - 1)
 have:=h.B.hn
 exact ⟨x,by omega,e⟩
theorem can_alk (h:Dz n b w) (h':Dz n b' w'):canD b w n = canD b' w' n ↔ Alk n b w b' w':=by
 obtain ⟨x,hx,e⟩:=canD_ex h
 obtain ⟨y,hy,e'⟩:=canD_ex h'
 constructor
 ·intro q
  rw[e,e'] at q
  simp only[frm,Prod.mk.injEq] at q
  exact alk_of h h' hx hy q.1.symm q.2.symm
 ·intro i
  obtain ⟨x',hx',f1,f2⟩:=alk_frm h h' i hx
  obtain ⟨y',hy',g1,g2⟩:=alk_frm h' h (i.symm h) hy
  refine ltD_tri ?_ ?_ ?_ ?_
  ·rw[e,e',frm_len.1,frm_len.1]
  ·rw[e,e',frm_len.2,frm_len.2]
  ·rw[e,show frm b w n x = frm b' w' n x' from Prod.ext f1.symm f2.symm]
   exact cnF_min _ x' (by omega)
  ·rw[e',show frm b' w' n y = frm b w n y' from Prod.ext g1.symm g2.symm]
   exact cnF_min _ y' (by omega)
end
end
section
set_option maxHeartbeats 1000000
section
variable {b w p q:List Int} {n:Int} {N:Nat}
theorem putL_no {f:Nat -> Nat × Int} {y:Nat}:∀ k:Nat,(∀ i,i < k -> (f i).1 ≠ y) -> gi (putL f k) y = 0
 | 0,_=>by simp only[putL]; rw[gi_rep]; split <;> rfl
 | k + 1,h=>by simp only[putL]; rw[gi_set,if_neg fun q=>h k (by omega) q.1,putL_no k fun i hi=>h i (by omega)]
theorem isPm_of (hn:1 <= n /\ n <= 16) (lo:lo16 p) (pf:Pf p n.toNat) (out:∀ j:Nat,n <= j -> gi p j = 0):isPm p n:=by
 refine ⟨hn,fun j hj=>⟨fun hjn=>⟨?_,fun k hk e=>?_⟩,fun hjn=>out j hjn⟩⟩
 ·have:=pf.lt j (by omega)
  rw[fp_nn lo j]; omega
 ·rw[fp_nn lo k,fp_nn lo j] at e
  have:=pf.inj k j (by omega) (by omega) (by omega)
  omega
theorem pd_of (hn:1 <= n /\ n <= 16) (lo:lo16 p) (pf:Pf p n.toNat):Pd p n:=⟨lo,fun x hx=>by
 have:=pf.lt x (by omega)
 rw[fp_nn lo x]; omega,hn,pf⟩
theorem back_out (h:Pf p n.toNat) {j:Nat} (hj:n <= j):gi (backP p n) j = 0:=putL_no _ fun i hi=>by
 have:=h.lt i hi
 simp only[backF]; unfold fp at this; omega
theorem back_pm (hn:1 <= n /\ n <= 16) (h:Pf p n.toNat):isPm (backP p n) n:=isPm_of hn (backP_lo hn) (back_pf hn h) fun j hj=>back_out h hj
theorem back_pd (hn:1 <= n /\ n <= 16) (h:Pf p n.toNat):Pd (backP p n) n:=pd_of hn (backP_lo hn) (back_pf hn h)
theorem pm_ext (lp:lo16 p) (lq:lo16 q) (op:∀ j:Nat,n <= j -> gi p j = 0) (oq:∀ j:Nat,n <= j -> gi q j = 0) (h:∀ x,x < n.toNat -> fp p x = fp q x):p = q:=gi_ext16 lp.1 lq.1 fun i hi=>by
 by_cases hin:i < n.toNat
 ·rw[fp_nn lp,fp_nn lq,h i hin]
 ·rw[op i (by omega),oq i (by omega)]
theorem lens_nC (h:(lens p n).Perm (lens q n)):(cyc p n).length = (cyc q n).length:=by
 have:=h.length_eq
 rwa [lens_len,lens_len] at this
theorem it_eqf (hp:Pf p N) (e:∀ x,x < N -> fp p x = fp q x) {x:Nat} (hx:x < N):∀ k,it p k x = it q k x
 | 0=>rfl
 | k + 1=>by simp only[it]; rw[<-it_eqf hp e hx k,e _ (it_lt hp hx k)]
theorem lens_same (hp:Pd p n) (hq:Pd q n) (e:∀ x,x < n.toNat -> fp p x = fp q x):(lens p n).Perm (lens q n):=by
 refine lens_perm hp hq (fun x=>x) (fun g=>rfl) fun x hx=>?_
 have h1:=hp.per hx
 refine (hq.per hx).same ⟨h1.pos,?_,fun j h0 hj q=>?_⟩
 ·rw[<-it_eqf hp.pf e hx]; exact h1.ret
 ·rw[<-it_eqf hp.pf e hx] at q; exact h1.min j h0 hj q
theorem dz_of (hp:Pd p n) (hq:Pd q n) (pp:isPm p n) (pq:isPm q n) (hall:∀ S:Nat -> Prop,S 0 -> (∀ x,x < n.toNat -> S x -> S (fp p x)) -> (∀ x,x < n.toNat -> S x -> S (fp q x)) -> ∀ x,x < n.toNat -> S x):Dz n p q :=
 isD.dz ⟨pp,pq,cnt_of hp.hn hp.lt hq.lt hall⟩ hp.lo.ok hq.lo.ok
theorem Dz.fpm (h:Dz n b w):isPm (faceP b w n) n:=back_pm h.B.hn (then_pf h.B.hn h.B.pf h.W.pf)
theorem Dz.swap (h:Dz n b w):Dz n w b:=dz_of h.W h.B h.D.pw h.D.pb fun S h0 hW hB=>h.alls h0 hB hW
theorem Dz.wf (h:Dz n b w):Dz n w (faceP b w n):=dz_of h.W h.F h.D.pw h.fpm fun S h0 hW hF=>h.alls h0 (fun x hx hs=>by
 have hbx:=h.B.pf.lt x hx
 refine cl_back (then_pf h.B.hn h.W.pf h.F.pf) (fun y hy s=>?_) hbx ?_
 ·rw[then_fp h.B.hn hy]; exact hF _ (h.W.pf.lt y hy) (hW y hy s)
 ·rw[then_fp h.B.hn hbx,h.face hx]; exact hs) hW
theorem Dz.bfw (h:Dz n b w) {x:Nat} (hx:x < n.toNat):fp b (fp (faceP b w n) (fp w x)) = x:=by
 obtain ⟨y,hy,rfl⟩:=h.B.pf.onto hx
 rw[h.face hy]
theorem Dz.fb (h:Dz n b w):Dz n (faceP b w n) b:=dz_of h.F h.B h.fpm h.D.pb fun S h0 hF hB=>h.alls h0 hB (fun x hx hs=>by
 have hwx:=h.W.pf.lt x hx
 refine cl_back (then_pf h.B.hn h.F.pf h.B.pf) (fun y hy s=>?_) hwx ?_
 ·rw[then_fp h.B.hn hy]; exact hB _ (h.F.pf.lt y hy) (hF y hy s)
 ·rw[then_fp h.B.hn hwx,h.bfw hx]; exact hs)
theorem Dz.lf_swap (h:Dz n b w):(lens (faceP b w n) n).Perm (lens (faceP w b n) n):=lens_conj h.F h.swap.F h.B.pf fun x hx=>by
 have hf:=h.F.pf.lt x hx
 have:=h.swap.face (h.B.pf.lt _ hf)
 rw[h.face' hx] at this
 exact this
theorem Dz.lf_wf (h:Dz n b w):(lens (faceP w (faceP b w n) n) n).Perm (lens b n):=lens_same h.wf.F h.B fun x hx=>by
 have:=h.wf.face (h.B.pf.lt x hx)
 rw[h.face hx] at this
 exact this
theorem Dz.lf_fb (h:Dz n b w):(lens (faceP (faceP b w n) b n) n).Perm (lens w n):=lens_same h.fb.F h.W fun x hx=>by
 have:=h.fb.face (h.W.pf.lt x hx)
 rw[h.bfw hx] at this
 exact this
def ex1 (b w:List Int) (n k:Int):List Int:=if k = 0 then b else if k = 1 then w else if k = 2 then w else if k = 3 then faceP b w n else if k = 4 then b else faceP b w n
def ex2 (b w:List Int) (n k:Int):List Int:=if k = 0 then w else if k = 1 then b else if k = 2 then faceP b w n else if k = 3 then b else if k = 4 then faceP b w n else w
theorem Dz.ex (h:Dz n b w) {k:Int} (hk:0 <= k /\ k <= 5):Dz n (ex1 b w n k) (ex2 b w n k) /\ eulN n (ex1 b w n k) (ex2 b w n k) = eulN n b w:=by
 have h1:=lens_nC h.lf_swap
 have h2:=lens_nC h.lf_wf
 have h3:=lens_nC h.lf_fb
 have h4:=lens_nC h.fb.lf_swap
 have h5:=lens_nC h.wf.lf_swap
 have:k = 0 ∨ k = 1 ∨ k = 2 ∨ k = 3 ∨ k = 4 ∨ k = 5:=by omega
 unfold eulN
 rcases this with rfl | rfl | rfl | rfl | rfl | rfl
 ·exact ⟨h,rfl⟩
 ·exact ⟨h.swap,by simp only[ex1,ex2]; simp; omega⟩
 ·exact ⟨h.wf,by simp only[ex1,ex2]; simp; omega⟩
 ·exact ⟨h.fb,by simp only[ex1,ex2]; simp; omega⟩
 ·exact ⟨h.fb.swap,by simp only[ex1,ex2]; simp; omega⟩
 ·exact ⟨h.wf.swap,by simp only[ex1,ex2]; simp; omega⟩
theorem back_lens (h:Pd p n):(lens (backP p n) n).Perm (lens p n):=lens_back (back_pd h.hn h.pf) h (fun x hx=>back_fp' h.pf hx) fun x hx=>back_fp h.pf hx
def sbB (b w:List Int) (N:Nat):Nat -> List Int
 | 0=>List.replicate 16 0
 | s + 1=>((sbB b w N s).set s (gi b s)).set (N + s) (N + gi w s)
def sbW (N:Nat):Nat -> List Int
 | 0=>List.replicate 16 0
 | s + 1=>((sbW N s).set s (N + s)).set (N + s) s
theorem sbB_len:∀ s,(sbB b w N s).length = 16
 | 0=>by simp[sbB]
 | s + 1=>by simp[sbB,sbB_len s]
theorem sbW_len:∀ s,(sbW N s).length = 16
 | 0=>by simp[sbW]
 | s + 1=>by simp[sbW,sbW_len s]
theorem sbB_at (hN:N <= 8) {y:Nat}:∀ s,s <= N -> gi (sbB b w N s) y = if y < s then gi b y else if N <= y /\ y < N + s then N + gi w (y - N) else 0
 | 0,_=>by
  simp only[sbB]
  have e:gi (List.replicate 16 (0:Int)) y = 0:=by rw[gi_rep]; split <;> rfl
  rw[e,if_neg (Nat.not_lt_zero y),if_neg (by omega)]
 | s + 1,hs=>by
  simp only[sbB]
  rw[gi_set,gi_set,List.length_set,sbB_len,sbB_at hN s (by omega)]
  by_cases e:N + s = y
  ·subst e
   rw[if_pos ⟨rfl,by omega⟩,if_neg (by omega),if_pos (by omega)]; simp
  ·rw[if_neg fun q=>e q.1]
   by_cases e2:s = y
   ·subst e2; rw[if_pos ⟨rfl,by omega⟩,if_pos (by omega)]
   ·rw[if_neg fun q=>e2 q.1]
    by_cases e3:y < s
    ·rw[if_pos e3,if_pos (by omega)]
    ·rw[if_neg e3,if_neg (show ¬ y < s + 1 by omega)]
     by_cases e4:N <= y /\ y < N + s
     ·rw[if_pos e4,if_pos (by omega)]
     ·rw[if_neg e4,if_neg (by omega)]
theorem sbW_at (hN:N <= 8) {y:Nat}:∀ s,s <= N -> gi (sbW N s) y = if y < s then ((N + y:Nat):Int) else if N <= y /\ y < N + s then ((y - N:Nat):Int) else 0
 | 0,_=>by
  simp only[sbW]
  have e:gi (List.replicate 16 (0:Int)) y = 0:=by rw[gi_rep]; split <;> rfl
  rw[e,if_neg (Nat.not_lt_zero y),if_neg (by omega)]
 | s + 1,hs=>by
  simp only[sbW]
  rw[gi_set,gi_set,List.length_set,sbW_len,sbW_at hN s (by omega)]
  by_cases e:N + s = y
  ·subst e
   rw[if_pos ⟨rfl,by omega⟩,if_neg (by omega),if_pos (by omega)]; simp
  ·rw[if_neg fun q=>e q.1]
   by_cases e2:s = y
   ·subst e2; rw[if_pos ⟨rfl,by omega⟩,if_pos (by omega)]; simp
   ·rw[if_neg fun q=>e2 q.1]
    by_cases e3:y < s
    ·rw[if_pos e3,if_pos (by omega)]
    ·rw[if_neg e3,if_neg (show ¬ y < s + 1 by omega)]
     by_cases e4:N <= y /\ y < N + s
     ·rw[if_pos e4,if_pos (by omega)]
     ·rw[if_neg e4,if_neg (by omega)]
def suB (b w:List Int) (n:Int):List Int:=sbB b w n.toNat n.toNat
def suW (n:Int):List Int:=sbW n.toNat n.toNat
structure Su (n:Int) (b w:List Int):Prop where
 h:Dz n b w
 n8:n <= 8
theorem Su.b0 (S:Su n b w) {x:Nat} (hx:x < n.toNat):fp (suB b w n) x = fp b x:=by
 unfold fp suB
 rw[sbB_at (by have:=S.n8; omega) _ (Nat.le_refl _),if_pos hx]
theorem Su.b1 (S:Su n b w) {x:Nat} (hx:x < n.toNat):fp (suB b w n) (n.toNat + x) = n.toNat + fp w x:=by
 have:=S.h.W.nn x
 unfold fp suB
 rw[sbB_at (by have:=S.n8; omega) _ (Nat.le_refl _),if_neg (by omega),if_pos (by omega),Nat.add_sub_cancel_left]
 omega
theorem Su.w0 (S:Su n b w) {x:Nat} (hx:x < n.toNat):fp (suW n) x = n.toNat + x:=by
 unfold fp suW
 rw[sbW_at (by have:=S.n8; omega) _ (Nat.le_refl _),if_pos hx]; omega
theorem Su.w1 (S:Su n b w) {x:Nat} (hx:x < n.toNat):fp (suW n) (n.toNat + x) = x:=by
 unfold fp suW
 rw[sbW_at (by have:=S.n8; omega) _ (Nat.le_refl _),if_neg (by omega),if_pos (by omega),Nat.add_sub_cancel_left]; simp
theorem Su.nn (S:Su n b w):(2 * n).toNat = n.toNat + n.toNat /\ n.toNat <= 8 /\ 1 <= n.toNat:=by have:=S.h.B.hn; have:=S.n8; omega
theorem Su.cases (S:Su n b w) {x:Nat} (hx:x < (2 * n).toNat):x < n.toNat ∨ ∃ y,y < n.toNat /\ x = n.toNat + y:=by
 have:=S.nn
 by_cases q:x < n.toNat
 ·exact .inl q
 ·exact .inr ⟨x - n.toNat,by omega,by omega⟩
theorem Su.B (S:Su n b w):Pd (suB b w n) (2 * n) /\ isPm (suB b w n) (2 * n):=by
 obtain ⟨e,h8,h1⟩:=S.nn
 have hn:=S.h.B.hn
 have n8:=S.n8
 have lo:lo16 (suB b w n):=⟨sbB_len _,fun i hi=>by
  unfold suB
  rw[sbB_at h8 _ (Nat.le_refl _)]
  split
  ·exact S.h.B.lo.2 i hi
  ·split
   ·have:=S.h.W.lt (i - n.toNat) (by omega); omega
   ·omega⟩
 have pf:Pf (suB b w n) (2 * n).toNat:=by
  refine ⟨fun x hx=>?_,fun x y hx hy q=>?_,by omega⟩
  ·rcases S.cases hx with q | ⟨y,hy,rfl⟩
   ·rw[S.b0 q]; have:=S.h.B.pf.lt x q; omega
   ·rw[S.b1 hy]; have:=S.h.W.pf.lt y hy; omega
  ·rcases S.cases hx with hx | ⟨x',hx',rfl⟩ <;> rcases S.cases hy with hy | ⟨y',hy',rfl⟩
   ·rw[S.b0 hx,S.b0 hy] at q; exact S.h.B.pf.inj x y hx hy q
   ·rw[S.b0 hx,S.b1 hy'] at q; have:=S.h.B.pf.lt x hx; omega
   ·rw[S.b1 hx',S.b0 hy] at q; have:=S.h.B.pf.lt y hy; omega
   ·rw[S.b1 hx',S.b1 hy'] at q; rw[S.h.W.pf.inj x' y' hx' hy' (by omega)]
 refine ⟨pd_of (by omega) lo pf,isPm_of (by omega) lo pf fun j hj=>?_⟩
 unfold suB
 rw[sbB_at h8 _ (Nat.le_refl _),if_neg (by omega),if_neg (by omega)]
theorem Su.W (S:Su n b w):Pd (suW n) (2 * n) /\ isPm (suW n) (2 * n):=by
 obtain ⟨e,h8,h1⟩:=S.nn
 have hn:=S.h.B.hn
 have n8:=S.n8
 have lo:lo16 (suW n):=⟨sbW_len _,fun i hi=>by
  unfold suW
  rw[sbW_at h8 _ (Nat.le_refl _)]
  split
  ·omega
  ·split <;> omega⟩
 have pf:Pf (suW n) (2 * n).toNat:=by
  refine ⟨fun x hx=>?_,fun x y hx hy q=>?_,by omega⟩
  ·rcases S.cases hx with q | ⟨y,hy,rfl⟩
   ·rw[S.w0 q]; omega
   ·rw[S.w1 hy]; omega
  ·rcases S.cases hx with hx | ⟨x',hx',rfl⟩ <;> rcases S.cases hy with hy | ⟨y',hy',rfl⟩
   ·rw[S.w0 hx,S.w0 hy] at q; omega
   ·rw[S.w0 hx,S.w1 hy'] at q; omega
   ·rw[S.w1 hx',S.w0 hy] at q; omega
   ·rw[S.w1 hx',S.w1 hy'] at q; omega
 refine ⟨pd_of (by omega) lo pf,isPm_of (by omega) lo pf fun j hj=>?_⟩
 unfold suW
 rw[sbW_at h8 _ (Nat.le_refl _),if_neg (by omega),if_neg (by omega)]
theorem Su.dz (S:Su n b w):Dz (2 * n) (suB b w n) (suW n):=dz_of S.B.1 S.W.1 S.B.2 S.W.2 fun Q h0 hB hW=>by
 obtain ⟨e,h8,h1⟩:=S.nn
 have key:=S.h.alls (S:=fun y=>Q y /\ Q (n.toNat + y)) ⟨h0,by have:=hW 0 (by omega) h0; rw[S.w0 (by omega)] at this; exact this⟩ (fun x hx hs=>by
  have h2:=hB x (by omega) hs.1
  rw[S.b0 hx] at h2
  have hl:=S.h.B.pf.lt x hx
  have h3:=hW _ (by omega) h2
  rw[S.w0 hl] at h3
  exact ⟨h2,h3⟩) (fun x hx hs=>by
  have h2:=hB _ (by omega) hs.2
  rw[S.b1 hx] at h2
  have hl:=S.h.W.pf.lt x hx
  have h3:=hW _ (by omega) h2
  rw[S.w1 hl] at h3
  exact ⟨h3,h2⟩)
 intro x hx
 rcases S.cases hx with q | ⟨y,hy,rfl⟩
 ·exact (key x q).1
 ·exact (key y hy).2
theorem smE_app {f:Nat -> Int} {a:Nat}:∀ k,smE (a + k) f = smE a f + smE k fun x=>f (a + x)
 | 0=>by simp[smE]
 | k + 1=>by rw[<-Nat.add_assoc]; simp only[smE]; rw[smE_app k]; omega
theorem smE_const {c:Int}:∀ k,smE k (fun _=>c) = k * c
 | 0=>by simp[smE]
 | k + 1=>by simp only[smE]; rw[smE_const k]; grind
theorem lens_of (hp:Pd p n) {M:List Int} (hM:∀ a ∈ M,1 <= a) (h:∀ c:Nat,1 <= c -> (c:Int) * ((M.count (c:Int):Nat):Int) = smE n.toNat fun x=>if lenW p n x = c then 1 else 0):(lens p n).Perm M:=by
 refine List.perm_iff_count.2 fun c=>?_
 by_cases hc:1 <= c
 ·obtain ⟨k,rfl⟩:∃ k:Nat,c = k:=⟨c.toNat,by omega⟩
  have e1:=hp.lens_cnt k
  rw[<-h k (by omega)] at e1
  have:=Int.eq_of_mul_eq_mul_left (by omega) e1
  omega
 ·rw[List.count_eq_zero_of_not_mem fun h=>hc (hp.len_pos h),List.count_eq_zero_of_not_mem fun h=>hc (hM _ h)]
theorem Su.lenB (S:Su n b w):(cyc (suB b w n) (2 * n)).length = (cyc b n).length + (cyc w n).length:=by
 obtain ⟨e,h8,h1⟩:=S.nn
 have hB:=S.B.1
 have i0:∀ x,x < n.toNat -> ∀ k,it (suB b w n) k x = it b k x:=fun x hx k=>by
  induction k with
  | zero=>rfl
  | succ k ih=>simp only[it]; rw[ih,S.b0 (it_lt S.h.B.pf hx k)]
 have i1:∀ x,x < n.toNat -> ∀ k,it (suB b w n) k (n.toNat + x) = n.toNat + it w k x:=fun x hx k=>by
  induction k with
  | zero=>rfl
  | succ k ih=>simp only[it]; rw[ih,S.b1 (it_lt S.h.W.pf hx k)]
 have l0:∀ x,x < n.toNat -> lenW (suB b w n) (2 * n) x = lenW b n x:=fun x hx=>by
  have h2:=S.h.B.per hx
  exact (hB.per (x:=x) (by omega)).same ⟨h2.pos,by rw[i0 x hx]; exact h2.ret,fun j a c q=>h2.min j a c (by rw[i0 x hx] at q; exact q)⟩
 have l1:∀ x,x < n.toNat -> lenW (suB b w n) (2 * n) (n.toNat + x) = lenW w n x:=fun x hx=>by
  have h2:=S.h.W.per hx
  exact (hB.per (x:=n.toNat + x) (by omega)).same ⟨h2.pos,by rw[i1 x hx,h2.ret],fun j a c q=>h2.min j a c (by rw[i1 x hx] at q; omega)⟩
 have:=(lens_of hB (M:=lens b n ++ lens w n) (fun a ha=>by
  rcases List.mem_append.1 ha with ha | ha
  ·exact S.h.B.len_pos ha
  ·exact S.h.W.len_pos ha) fun c hc=>by
  rw[e,smE_app,List.count_append,Int.natCast_add,Int.mul_add,S.h.B.lens_cnt,S.h.W.lens_cnt]
  congr 1
  ·exact smE_congr _ fun x hx=>by rw[l0 x hx]
  ·exact smE_congr _ fun x hx=>by rw[l1 x hx]).length_eq
 rw[List.length_append,lens_len,lens_len,lens_len] at this
 exact this
theorem Su.pairs (S:Su n b w):∀ x,x < (2 * n).toNat -> fp (suW n) x ≠ x /\ fp (suW n) (fp (suW n) x) = x:=fun x hx=>by
 obtain ⟨e,h8,h1⟩:=S.nn
 rcases S.cases hx with q | ⟨y,hy,rfl⟩
 ·rw[S.w0 q,S.w1 q]; omega
 ·rw[S.w1 hy,S.w0 hy]; omega
theorem Su.lenW (S:Su n b w):(cyc (suW n) (2 * n)).length = n.toNat:=by
 obtain ⟨e,h8,h1⟩:=S.nn
 have hW:=S.W.1
 have l0:∀ x,x < (2 * n).toNat -> Sep.lenW (suW n) (2 * n) x = 2:=fun x hx=>by
  have h2:=S.pairs x hx
  exact (hW.per hx).same ⟨by omega,h2.2,fun j a c q=>h2.1 (by rw[show j = 1 by omega] at q; exact q)⟩
 have:=(lens_of hW (M:=List.replicate n.toNat 2) (fun a ha=>by rw[List.eq_of_mem_replicate ha]; omega) fun c hc=>by
  rw[smE_congr (g:=fun _=>if 2 = c then (1:Int) else 0) _ fun x hx=>by rw[l0 x hx],smE_const,List.count_replicate,e]
  by_cases q:c = 2
  ·subst q; simp; omega
  ·rw[if_neg (by simp; omega),if_neg (by omega)]; simp).length_eq
 rw[lens_len,List.length_replicate] at this
 exact this
theorem Su.lenF (S:Su n b w):(cyc (faceP (suB b w n) (suW n) (2 * n)) (2 * n)).length = (cyc (faceP b w n) n).length:=by
 obtain ⟨e,h8,h1⟩:=S.nn
 have D:=S.dz
 have hF:=D.F
 -- one step from the face permutation
 have s0:∀ y,y < n.toNat -> fp (faceP (suB b w n) (suW n) (2 * n)) (fp w y) = n.toNat + y:=fun y hy=>by
  have:=D.face (x:=n.toNat + y) (by omega)
  rw[S.b1 hy,S.w1 (S.h.W.pf.lt y hy)] at this; exact this
 have s1:∀ y,y < n.toNat -> fp (faceP (suB b w n) (suW n) (2 * n)) (n.toNat + fp b y) = y:=fun y hy=>by
  have:=D.face (x:=y) (by omega)
  rw[S.b0 hy,S.w0 (S.h.B.pf.lt y hy)] at this; exact this
 have t0:∀ x,x < n.toNat -> fp (faceP (suB b w n) (suW n) (2 * n)) x >= n.toNat /\ fp (faceP (suB b w n) (suW n) (2 * n)) (fp (faceP (suB b w n) (suW n) (2 * n)) x) = fp (faceP b w n) x:=fun x hx=>by
  have hf:=S.h.F.pf.lt x hx
  have h2:=s0 (fp b (fp (faceP b w n) x)) (S.h.B.pf.lt _ hf)
  rw[S.h.face' hx] at h2
  rw[h2]
  exact ⟨by omega,s1 _ hf⟩
 have t1:∀ x,x < n.toNat -> fp (faceP (suB b w n) (suW n) (2 * n)) (n.toNat + x) < n.toNat /\ fp (faceP (suB b w n) (suW n) (2 * n)) (fp (faceP (suB b w n) (suW n) (2 * n)) (n.toNat + x)) = n.toNat + fp (faceP w b n) x:=fun x hx=>by
  have hf:=S.h.swap.F.pf.lt x hx
  have h2:=s1 (fp w (fp (faceP w b n) x)) (S.h.W.pf.lt _ hf)
  rw[S.h.swap.face' hx] at h2
  rw[h2]
  exact ⟨S.h.W.pf.lt _ hf,s0 _ hf⟩
 generalize faceP (suB b w n) (suW n) (2 * n) = F at *
 have i0:∀ x,x < n.toNat -> ∀ k,it F (2 * k) x = it (faceP b w n) k x:=fun x hx k=>by
  induction k with
  | zero=>rfl
  | succ k ih =>
   rw[show 2 * (k + 1) = 2 * k + 1 + 1 by omega]
   simp only[it]
   rw[ih]; exact (t0 _ (it_lt S.h.F.pf hx k)).2
 have i1:∀ x,x < n.toNat -> ∀ k,it F (2 * k) (n.toNat + x) = n.toNat + it (faceP w b n) k x:=fun x hx k=>by
  induction k with
  | zero=>rfl
  | succ k ih =>
   rw[show 2 * (k + 1) = 2 * k + 1 + 1 by omega]
   simp only[it]
   rw[ih]; exact (t1 _ (it_lt S.h.swap.F.pf hx k)).2
 have l0:∀ x,x < n.toNat -> Sep.lenW F (2 * n) x = 2 * Sep.lenW (faceP b w n) n x:=fun x hx=>by
  have h2:=S.h.F.per hx
  have hp:=h2.pos
  refine (hF.per (x:=x) (by omega)).same ⟨by omega,by rw[i0 x hx]; exact h2.ret,fun j a c q=>?_⟩
  obtain ⟨i,rfl | rfl⟩:∃ i,j = 2 * i ∨ j = 2 * i + 1:=⟨j / 2,by omega⟩
  ·rw[i0 x hx] at q
   exact h2.min i (by omega) (by omega) q
  ·simp only[it] at q
   rw[i0 x hx] at q
   have:=(t0 _ (it_lt S.h.F.pf hx i)).1
   omega
 have l1:∀ x,x < n.toNat -> Sep.lenW F (2 * n) (n.toNat + x) = 2 * Sep.lenW (faceP w b n) n x:=fun x hx=>by
  have h2:=S.h.swap.F.per hx
  have hp:=h2.pos
  refine (hF.per (x:=n.toNat + x) (by omega)).same ⟨by omega,by rw[i1 x hx,h2.ret],fun j a c q=>?_⟩
  obtain ⟨i,rfl | rfl⟩:∃ i,j = 2 * i ∨ j = 2 * i + 1:=⟨j / 2,by omega⟩
  ·rw[i1 x hx] at q
   exact h2.min i (by omega) (by omega) (by omega)
  ·simp only[it] at q
   rw[i1 x hx] at q
   have:=(t1 _ (it_lt S.h.swap.F.pf hx i)).1
   omega
 have:=(lens_of hF (M:=(lens (faceP b w n) n).map fun a=>2 * a) (fun a ha=>by
  obtain ⟨c,hc,rfl⟩:=List.mem_map.1 ha
  have:=S.h.F.len_pos hc; omega) fun c hc=>by
  rw[e,smE_app,smE_congr (g:=fun x=>if 2 * Sep.lenW (faceP b w n) n x = c then (1:Int) else 0) _ fun x hx=>by rw[l0 x hx],
   smE_congr (f:=fun x=>if Sep.lenW F (2 * n) (n.toNat + x) = c then (1:Int) else 0) (g:=fun x=>if 2 * Sep.lenW (faceP w b n) n x = c then (1:Int) else 0) _ fun x hx=>by rw[l1 x hx]]
  obtain ⟨i,rfl | rfl⟩:∃ i,c = 2 * i ∨ c = 2 * i + 1:=⟨c / 2,by omega⟩
  ·have c1:=S.h.F.lens_cnt i
   have c2:=S.h.swap.F.lens_cnt i
   have c3:=(List.perm_iff_count.1 S.h.lf_swap) (i:Int)
   have e1:((lens (faceP b w n) n).map fun a=>2 * a).count ((2 * i:Nat):Int) = (lens (faceP b w n) n).count (i:Int):=by
    rw[show ((2 * i:Nat):Int) = 2 * (i:Int) by omega]
    induction lens (faceP b w n) n with
    | nil=>rfl
    | cons a l ih =>
     rw[List.map_cons,List.count_cons,List.count_cons,ih]
     congr 1
     by_cases q:a = i
     ·subst q; simp
     ·rw[if_neg (by simp only[beq_iff_eq]; omega),if_neg (by simp only[beq_iff_eq]; omega)]
   rw[e1]
   have c4:(smE n.toNat fun x=>if 2 * Sep.lenW (faceP b w n) n x = 2 * i then (1:Int) else 0) = smE n.toNat fun x=>if Sep.lenW (faceP b w n) n x = i then 1 else 0:=smE_congr _ fun x hx=>by
    by_cases q:Sep.lenW (faceP b w n) n x = i
    ·rw[if_pos q,if_pos (by omega)]
    ·rw[if_neg q,if_neg (by omega)]
   have c5:(smE n.toNat fun x=>if 2 * Sep.lenW (faceP w b n) n x = 2 * i then (1:Int) else 0) = smE n.toNat fun x=>if Sep.lenW (faceP w b n) n x = i then 1 else 0:=smE_congr _ fun x hx=>by
    by_cases q:Sep.lenW (faceP w b n) n x = i
    ·rw[if_pos q,if_pos (by omega)]
    ·rw[if_neg q,if_neg (by omega)]
   rw[c4,c5,<-c1,<-c2,<-c3]
   rw[show ((2 * i:Nat):Int) = 2 * (i:Int) by omega]; grind
  ·rw[List.count_eq_zero_of_not_mem fun h=>by
    obtain ⟨a,_,ha⟩:=List.mem_map.1 h
    omega]
   rw[smE_congr (g:=fun _=>0) _ fun x hx=>if_neg (by omega),smE_zero,smE_congr (g:=fun _=>0) _ fun x hx=>if_neg (by omega),smE_zero]; simp).length_eq
 rw[List.length_map,lens_len,lens_len] at this
 exact this
theorem Su.eul (S:Su n b w):eulN (2 * n) (suB b w n) (suW n) = eulN n b w:=by
 obtain ⟨e,h8,h1⟩:=S.nn
 have a:=S.lenB
 have c:=S.lenW
 have d:=S.lenF
 unfold eulN
 omega
end
end
section
set_option maxHeartbeats 1000000
open Classical in
noncomputable def kR (R:Nat -> Nat -> Prop) (m:Nat):Int:=smE m fun i=>if ∀ j,j < i -> ¬ R j i then 1 else 0
theorem kR_congr {R S:Nat -> Nat -> Prop} {m:Nat} (h:∀ i j,i < m -> j < m -> (R i j ↔ S i j)):kR R m = kR S m:=smE_congr _ fun i hi=>by
 have:(∀ j,j < i -> ¬ R j i) ↔ ∀ j,j < i -> ¬ S j i:=⟨fun q j hj hs=>q j hj ((h j i (by omega) hi).2 hs),fun q j hj hs=>q j hj ((h j i (by omega) hi).1 hs)⟩
 by_cases q:∀ j,j < i -> ¬ R j i
 ·rw[if_pos q,if_pos (this.1 q)]
 ·rw[if_neg q,if_neg fun q'=>q (this.2 q')]
theorem kR_all {R:Nat -> Nat -> Prop} {m:Nat} (hm:0 < m) (h:∀ i,i < m -> R 0 i):kR R m = 1:=by
 have:kR R m = smE m fun i=>if i = 0 then 1 else 0:=smE_congr _ fun i hi=>by
  by_cases e:i = 0
  ·subst e; rw[if_pos rfl,if_pos fun j hj=>absurd hj (Nat.not_lt_zero j)]
  ·rw[if_neg e,if_neg fun q=>q 0 (by omega) (h i hi)]
 rw[this,smE_one,if_pos hm]
theorem leastN {P:Nat -> Prop}:∀ i,P i -> ∃ k,k <= i /\ P k /\ ∀ j,j < k -> ¬ P j:=by
 intro i
 induction i using Nat.strongRecOn with
 | ind i ih =>
  intro h
  by_cases hj:∃ j,j < i /\ P j
  ·obtain ⟨j,h1,h2⟩:=hj
   obtain ⟨k,a,c⟩:=ih j h1 h2
   exact ⟨k,by omega,c⟩
  ·exact ⟨i,Nat.le_refl _,h,fun j hji hp=>hj ⟨j,hji,hp⟩⟩
structure Eqv (R:Nat -> Nat -> Prop) (m:Nat):Prop where
 rf:∀ i,i < m -> R i i
 sy:∀ i j,i < m -> j < m -> R i j -> R j i
 tr:∀ i j k,i < m -> j < m -> k < m -> R i j -> R j k -> R i k
section
variable {p q:List Int} {N:Nat}
theorem Rch.refl {x:Nat}:Rch p x x:=⟨0,rfl⟩
theorem Rch.lt (h:Pf p N) {x y:Nat} (hx:x < N):Rch p x y -> y < N:=fun ⟨k,hk⟩=>by rw[<-hk]; exact it_lt h hx k
theorem Pf.eqv (h:Pf p N):Eqv (Rch p) N:=⟨fun _ _=>.refl,fun _ _ hi _ q=>q.symm h hi,fun _ _ _ _ _ _ q q'=>q.trans q'⟩
end
section
variable {b w:List Int} {n:Int}
theorem Pd.cyc_kR {p:List Int} (h:Pd p n):((cyc p n).length:Int) = kR (Rch p) n.toNat:=by
 rw[cyc_cN]
 have:∀ k,k <= n.toNat -> (cN p k:Int) = kR (Rch p) k:=fun k=>by
  induction k with
  | zero=>intro _; rfl
  | succ k ih =>
   intro hk
   have e:=nwB_iff h.pf h.nn (x:=k) (by omega)
   have ih:=ih (by omega)
   unfold kR at ih ⊢
   simp only[cN,smE]
   rw[Int.natCast_add,ih]
   congr 1
   by_cases q:nwB p k = true
   ·rw[if_pos q,if_pos (e.1 q)]; rfl
   ·rw[if_neg q,if_neg fun q'=>q (e.2 q')]; rfl
 exact this n.toNat (Nat.le_refl _)
end
end
section
set_option maxHeartbeats 1000000
theorem smE_two {f:Nat -> Int}:∀ n,smE (2 * n) f = smE n (fun x=>f (2 * x)) + smE n fun x=>f (2 * x + 1)
 | 0=>rfl
 | n + 1=>by
  have ih:=smE_two (f:=f) n
  rw[show 2 * (n + 1) = 2 * n + 1 + 1 by omega]
  simp only[smE]
  omega
inductive Se (b w:List Int) (N:Nat) (S:Nat -> Prop):Nat -> Nat -> Prop
 | bk (x:Nat):x < N -> Se b w N S (2 * x) (2 * fp b x)
 | wh (x:Nat):x < N -> Se b w N S (2 * x + 1) (2 * fp w x + 1)
 | ed (x:Nat):x < N -> S x -> Se b w N S (2 * x) (2 * x + 1)
inductive He (b w:List Int) (N:Nat) (S:Nat -> Prop) (i:Nat):Nat -> Prop
 | refl:He b w N S i i
 | fw {j k:Nat}:He b w N S i j -> Se b w N S j k -> He b w N S i k
 | bw {j k:Nat}:He b w N S i j -> Se b w N S k j -> He b w N S i k
section
variable {b w:List Int} {N:Nat} {S S':Nat -> Prop} {i j k:Nat} {n:Int}
theorem He.trans (h:He b w N S i j) (h':He b w N S j k):He b w N S i k:=by
 induction h' with
 | refl=>exact h
 | fw _ s ih=>exact ih.fw s
 | bw _ s ih=>exact ih.bw s
theorem He.symm (h:He b w N S i j):He b w N S j i:=by
 induction h with
 | refl=>exact .refl
 | fw _ s ih=>exact (He.refl.bw s).trans ih
 | bw _ s ih=>exact (He.refl.fw s).trans ih
theorem Se.mono (hS:∀ x,S x -> S' x) (h:Se b w N S i j):Se b w N S' i j:=by
 cases h with
 | bk x hx=>exact .bk x hx
 | wh x hx=>exact .wh x hx
 | ed x hx hs=>exact .ed x hx (hS x hs)
theorem He.mono (hS:∀ x,S x -> S' x) (h:He b w N S i j):He b w N S' i j:=by
 induction h with
 | refl=>exact .refl
 | fw _ s ih=>exact ih.fw (s.mono hS)
 | bw _ s ih=>exact ih.bw (s.mono hS)
theorem He.eqv {m:Nat}:Eqv (He b w N S) m:=⟨fun _ _=>.refl,fun _ _ _ _ h=>h.symm,fun _ _ _ _ _ _ h h'=>h.trans h'⟩
theorem He.join {x:Nat} (hx:x < N) (h:He b w N (fun y=>S y ∨ y = x) i j):He b w N S i j ∨ (He b w N S i (2 * x) /\ He b w N S (2 * x + 1) j) ∨ (He b w N S i (2 * x + 1) /\ He b w N S (2 * x) j):=by
 have st:∀ {j k:Nat},(He b w N S j k) -> (He b w N S i j ∨ (He b w N S i (2 * x) /\ He b w N S (2 * x + 1) j) ∨ (He b w N S i (2 * x + 1) /\ He b w N S (2 * x) j)) -> (He b w N S i k ∨ (He b w N S i (2 * x) /\ He b w N S (2 * x + 1) k) ∨ (He b w N S i (2 * x + 1) /\ He b w N S (2 * x) k)):=fun {j k} s q=>by
  rcases q with q | ⟨q,r⟩ | ⟨q,r⟩
  ·exact .inl (q.trans s)
  ·exact .inr (.inl ⟨q,r.trans s⟩)
  ·exact .inr (.inr ⟨q,r.trans s⟩)
 have up:(He b w N S i (2 * x) ∨ (He b w N S i (2 * x) /\ He b w N S (2 * x + 1) (2 * x)) ∨ (He b w N S i (2 * x + 1) /\ He b w N S (2 * x) (2 * x))) -> (He b w N S i (2 * x + 1) ∨ (He b w N S i (2 * x) /\ He b w N S (2 * x + 1) (2 * x + 1)) ∨ (He b w N S i (2 * x + 1) /\ He b w N S (2 * x) (2 * x + 1))):=fun q=>by
  rcases q with q | ⟨q,r⟩ | ⟨q,r⟩
  ·exact .inr (.inl ⟨q,.refl⟩)
  ·exact .inr (.inl ⟨q,.refl⟩)
  ·exact .inl q
 have dn:(He b w N S i (2 * x + 1) ∨ (He b w N S i (2 * x) /\ He b w N S (2 * x + 1) (2 * x + 1)) ∨ (He b w N S i (2 * x + 1) /\ He b w N S (2 * x) (2 * x + 1))) -> (He b w N S i (2 * x) ∨ (He b w N S i (2 * x) /\ He b w N S (2 * x + 1) (2 * x)) ∨ (He b w N S i (2 * x + 1) /\ He b w N S (2 * x) (2 * x))):=fun q=>by
  rcases q with q | ⟨q,r⟩ | ⟨q,r⟩
  ·exact .inr (.inr ⟨q,.refl⟩)
  ·exact .inl q
  ·exact .inr (.inr ⟨q,.refl⟩)
 induction h with
 | refl=>exact .inl .refl
 | fw _ s ih =>
  cases s with
  | bk y hy=>exact st (He.refl.fw (.bk y hy)) ih
  | wh y hy=>exact st (He.refl.fw (.wh y hy)) ih
  | ed y hy hs =>
   rcases hs with hs | rfl
   ·exact st (He.refl.fw (.ed y hy hs)) ih
   ·exact up ih
 | bw _ s ih =>
  cases s with
  | bk y hy=>exact st (He.refl.bw (.bk y hy)) ih
  | wh y hy=>exact st (He.refl.bw (.wh y hy)) ih
  | ed y hy hs =>
   rcases hs with hs | rfl
   ·exact st (He.refl.bw (.ed y hy hs)) ih
   ·exact dn ih
theorem He.join' {x:Nat} (hx:x < N):He b w N (fun y=>S y ∨ y = x) i j ↔ He b w N S i j ∨ (He b w N S i (2 * x) /\ He b w N S (2 * x + 1) j) ∨ (He b w N S i (2 * x + 1) /\ He b w N S (2 * x) j):=by
 refine ⟨He.join hx,fun q=>?_⟩
 have e:He b w N (fun y=>S y ∨ y = x) (2 * x) (2 * x + 1):=He.refl.fw (.ed x hx (.inr rfl))
 have m:∀ {i j:Nat},He b w N S i j -> He b w N (fun y=>S y ∨ y = x) i j:=fun h=>h.mono fun _=>.inl
 rcases q with q | ⟨q,r⟩ | ⟨q,r⟩
 ·exact m q
 ·exact ((m q).trans e).trans (m r)
 ·exact ((m q).trans e.symm).trans (m r)
theorem kR_joinH {R S:Nat -> Nat -> Prop} {m x y:Nat} (E:Eqv R m) (hx:x < m) (hy:y < m) (hn:¬ R x y) (hS:∀ i j,i < m -> j < m -> (S i j ↔ R i j ∨ (R i x /\ R y j) ∨ (R i y /\ R x j))):kR R m = kR S m + 1:=by
 obtain ⟨a,a1,a2,a3⟩:=leastN (P:=fun i=>R i x) x (E.rf x hx)
 obtain ⟨c,c1,c2,c3⟩:=leastN (P:=fun i=>R i y) y (E.rf y hy)
 have ham:a < m:=by omega
 have hcm:c < m:=by omega
 have hac:a ≠ c:=by
  rintro rfl
  exact hn (E.tr _ _ _ hx ham hy (E.sy _ _ ham hx a2) c2)
 have key:∀ i,i < m -> ((∀ j,j < i -> ¬ R j i) ↔ (∀ j,j < i -> ¬ S j i) ∨ i = max a c):=fun i hi=>by
  constructor
  ·intro h
   by_cases hM:i = max a c
   ·exact .inr hM
   ·left
    intro j hj hs
    rcases (hS j i (by omega) hi).1 hs with q | ⟨q1,q2⟩ | ⟨q1,q2⟩
    ·exact h j hj q
    ·have hic:i = c:=by
      rcases Nat.lt_trichotomy i c with e | e | e
      ·exact absurd (E.sy _ _ hy hi q2) (c3 i e)
      ·exact e
      ·exact absurd (E.tr _ _ _ hcm hy hi c2 q2) (h c e)
     have:a <= j:=by
      refine Nat.le_of_not_lt fun hlt=>a3 j hlt q1
     omega
    ·have hia:i = a:=by
      rcases Nat.lt_trichotomy i a with e | e | e
      ·exact absurd (E.sy _ _ hx hi q2) (a3 i e)
      ·exact e
      ·exact absurd (E.tr _ _ _ ham hx hi a2 q2) (h a e)
     have:c <= j:=by
      refine Nat.le_of_not_lt fun hlt=>c3 j hlt q1
     omega
  ·rintro (h | rfl) j hj hr
   ·exact h j hj ((hS j i (by omega) hi).2 (.inl hr))
   ·by_cases hlt:a < c
    ·have e:max a c = c:=by omega
     rw[e] at hj hr
     exact c3 j hj (E.tr _ _ _ (by omega) hcm hy hr c2)
    ·have e:max a c = a:=by omega
     rw[e] at hj hr
     exact a3 j hj (E.tr _ _ _ (by omega) ham hx hr a2)
 have hSM:¬ ∀ j,j < max a c -> ¬ S j (max a c):=fun h=>by
  by_cases hlt:a < c
  ·have e:max a c = c:=by omega
   rw[e] at h
   exact h a hlt ((hS a c ham hcm).2 (.inr (.inl ⟨a2,E.sy _ _ hcm hy c2⟩)))
  ·have e:max a c = a:=by omega
   rw[e] at h
   exact h c (by omega) ((hS c a hcm ham).2 (.inr (.inr ⟨c2,E.sy _ _ ham hx a2⟩)))
 have:kR R m = kR S m + smE m (fun i=>if i = max a c then 1 else 0):=by
  unfold kR
  rw[<-smE_add]
  refine smE_congr _ fun i hi=>?_
  have k:=key i hi
  by_cases hM:i = max a c
  ·subst hM
   rw[if_pos (k.2 (.inr rfl)),if_neg hSM,if_pos rfl]; rfl
  ·rw[if_neg hM]
   by_cases q:∀ j,j < i -> ¬ S j i
   ·rw[if_pos q,if_pos (k.2 (.inl q))]; rfl
   ·rw[if_neg q,if_neg fun q'=>(k.1 q').elim q hM]; rfl
 rw[this,smE_one,if_pos (by omega)]
theorem He.step_cnt {x:Nat} (hx:x < N):kR (He b w N S) (2 * N) <= kR (He b w N fun y=>S y ∨ y = x) (2 * N) + 1 /\ (He b w N S (2 * x) (2 * x + 1) -> kR (He b w N fun y=>S y ∨ y = x) (2 * N) = kR (He b w N S) (2 * N)):=by
 by_cases q:He b w N S (2 * x) (2 * x + 1)
 ·have e:kR (He b w N fun y=>S y ∨ y = x) (2 * N) = kR (He b w N S) (2 * N):=kR_congr fun i j _ _=>by
   rw[He.join' hx]
   refine ⟨fun h=>?_,.inl⟩
   rcases h with h | ⟨h,r⟩ | ⟨h,r⟩
   ·exact h
   ·exact (h.trans q).trans r
   ·exact (h.trans q.symm).trans r
  exact ⟨by omega,fun _=>e⟩
 ·have e:=kR_joinH (R:=He b w N S) (S:=He b w N fun y=>S y ∨ y = x) (m:=2 * N) He.eqv (by omega) (by omega) q fun i j _ _=>He.join' hx
  exact ⟨by omega,fun q'=>absurd q' q⟩
def upto (z k x:Nat):Prop:=x < k /\ x ≠ z
theorem He.cnt {z:Nat} (hz:z < N):∀ k,k <= N -> kR (He b w N (upto z 0)) (2 * N) <= kR (He b w N (upto z k)) (2 * N) + k - (if z < k then 1 else 0)
 | 0,_=>by simp
 | k + 1,hk=>by
  have ih:=He.cnt hz k (by omega)
  by_cases e:k = z
  ·subst e
   have:kR (He b w N (upto k (k + 1))) (2 * N) = kR (He b w N (upto k k)) (2 * N):=by
    have:upto k (k + 1) = upto k k:=by
     funext x
     simp only[upto,eq_iff_iff]
     omega
    rw[this]
   rw[this,if_pos (by omega)]
   rw[if_neg (by omega)] at ih
   omega
  ·have hs:=(He.step_cnt (b:=b) (w:=w) (S:=upto z k) (show k < N by omega)).1
   have:(fun y=>upto z k y ∨ y = k) = upto z (k + 1):=by
    funext x
    simp only[upto,eq_iff_iff]
    omega
   rw[this] at hs
   by_cases q:z < k
   ·rw[if_pos q] at ih; rw[if_pos (by omega)]; omega
   ·rw[if_neg q] at ih; rw[if_neg (by omega)]; omega
theorem He.none (hb:Pf b N) (hw:Pf w N) (hS:∀ x,¬ S x):kR (He b w N S) (2 * N) = kR (Rch b) N + kR (Rch w) N:=by
 have even:∀ {i j:Nat},He b w N S i j -> ∀ x,x < N -> i = 2 * x -> ∃ y,j = 2 * y /\ y < N /\ Rch b x y:=fun {i j} h x hx e=>by
  induction h with
  | refl=>exact ⟨x,e,hx,.refl⟩
  | fw _ s ih =>
   obtain ⟨y,e1,hy,r⟩:=ih
   cases s with
   | bk z hz =>
    obtain rfl:z = y:=by omega
    exact ⟨_,rfl,hb.lt z hz,r.trans ⟨1,rfl⟩⟩
   | wh z hz=>omega
   | ed z hz hs=>exact absurd hs (hS z)
  | bw _ s ih =>
   obtain ⟨y,e1,hy,r⟩:=ih
   cases s with
   | bk z hz =>
    obtain rfl:fp b z = y:=by omega
    exact ⟨z,rfl,hz,r.trans (Rch.symm hb hz ⟨1,rfl⟩)⟩
   | wh z hz=>omega
   | ed z hz hs=>exact absurd hs (hS z)
 have odd:∀ {i j:Nat},He b w N S i j -> ∀ x,x < N -> i = 2 * x + 1 -> ∃ y,j = 2 * y + 1 /\ y < N /\ Rch w x y:=fun {i j} h x hx e=>by
  induction h with
  | refl=>exact ⟨x,e,hx,.refl⟩
  | fw _ s ih =>
   obtain ⟨y,e1,hy,r⟩:=ih
   cases s with
   | wh z hz =>
    obtain rfl:z = y:=by omega
    exact ⟨_,rfl,hw.lt z hz,r.trans ⟨1,rfl⟩⟩
   | bk z hz=>omega
   | ed z hz hs=>exact absurd hs (hS z)
  | bw _ s ih =>
   obtain ⟨y,e1,hy,r⟩:=ih
   cases s with
   | wh z hz =>
    obtain rfl:fp w z = y:=by omega
    exact ⟨z,rfl,hz,r.trans (Rch.symm hw hz ⟨1,rfl⟩)⟩
   | bk z hz=>omega
   | ed z hz hs=>exact absurd hs (hS z)
 have eb:∀ x y,x < N -> Rch b x y -> He b w N S (2 * x) (2 * y):=fun x y hx r=>by
  obtain ⟨k,rfl⟩:=r
  induction k with
  | zero=>exact .refl
  | succ k ih=>exact ih.fw (.bk _ (it_lt hb hx k))
 have ew:∀ x y,x < N -> Rch w x y -> He b w N S (2 * x + 1) (2 * y + 1):=fun x y hx r=>by
  obtain ⟨k,rfl⟩:=r
  induction k with
  | zero=>exact .refl
  | succ k ih=>exact ih.fw (.wh _ (it_lt hw hx k))
 unfold kR
 rw[smE_two]
 congr 1
 ·refine smE_congr _ fun x hx=>?_
  have:(∀ j,j < 2 * x -> ¬ He b w N S j (2 * x)) ↔ ∀ j,j < x -> ¬ Rch b j x:=by
   constructor
   ·intro h j hj r
    exact h (2 * j) (by omega) (eb j x (by omega) r)
   ·intro h j hj r
    obtain ⟨y,rfl,hy,r'⟩:=even r.symm x hx rfl
    exact h y (by omega) (Rch.symm hb hx r')
  by_cases q:∀ j,j < x -> ¬ Rch b j x
  ·rw[if_pos q,if_pos (this.2 q)]
  ·rw[if_neg q,if_neg fun q'=>q (this.1 q')]
 ·refine smE_congr _ fun x hx=>?_
  have:(∀ j,j < 2 * x + 1 -> ¬ He b w N S j (2 * x + 1)) ↔ ∀ j,j < x -> ¬ Rch w j x:=by
   constructor
   ·intro h j hj r
    exact h (2 * j + 1) (by omega) (ew j x (by omega) r)
   ·intro h j hj r
    obtain ⟨y,rfl,hy,r'⟩:=odd r.symm x hx rfl
    exact h y (by omega) (Rch.symm hw hx r')
  by_cases q:∀ j,j < x -> ¬ Rch w j x
  ·rw[if_pos q,if_pos (this.2 q)]
  ·rw[if_neg q,if_neg fun q'=>q (this.1 q')]
structure Tre (n:Int) (b w:List Int):Prop where
 Z:Dz n b w
 v:((cyc b n).length:Int) + (cyc w n).length = n + 1
theorem Tre.bridge (h:Tre n b w) {z:Nat} (hz:z < n.toNat):¬ He b w n.toNat (· ≠ z) (2 * z) (2 * z + 1):=fun q=>by
 have hn:=h.Z.B.hn
 have c1:=He.cnt (b:=b) (w:=w) hz n.toNat (Nat.le_refl _)
 have c2:=He.none (S:=upto z 0) h.Z.B.pf h.Z.W.pf fun x hx=>Nat.not_lt_zero _ hx.1
 have k1:=h.Z.B.cyc_kR
 have k2:=h.Z.W.cyc_kR
 have hv:=h.v
 rw[if_pos hz] at c1
 have same:∀ {i j:Nat},He b w n.toNat (· ≠ z) i j ↔ He b w n.toNat (upto z n.toNat) i j:=fun {i j}=>by
  have st:∀ {i j:Nat},Se b w n.toNat (· ≠ z) i j -> Se b w n.toNat (upto z n.toNat) i j:=fun s=>by
   cases s with
   | bk x hx=>exact .bk x hx
   | wh x hx=>exact .wh x hx
   | ed x hx hs=>exact .ed x hx ⟨hx,hs⟩
  constructor
  ·intro r
   induction r with
   | refl=>exact .refl
   | fw _ s ih=>exact ih.fw (st s)
   | bw _ s ih=>exact ih.bw (st s)
  ·exact He.mono fun x hx=>hx.2
 have c3:=(He.step_cnt (b:=b) (w:=w) (S:=upto z n.toNat) hz).2 (same.1 q)
 have c4:kR (He b w n.toNat fun y=>upto z n.toNat y ∨ y = z) (2 * n.toNat) = 1:=by
  have full:∀ {i j:Nat},He b w n.toNat (fun _=>True) i j -> He b w n.toNat (fun y=>upto z n.toNat y ∨ y = z) i j:=fun {i j} r=>by
   have st:∀ {i j:Nat},Se b w n.toNat (fun _=>True) i j -> Se b w n.toNat (fun y=>upto z n.toNat y ∨ y = z) i j:=fun s=>by
    cases s with
    | bk x hx=>exact .bk x hx
    | wh x hx=>exact .wh x hx
    | ed x hx hs=>exact .ed x hx (by by_cases e:x = z; exact .inr e; exact .inl ⟨hx,e⟩)
   induction r with
   | refl=>exact .refl
   | fw _ s ih=>exact ih.fw (st s)
   | bw _ s ih=>exact ih.bw (st s)
  refine kR_all (by omega) fun i hi=>full ?_
  have key:∀ x,x < n.toNat -> He b w n.toNat (fun _=>True) 0 (2 * x):=h.Z.alls (.refl) (fun x hx r=>r.fw (.bk x hx)) fun x hx r=>((r.fw (.ed x hx trivial)).fw (.wh x hx)).bw (.ed _ (h.Z.W.pf.lt x hx) trivial)
  by_cases e:i % 2 = 0
  ·have:=key (i / 2) (by omega)
   rw[show 2 * (i / 2) = i by omega] at this; exact this
  ·have:=(key (i / 2) (by omega)).fw (.ed _ (by omega) trivial)
   rw[show 2 * (i / 2) + 1 = i by omega] at this; exact this
 omega
end
end
section
set_option maxHeartbeats 1000000
inductive Rl (L:List (List Int)) (x:Nat):Nat -> Prop
 | refl:Rl L x x
 | step {y:Nat} {l:List Int}:Rl L x y -> l ∈ L -> Rl L x (fp l y)
structure Iv (l:List Int) (N:Nat):Prop where
 lt:∀ x,x < N -> fp l x < N
 ne:∀ x,x < N -> fp l x ≠ x
 iv:∀ x,x < N -> fp l (fp l x) = x
 nn:∀ x:Nat,0 <= gi l x
def Ivs (L:List (List Int)) (N:Nat):Prop:=∀ l ∈ L,Iv l N
section
variable {L L':List (List Int)} {N:Nat} {x y z:Nat}
theorem Rl.trans (h:Rl L x y) (h':Rl L y z):Rl L x z:=by
 induction h' with
 | refl=>exact h
 | step _ hl ih=>exact .step ih hl
theorem Rl.one {l:List Int} (hl:l ∈ L):Rl L x (fp l x):=.step .refl hl
theorem Rl.lt (h:Ivs L N) (hx:x < N) (r:Rl L x y):y < N:=by
 induction r with
 | refl=>exact hx
 | step _ hl ih=>exact (h _ hl).lt _ ih
theorem Rl.symm (h:Ivs L N) (hx:x < N) (r:Rl L x y):Rl L y x:=by
 induction r with
 | refl=>exact .refl
 | @step y l r hl ih =>
  have hy:=r.lt h hx
  have h1:Rl L (fp l y) (fp l (fp l y)):=Rl.one hl
  rw[(h l hl).iv y hy] at h1
  exact h1.trans ih
theorem Rl.sub (h:Ivs L N) (hs:∀ l ∈ L,∀ x,x < N -> Rl L' x (fp l x)) (hx:x < N) (r:Rl L x y):Rl L' x y:=by
 induction r with
 | refl=>exact .refl
 | step r hl ih=>exact ih.trans (hs _ hl _ (r.lt h hx))
def obV (L:List (List Int)) (z:Int) (s:Sr):Sr:=L.foldl (fun s l=>visit (gi l z.toNat) s) s
def obRun (L:List (List Int)):Nat -> Nat -> Sr -> Sr
 | 0,_,s=>s
 | f + 1,k,s=>if k < s.1.length then obRun L f (k + 1) (obV L (gi s.1 k) s) else s
def obI (L:List (List Int)) (i:Nat) (m:List Bool):Sr:=obRun L 33 0 ([(i:Int)],m.set i true)
def obO (L:List (List Int)):Nat -> List Bool × List Int
 | 0=>(List.replicate 32 false,[])
 | i + 1=>if gb (obO L i).1 i = true then obO L i else ((obI L i (obO L i).1).2,(obO L i).2 ++ [((obI L i (obO L i).1).1.length:Int)])
def obs (L:List (List Int)) (N:Nat):List Int:=(obO L N).2
theorem visit_pre3 {y:Int} {s:Sr} {j:Nat} (hj:j < s.1.length):gi (visit y s).1 j = gi s.1 j:=by
 unfold visit; split
 ·rfl
 ·simp only[gi_app]; rw[if_pos hj]
theorem obV_pre:∀ (L:List (List Int)) {z:Int} {s:Sr},s.1.length <= (obV L z s).1.length /\ ∀ j,j < s.1.length -> gi (obV L z s).1 j = gi s.1 j
 | [],z,s=>⟨Nat.le_refl _,fun _ _=>rfl⟩
 | l :: L,z,s=>by
  have ih:=obV_pre L (z:=z) (s:=visit (gi l z.toNat) s)
  have e:obV (l :: L) z s = obV L z (visit (gi l z.toNat) s):=rfl
  rw[e]
  exact ⟨Nat.le_trans visit_len ih.1,fun j hj=>(ih.2 j (Nat.lt_of_lt_of_le hj visit_len)).trans (visit_pre3 hj)⟩
structure Ox (L:List (List Int)) (N:Nat) (m0:List Bool) (i:Nat) (s:Sr):Prop where
 l2:s.2.length = 32
 nd:s.1.Nodup
 has:∀ y:Nat,y < 32 -> (gb s.2 y = true ↔ gb m0 y = true ∨ (y:Int) ∈ s.1)
 lt:∀ y ∈ s.1,0 <= y /\ y < N
 off:∀ y ∈ s.1,gb m0 y.toNat = false
 rl:∀ y ∈ s.1,Rl L i y.toNat
variable {m0:List Bool} {i:Nat} {s:Sr}
theorem Ox.visit (hN:N <= 32) (h:Ox L N m0 i s) {y:Nat} (hy:y < N) (ho:gb m0 y = false) (hr:Rl L i y):Ox L N m0 i (visit (y:Int) s) /\ (y:Int) ∈ (visit (y:Int) s).1 /\ ∀ z ∈ s.1,z ∈ (visit (y:Int) s).1:=by
 unfold Sep.visit
 split
 ·rename_i hv
  rw[Int.toNat_natCast] at hv
  refine ⟨h,?_,fun z hz=>hz⟩
  rcases (h.has y (by omega)).1 hv with q | q
  ·rw[ho] at q; cases q
  ·exact q
 ·rename_i hv
  rw[Int.toNat_natCast] at hv
  have hno:(y:Int) ∉ s.1:=fun hm=>hv ((h.has y (by omega)).2 (.inr hm))
  refine ⟨⟨by simp[h.l2],List.nodup_append.2 ⟨h.nd,by simp,fun a ha c hc e=>?_⟩,fun x hx=>?_,fun x hx=>?_,fun x hx=>?_,fun x hx=>?_⟩,List.mem_append_right _ (List.mem_singleton.2 rfl),fun z hz=>List.mem_append_left _ hz⟩
  ·rw[List.mem_singleton.1 hc] at e
   exact hno (e ▸ ha)
  ·simp only[List.mem_append,List.mem_singleton,Int.toNat_natCast]
   rw[gb_set,h.l2]
   by_cases e:y = x
   ·rw[if_pos ⟨e,hx⟩]
    exact ⟨fun _=>.inr (.inr (by omega)),fun _=>rfl⟩
   ·rw[if_neg fun h'=>e h'.1,h.has x hx]
    exact ⟨fun q=>q.elim .inl fun q=>.inr (.inl q),fun q=>q.elim .inl fun q=>q.elim .inr fun q=>absurd (by omega) e⟩
  ·rcases List.mem_append.1 hx with hx | hx
   ·exact h.lt x hx
   ·rw[List.mem_singleton.1 hx]; omega
  ·rcases List.mem_append.1 hx with hx | hx
   ·exact h.off x hx
   ·rw[List.mem_singleton.1 hx]; simpa using ho
  ·rcases List.mem_append.1 hx with hx | hx
   ·exact h.rl x hx
   ·rw[List.mem_singleton.1 hx]; simpa using hr
theorem Ox.obV (hN:N <= 32) (hv:Ivs L N) (hm:∀ l ∈ L,∀ x,x < N -> gb m0 x = true -> gb m0 (fp l x) = true) {z:Int}:∀ (M:List (List Int)) {s:Sr},(∀ l ∈ M,l ∈ L) -> Ox L N m0 i s -> z ∈ s.1 ->
  Ox L N m0 i (obV M z s) /\ (∀ l ∈ M,gi l z.toNat ∈ (obV M z s).1) /\ ∀ y ∈ s.1,y ∈ (obV M z s).1
 | [],s,_,h,_=>⟨h,fun l hl=>absurd hl List.not_mem_nil,fun y hy=>hy⟩
 | l :: M,s,hM,h,hz=>by
  have hl:=hM l (by simp)
  have hzl:=h.lt z hz
  have e:gi l z.toNat = (fp l z.toNat:Int):=by have:=(hv l hl).nn z.toNat; unfold fp; omega
  have hlt:=(hv l hl).lt z.toNat (by omega)
  have ho:gb m0 (fp l z.toNat) = false:=by
   cases q:gb m0 (fp l z.toNat) with
   | false=>rfl
   | true =>
    have:=hm l hl _ hlt q
    rw[(hv l hl).iv _ (by omega),h.off z hz] at this
    cases this
  obtain ⟨c1,c2,c3⟩:=h.visit hN hlt ho (.step (h.rl z hz) hl)
  rw[<-e] at c1 c2 c3
  have ih:=Ox.obV hN hv hm M (s:=Sep.visit (gi l z.toNat) s) (fun l hl=>hM l (by simp[hl])) c1 (c3 z hz)
  have e2:Sep.obV (l :: M) z s = Sep.obV M z (Sep.visit (gi l z.toNat) s):=rfl
  rw[e2]
  refine ⟨ih.1,fun k hk=>?_,fun y hy=>ih.2.2 y (c3 y hy)⟩
  rcases List.mem_cons.1 hk with rfl | hk
  ·exact ih.2.2 _ c2
  ·exact ih.2.1 k hk
theorem Ox.len (h:Ox L N m0 i s):s.1.length <= N:=by
 have:=nodup_len N (s.1.map Int.toNat) (List.pairwise_map.2 (List.Pairwise.imp_of_mem (fun {a c} ha hc hne ee=>by
  have:=h.lt a ha
  have:=h.lt c hc
  omega) h.nd)) fun z hz=>by
  obtain ⟨u,hu,rfl⟩:=List.mem_map.1 hz
  have:=h.lt u hu
  omega
 simpa using this
theorem Ox.run (hN:N <= 32) (hv:Ivs L N) (hm:∀ l ∈ L,∀ x,x < N -> gb m0 x = true -> gb m0 (fp l x) = true):∀ (f k:Nat) {s:Sr},k + f = 33 -> Ox L N m0 i s -> (∀ j,j < k -> ∀ l ∈ L,gi l (gi s.1 j).toNat ∈ s.1) -> k <= s.1.length ->
  Ox L N m0 i (obRun L f k s) /\ (∀ z ∈ (obRun L f k s).1,∀ l ∈ L,gi l z.toNat ∈ (obRun L f k s).1) /\ ∀ y ∈ s.1,y ∈ (obRun L f k s).1
 | 0,k,s,e,h,hc,hk=>by have:=h.len; omega
 | f + 1,k,s,e,h,hc,hk=>by
  simp only[obRun]
  split
  ·rename_i hlt
   have hz:gi s.1 k ∈ s.1:=by rw[gi_of hlt]; exact List.getElem_mem hlt
   obtain ⟨c1,c2,c3⟩:=Ox.obV hN hv hm L (fun l hl=>hl) h hz
   have hp:=obV_pre L (z:=gi s.1 k) (s:=s)
   have ih:=Ox.run hN hv hm f (k + 1) (s:=Sep.obV L (gi s.1 k) s) (by omega) c1 (fun j hj l hl=>by
    rw[hp.2 j (by omega)]
    by_cases q:j = k
    ·subst q; exact c2 l hl
    ·exact c3 _ (hc j (by omega) l hl)) (by omega)
   exact ⟨ih.1,ih.2.1,fun y hy=>ih.2.2 y (c3 y hy)⟩
  ·refine ⟨h,fun z hz l hl=>?_,fun y hy=>hy⟩
   obtain ⟨j,hj,rfl⟩:=List.getElem_of_mem hz
   have:=hc j (by omega) l hl
   rw[gi_of hj] at this; exact this
theorem obI_ok (hN:N <= 32) (hv:Ivs L N) (h2:m0.length = 32) (hm:∀ l ∈ L,∀ x,x < N -> gb m0 x = true -> gb m0 (fp l x) = true) (hi:i < N) (ho:gb m0 i = false) :
  Ox L N m0 i (obI L i m0) /\ ∀ y:Nat,(y:Int) ∈ (obI L i m0).1 ↔ Rl L i y:=by
 have h0:Ox L N m0 i ([(i:Int)],m0.set i true):=by
  refine ⟨by simp[h2],by simp,fun y hy=>?_,fun y hy=>?_,fun y hy=>?_,fun y hy=>?_⟩
  ·rw[gb_set,h2,List.mem_singleton]
   by_cases e:i = y
   ·rw[if_pos ⟨e,hy⟩]; exact ⟨fun _=>.inr (by omega),fun _=>rfl⟩
   ·rw[if_neg fun q=>e q.1]; exact ⟨.inl,fun q=>q.elim id fun q=>absurd (by omega) e⟩
  ·rw[List.mem_singleton.1 hy]; omega
  ·rw[List.mem_singleton.1 hy]; simpa using ho
  ·rw[List.mem_singleton.1 hy]; simpa using Rl.refl
 obtain ⟨c1,c2,c3⟩:=Ox.run hN hv hm 33 0 rfl h0 (fun j hj=>absurd hj (Nat.not_lt_zero j)) (Nat.zero_le _)
 refine ⟨c1,fun y=>⟨fun hy=>by have:=c1.rl _ hy; simpa using this,fun r=>?_⟩⟩
 induction r with
 | refl=>exact c3 _ (List.mem_singleton.2 rfl)
 | step r hl ih =>
  have:=c2 _ ih _ hl
  rw[Int.toNat_natCast] at this
  rename_i y l
  have e:gi l y = (fp l y:Int):=by have:=(hv l hl).nn y; unfold fp; omega
  rw[<-e]; exact this
open Classical in
noncomputable def szO (L:List (List Int)) (N x:Nat):Int:=smE N fun y=>if Rl L x y then 1 else 0
open Classical in
theorem len_smE {c:List Int} (hc:c.Nodup) (hl:∀ y ∈ c,0 <= y /\ y < N):smE N (fun e=>if (e:Int) ∈ c then (1:Int) else 0) = c.length:=by
 have h1:=sumT_sm (a:=List.replicate N 1) (n:=N) hc hl c.length (Nat.le_refl _)
 rw[List.take_length] at h1
 have h2:∀ s,s <= c.length -> sumT (List.replicate N 1) c s = s:=fun s=>by
  induction s with
  | zero=>intro _; rfl
  | succ s ih =>
   intro hs
   have:=hl (gi c s) (by rw[gi_of (show s < c.length by omega)]; exact List.getElem_mem _)
   simp only[sumT]
   rw[ih (by omega),gi_rep,if_pos (by omega)]; simp
 rw[h2 _ (Nat.le_refl _)] at h1
 rw[h1]
 refine smE_congr _ fun e he=>?_
 by_cases q:(e:Int) ∈ c
 ·rw[if_pos q,if_pos q,gi_rep,if_pos he]
 ·rw[if_neg q,if_neg q]
theorem szO_congr (hv:Ivs L N) (hx:x < N) (r:Rl L x y):szO L N x = szO L N y:=by
 classical
 unfold szO
 refine smE_congr _ fun z hz=>?_
 have:Rl L x z ↔ Rl L y z:=⟨fun q=>(r.symm hv hx).trans q,fun q=>r.trans q⟩
 by_cases q:Rl L x z
 ·rw[if_pos q,if_pos (this.1 q)]
 ·rw[if_neg q,if_neg fun q'=>q (this.2 q')]
structure Oo (L:List (List Int)) (N i:Nat) (o:List Bool × List Int):Prop where
 l2:o.1.length = 32
 met:∀ y,y < N -> (gb o.1 y = true ↔ ∃ j,j < i /\ Rl L j y)
 cnt:∀ c:Nat,(c:Int) * ((o.2.count (c:Int):Nat):Int) = smE N fun y=>if gb o.1 y = true /\ szO L N y = c then 1 else 0
 sz:∀ a ∈ o.2,∃ y,y < N /\ a = szO L N y
 sum:smE o.2.length (fun j=>gi o.2 j) = smE N fun y=>if gb o.1 y = true then 1 else 0
theorem obO_ok (hN:N <= 32) (hv:Ivs L N):∀ i,i <= N -> Oo L N i (obO L i)
 | 0,_=>by
  have e:∀ y,gb (List.replicate 32 false) y = false:=fun y=>by rw[gb_rep]; split <;> rfl
  refine ⟨by simp[obO],fun y hy=>?_,fun c=>?_,fun a ha=>by simp[obO] at ha,?_⟩
  ·simp only[obO,e]; simp
  ·simp only[obO,e]
   rw[smE_congr (g:=fun _=>0) _ fun y hy=>if_neg (by simp),smE_zero]; simp
  ·simp only[obO,e]
   rw[smE_congr (f:=fun y:Nat=>if false = true then (1:Int) else 0) (g:=fun _=>0) _ fun y hy=>if_neg (by simp),smE_zero]; rfl
 | i + 1,hi=>by
  have ih:=obO_ok hN hv i (by omega)
  have hm:∀ l ∈ L,∀ x,x < N -> gb (obO L i).1 x = true -> gb (obO L i).1 (fp l x) = true:=fun l hl x hx q=>by
   obtain ⟨j,hj,r⟩:=(ih.met x hx).1 q
   exact (ih.met _ ((hv l hl).lt x hx)).2 ⟨j,hj,.step r hl⟩
  simp only[obO]
  split
  ·rename_i hg
   refine ⟨ih.l2,fun y hy=>?_,ih.cnt,ih.sz,ih.sum⟩
   rw[ih.met y hy]
   constructor
   ·rintro ⟨j,a,r⟩; exact ⟨j,by omega,r⟩
   ·rintro ⟨j,a,r⟩
    by_cases q:j = i
    ·subst q
     obtain ⟨j',a',r'⟩:=(ih.met j (by omega)).1 hg
     exact ⟨j',a',r'.trans r⟩
    ·exact ⟨j,by omega,r⟩
  ·classical
   rename_i hg
   have hg':gb (obO L i).1 i = false:=by simpa using hg
   obtain ⟨c1,c2⟩:=obI_ok hN hv ih.l2 hm (show i < N by omega) hg'
   have hiN:i < N:=by omega
   have hlen:((obI L i (obO L i).1).1.length:Int) = szO L N i:=by
    rw[<-len_smE c1.nd c1.lt]
    unfold szO
    refine smE_congr _ fun e he=>?_
    by_cases q:Rl L i e
    ·rw[if_pos q,if_pos ((c2 e).2 q)]
    ·rw[if_neg q,if_neg fun q'=>q ((c2 e).1 q')]
   have hnew:∀ y,y < N -> (gb (obI L i (obO L i).1).2 y = true ↔ gb (obO L i).1 y = true ∨ Rl L i y):=fun y hy=>by rw[c1.has y (by omega),c2]
   have hdj:∀ y,y < N -> Rl L i y -> gb (obO L i).1 y = false:=fun y hy r=>by
    have:=c1.off y ((c2 y).2 r); simpa using this
   refine ⟨c1.l2,fun y hy=>?_,fun c=>?_,fun a ha=>?_,?_⟩
   ·rw[hnew y hy,ih.met y hy]
    constructor
    ·rintro (⟨j,a,r⟩ | r)
     ·exact ⟨j,by omega,r⟩
     ·exact ⟨i,by omega,r⟩
    ·rintro ⟨j,a,r⟩
     by_cases q:j = i
     ·subst q; exact .inr r
     ·exact .inl ⟨j,by omega,r⟩
   ·rw[hlen,List.count_append,Int.natCast_add,Int.mul_add,ih.cnt c]
    have e1:(smE N fun y=>if gb (obI L i (obO L i).1).2 y = true /\ szO L N y = c then (1:Int) else 0) =
      smE N fun y=>(if gb (obO L i).1 y = true /\ szO L N y = c then (1:Int) else 0) + if Rl L i y then (if szO L N i = c then (1:Int) else 0) else 0:=smE_congr _ fun y hy=>by
     by_cases q:Rl L i y
     ·have h1:=hdj y hy q
      have h2:=szO_congr hv hiN q
      rw[if_neg (show ¬ (gb (obO L i).1 y = true /\ szO L N y = c) by rw[h1]; simp),if_pos q,Int.zero_add]
      by_cases q2:szO L N i = c
      ·rw[if_pos q2,if_pos ⟨(hnew y hy).2 (.inr q),by rw[<-h2]; exact q2⟩]
      ·rw[if_neg q2,if_neg fun q'=>q2 (h2.trans q'.2)]
     ·rw[if_neg q,Int.add_zero]
      by_cases q2:gb (obO L i).1 y = true /\ szO L N y = c
      ·rw[if_pos q2,if_pos ⟨(hnew y hy).2 (.inl q2.1),q2.2⟩]
      ·rw[if_neg q2,if_neg fun q'=>q2 ⟨((hnew y hy).1 q'.1).resolve_right q,q'.2⟩]
    rw[e1,smE_add]
    congr 1
    by_cases q2:szO L N i = c
    ·rw[smE_congr (f:=fun y=>if Rl L i y then (if szO L N i = c then (1:Int) else 0) else 0) (g:=fun y=>if Rl L i y then 1 else 0) _ fun y hy=>by rw[if_pos q2]]
     show _ = szO L N i
     rw[q2]; simp
    ·rw[smE_congr (f:=fun y=>if Rl L i y then (if szO L N i = c then (1:Int) else 0) else 0) (g:=fun _=>0) _ fun y hy=>by rw[if_neg q2]; simp,smE_zero]
     rw[List.count_cons,List.count_nil,if_neg (by simpa using q2)]; simp
   ·rcases List.mem_append.1 ha with ha | ha
    ·exact ih.sz a ha
    ·rw[List.mem_singleton.1 ha]; exact ⟨i,hiN,hlen⟩
   ·have e1:(smE N fun y=>if gb (obI L i (obO L i).1).2 y = true then (1:Int) else 0) = smE N fun y=>(if gb (obO L i).1 y = true then (1:Int) else 0) + if Rl L i y then (1:Int) else 0:=smE_congr _ fun y hy=>by
     by_cases q:Rl L i y
     ·rw[hdj y hy q,if_pos ((hnew y hy).2 (.inr q)),if_pos q]; simp
     ·rw[if_neg q,Int.add_zero]
      by_cases q2:gb (obO L i).1 y = true
      ·rw[if_pos q2,if_pos ((hnew y hy).2 (.inl q2))]
      ·rw[if_neg q2,if_neg fun q'=>q2 (((hnew y hy).1 q').resolve_right q)]
    rw[e1,smE_add,<-ih.sum,List.length_append]
    simp only[List.length_cons,List.length_nil,Nat.zero_add,smE]
    rw[smE_congr (f:=fun j=>gi ((obO L i).2 ++ [((obI L i (obO L i).1).1.length:Int)]) j) (g:=fun j=>gi (obO L i).2 j) _ fun j hj=>by rw[gi_app,if_pos hj],gi_app,if_neg (Nat.lt_irrefl _),Nat.sub_self]
    have e2:gi [((obI L i (obO L i).1).1.length:Int)] 0 = ((obI L i (obO L i).1).1.length:Int):=rfl
    rw[e2,hlen]; rfl
theorem obs_met (hN:N <= 32) (hv:Ivs L N) {y:Nat} (hy:y < N):gb (obO L N).1 y = true:=((obO_ok hN hv N (Nat.le_refl _)).met y hy).2 ⟨y,hy,.refl⟩
theorem obs_sum (hN:N <= 32) (hv:Ivs L N):smE (obs L N).length (fun j=>gi (obs L N) j) = N:=by
 rw[show obs L N = (obO L N).2 from rfl,(obO_ok hN hv N (Nat.le_refl _)).sum,smE_congr (g:=fun _=>1) _ fun y hy=>if_pos (obs_met hN hv hy),smE_const]; simp
theorem obs_sz (hN:N <= 32) (hv:Ivs L N) {a:Int} (ha:a ∈ obs L N):∃ y,y < N /\ a = szO L N y:=(obO_ok hN hv N (Nat.le_refl _)).sz a ha
end
end
section
set_option maxHeartbeats 1000000
theorem smE_ge {f:Nat -> Int} {n:Nat} (h:∀ e,e < n -> 0 <= f e) {x:Nat} (hx:x < n):f x <= smE n f:=by
 induction n with
 | zero=>omega
 | succ n ih =>
  simp only[smE]
  have h0:=h n (by omega)
  have hs:0 <= smE n f:=by
   clear ih hx
   induction n with
   | zero=>simp[smE]
   | succ n ih=>simp only[smE]; have:=ih (fun e he=>h e (by omega)) (h n (by omega)); have:=h n (by omega); omega
  by_cases e:x = n
  ·subst e; omega
  ·have:=ih (fun e he=>h e (by omega)) (by omega); omega
theorem smE_mono {f g:Nat -> Int}:∀ {n:Nat},(∀ e,e < n -> f e <= g e) -> smE n f <= smE n g
 | 0,_=>by simp[smE]
 | n + 1,h=>by
  simp only[smE]
  have:=smE_mono (n:=n) fun e he=>h e (by omega)
  have:=h n (by omega); omega
section
variable {L:List (List Int)} {N:Nat} {x y:Nat} {l:List Int}
theorem smE_iv (h:Iv l N) {g:Nat -> Int}:smE N (fun x=>g (fp l x)) = smE N g:=by
 have e1:smE N (fun x=>g (fp l x)) = smE N fun x=>smE N fun y=>if y = fp l x then g y else 0:=smE_congr _ fun x hx=>(smE_pick (f:=g) (h.lt x hx)).symm
 rw[e1,smE_swap]
 refine smE_congr _ fun y hy=>?_
 rw[smE_congr (g:=fun x=>if x = fp l y then g y else 0) _ fun x hx=>?_,smE_one,if_pos (h.lt y hy)]
 by_cases q:y = fp l x
 ·rw[if_pos q,if_pos (by rw[q,h.iv x hx])]
 ·rw[if_neg q,if_neg fun q'=>q (by rw[q',h.iv y hy])]
theorem smE_even (h:Iv l N) {g:Nat -> Int} (hg:∀ x,x < N -> g (fp l x) = g x):smE N g = 2 * smE N (fun x=>if x < fp l x then g x else 0):=by
 have e1:smE N g = smE N fun x=>(if x < fp l x then g x else 0) + (fun y=>if y < fp l y then g y else 0) (fp l x):=smE_congr _ fun x hx=>by
  have hne:=h.ne x hx
  simp only
  rw[h.iv x hx,hg x hx]
  by_cases q:x < fp l x
  ·rw[if_pos q,if_neg (by omega)]; omega
  ·rw[if_neg q,if_pos (by omega)]; omega
 rw[e1,smE_add,smE_iv h (g:=fun y=>if y < fp l y then g y else 0)]; omega
theorem szO_pos (hx:x < N):1 <= szO L N x:=by
 classical
 have:=smE_ge (f:=fun y=>if Rl L x y then (1:Int) else 0) (n:=N) (fun e _=>by split <;> omega) hx
 rw[if_pos Rl.refl] at this
 exact this
theorem szO_le:szO L N x <= N:=by
 classical
 have:=smE_mono (f:=fun y=>if Rl L x y then (1:Int) else 0) (g:=fun _=>1) (n:=N) fun e _=>by split <;> omega
 rw[smE_const] at this
 unfold szO; omega
theorem szO_even (hv:Ivs L N) (hl:l ∈ L) (hx:x < N):szO L N x % 2 = 0:=by
 classical
 have:=smE_even (hv l hl) (g:=fun y=>if Rl L x y then (1:Int) else 0) fun y hy=>by
  have:Rl L x (fp l y) ↔ Rl L x y:=⟨fun r=>by
   have:=r.step hl
   rw[(hv l hl).iv y hy] at this; exact this,fun r=>r.step hl⟩
  by_cases q:Rl L x y
  ·rw[if_pos q,if_pos (this.2 q)]
  ·rw[if_neg q,if_neg fun q'=>q (this.1 q')]
 unfold szO; omega
structure Ob (a:Int) (N:Nat):Prop where
 pos:1 <= a
 le:a <= N
 ev:a % 2 = 0
theorem obs_ob (hN:N <= 32) (hv:Ivs L N) (hl:l ∈ L) {a:Int} (ha:a ∈ obs L N):Ob a N:=by
 obtain ⟨y,hy,rfl⟩:=obs_sz hN hv ha
 exact ⟨szO_pos hy,szO_le,szO_even hv hl hy⟩
theorem obs_len (hN:N <= 32) (hv:Ivs L N) (hl:l ∈ L):2 * (obs L N).length <= N:=by
 have h1:=obs_sum hN hv
 have h2:=smE_mono (f:=fun _=>(2:Int)) (g:=fun j=>gi (obs L N) j) (n:=(obs L N).length) fun e he=>by
  have:=obs_ob hN hv hl (a:=gi (obs L N) e) (by rw[gi_of he]; exact List.getElem_mem he)
  have h3:=this.pos; have h4:=this.ev; omega
 rw[smE_const] at h2
 omega
theorem obs_len16 (hN:N <= 32) (hv:Ivs L N) (hl:l ∈ L):(obs L N).length <= 16:=by have:=obs_len hN hv hl; omega
theorem obs_kR (hN:N <= 32) (hv:Ivs L N):((obs L N).length:Int) = kR (Rl L) N:=by
 have:∀ i,i <= N -> ((obO L i).2.length:Int) = kR (Rl L) i:=fun i=>by
  induction i with
  | zero=>intro _; rfl
  | succ i ih =>
   intro hi
   have ih:=ih (by omega)
   have hm:=(obO_ok hN hv i (by omega)).met i (by omega)
   unfold kR at ih ⊢
   simp only[obO,smE]
   by_cases q:gb (obO L i).1 i = true
   ·rw[if_pos q,if_neg fun hno=>by
     obtain ⟨j,hj,r⟩:=hm.1 q
     exact hno j hj r,<-ih]; omega
   ·rw[if_neg q,if_pos fun j hj r=>q (hm.2 ⟨j,hj,r⟩),<-ih]; simp
 exact this N (Nat.le_refl _)
theorem Rl.eqv (hv:Ivs L N):Eqv (Rl L) N:=⟨fun _ _=>.refl,fun _ _ hi _ r=>r.symm hv hi,fun _ _ _ _ _ _ r r'=>r.trans r'⟩
theorem obs_one (hN:N <= 32) (h0:0 < N) (hv:Ivs L N):(obs L N).length = 1 ↔ ∀ x,x < N -> Rl L 0 x:=by
 classical
 have hk:=obs_kR hN hv
 constructor
 ·intro h1 x hx
  refine Classical.byContradiction fun hno=>?_
  obtain ⟨k,k1,k2,k3⟩:=leastN (P:=fun i=>Rl L i x) x .refl
  have hk0:k ≠ 0:=fun e=>hno (e ▸ k2)
  have hkN:k < N:=by omega
  have hkk:∀ j,j < k -> ¬ Rl L j k:=fun j hj r=>k3 j hj (r.trans k2)
  rw[h1] at hk
  unfold kR at hk
  have e1:smE N (fun i=>if ∀ j,j < i -> ¬ Rl L j i then (1:Int) else 0) = smE N (fun i=>(if i = 0 then (if ∀ j,j < i -> ¬ Rl L j i then (1:Int) else 0) else 0) + (if i = 0 then 0 else if ∀ j,j < i -> ¬ Rl L j i then (1:Int) else 0)):=smE_congr _ fun i hi=>by
   by_cases q:i = 0
   ·rw[if_pos q,if_pos q]; omega
   ·rw[if_neg q,if_neg q]; omega
  rw[e1,smE_add,smE_pick (f:=fun i=>if ∀ j,j < i -> ¬ Rl L j i then (1:Int) else 0) h0] at hk
  have h2:=smE_ge (f:=fun i=>if i = 0 then (0:Int) else if ∀ j,j < i -> ¬ Rl L j i then (1:Int) else 0) (n:=N) (fun e _=>by split; omega; split <;> omega) hkN
  simp only[if_neg hk0,if_pos hkk] at h2
  rw[if_pos fun j hj=>absurd hj (Nat.not_lt_zero j)] at hk
  omega
 ·intro h
  have:=kR_all (R:=Rl L) h0 h
  omega
end
theorem kR_map {R S:Nat -> Nat -> Prop} {m k:Nat} (E:Eqv R m) (E':Eqv S k) (δ:Nat -> Nat) (σ:Nat -> Nat) (hδ:∀ i,i < m -> δ i < k) (hσ:∀ j,j < k -> σ j < m /\ δ (σ j) = j) (h:∀ i j,i < m -> j < m -> (R i j ↔ S (δ i) (δ j))):kR R m = kR S k:=by
 classical
 -- the least of a class below is the image of one class above
 have lead:∀ {T:Nat -> Nat -> Prop} {q:Nat},Eqv T q -> ∀ i,i < q -> smE q (fun j=>if (∀ a,a < j -> ¬ T a j) /\ T j i then (1:Int) else 0) = 1:=fun {T q} ET i hi=>by
  obtain ⟨c,c1,c2,c3⟩:=leastN (P:=fun j=>T j i) i (ET.rf i hi)
  have hc:c < q:=by omega
  rw[smE_congr (g:=fun j=>if j = c then 1 else 0) _ fun j hj=>?_,smE_one,if_pos hc]
  by_cases e:j = c
  ·subst e
   rw[if_pos rfl,if_pos ⟨fun a ha r=>c3 a ha (ET.tr _ _ _ (by omega) hc hi r c2),c2⟩]
  ·rw[if_neg e,if_neg]
   rintro ⟨hl,r⟩
   rcases Nat.lt_or_gt_of_ne e with q | q
   ·exact c3 j q r
   ·exact hl c q (ET.tr _ _ _ hc hi hj c2 (ET.sy _ _ hj hi r))
 unfold kR
 have a1:smE m (fun i=>if ∀ a,a < i -> ¬ R a i then (1:Int) else 0) = smE m fun i=>smE k fun j=>if (∀ a,a < i -> ¬ R a i) /\ ((∀ a,a < j -> ¬ S a j) /\ S j (δ i)) then (1:Int) else 0:=smE_congr _ fun i hi=>by
  by_cases q:∀ a,a < i -> ¬ R a i
  ·rw[if_pos q]
   refine (lead E' (δ i) (hδ i hi)).symm.trans (smE_congr _ fun j hj=>?_)
   by_cases q2:(∀ a,a < j -> ¬ S a j) /\ S j (δ i)
   ·rw[if_pos q2,if_pos ⟨q,q2⟩]
   ·rw[if_neg q2,if_neg fun z=>q2 z.2]
  ·rw[if_neg q,smE_congr (g:=fun _=>0) _ fun j hj=>if_neg fun z=>q z.1,smE_zero]
 rw[a1,smE_swap]
 refine smE_congr _ fun j hj=>?_
 by_cases q:∀ a,a < j -> ¬ S a j
 ·rw[if_pos q]
  refine Eq.trans (smE_congr _ fun i hi=>?_) (lead E (σ j) (hσ j hj).1)
  have hR:R i (σ j) ↔ S j (δ i):=by
   rw[h i _ hi (hσ j hj).1,(hσ j hj).2]
   exact ⟨fun r=>E'.sy _ _ (hδ i hi) hj r,fun r=>E'.sy _ _ hj (hδ i hi) r⟩
  by_cases q2:(∀ a,a < i -> ¬ R a i) /\ R i (σ j)
  ·rw[if_pos q2,if_pos ⟨q2.1,q,hR.1 q2.2⟩]
  ·rw[if_neg q2,if_neg fun z=>q2 ⟨z.1,hR.2 z.2.2⟩]
 ·rw[if_neg q,smE_congr (g:=fun _=>0) _ fun i hi=>if_neg fun z=>q z.2.1,smE_zero]
def fl32 (l:List Int):Prop:=l.length = 32 /\ ∀ i,i < 32 -> 0 <= gi l i /\ gi l i < 32
def fo32 (l:List Int):Prop:=l.length = 32 /\ ∀ i,i < 32 -> 0 <= gi l i /\ gi l i <= 255
theorem fl32.ok {l:List Int} (h:fl32 l):fo32 l:=⟨h.1,fun i hi=>by have:=h.2 i hi; omega⟩
def PrAt (l:List Int) (n:Int) (x:Nat):Prop:=((x:Int) < n -> 0 <= gi l x /\ gi l x < n /\ gi l x ≠ x /\ gi l (gi l x).toNat = x) /\ (n <= x -> gi l x = 0)
def Prs (l:List Int) (n:Int):Prop:=∀ x,x < 32 -> PrAt l n x
theorem Prs.iv {l:List Int} {n:Int} (h:Prs l n) (hl:fo32 l) (hn:n <= 32):Iv l n.toNat:=by
 have nn:∀ x:Nat,0 <= gi l x:=fun x=>by
  by_cases hx:x < 32
  ·exact (hl.2 x hx).1
  ·rw[gi_over (by have:=hl.1; omega)]; omega
 refine ⟨fun x hx=>?_,fun x hx=>?_,fun x hx=>?_,nn⟩
 ·have:=(h x (by omega)).1 (by omega); unfold fp; omega
 ·have:=(h x (by omega)).1 (by omega); unfold fp; omega
 ·have:=(h x (by omega)).1 (by omega); unfold fp; omega
theorem Prs.lo {l:List Int} {n:Int} (h:Prs l n) (hl:fo32 l) (hn:1 <= n /\ n <= 32):fl32 l:=⟨hl.1,fun i hi=>by
 by_cases q:(i:Int) < n
 ·have:=(h i hi).1 q; omega
 ·have:=(h i hi).2 (by omega); omega⟩
theorem Prs.of {l:List Int} {n:Int} (h:Iv l n.toNat) (h0:∀ x:Nat,n <= x -> gi l x = 0) (hn:0 <= n):Prs l n:=fun x hx=>⟨fun hxn=>by
 have a1:=h.lt x (by omega)
 have a2:=h.ne x (by omega)
 have a3:=h.iv x (by omega)
 have a4:=h.nn x
 have a5:=h.nn (gi l x).toNat
 unfold fp at *; omega,fun hxn=>h0 x hxn⟩
def bo (C S:List Int) (n:Int):List Int:=(List.range 32).map fun x:Nat=>if (x:Int) < n then gi S (gi C x).toNat else 0
theorem bo_len {C S:List Int} {n:Int}:(bo C S n).length = 32:=by simp[bo]
theorem bo_at {C S:List Int} {n:Int} {x:Nat} (hx:x < 32):gi (bo C S n) x = if (x:Int) < n then gi S (gi C x).toNat else 0:=by
 rw[gi_of (by rw[bo_len]; exact hx)]; simp[bo]
structure Fl (n:Int) (C T S:List Int):Prop where
 hn:4 <= n /\ n <= 32
 h4:n % 4 = 0
 pC:Prs C n
 pT:Prs T n
 pS:Prs S n
 co:∀ x:Nat,(x:Int) < n -> gi S (gi C x).toNat = gi C (gi S x).toNat
 ne:∀ x:Nat,(x:Int) < n -> gi S (gi C x).toNat ≠ x
 on:(obs [C,T,S] n.toNat).length = 1
section
variable {n:Int} {C T S:List Int}
structure Fls (n:Int) (C T S:List Int):Prop where
 F:Fl n C T S
 c:fl32 C
 t:fl32 T
 s:fl32 S
 iC:Iv C n.toNat
 iT:Iv T n.toNat
 iS:Iv S n.toNat
theorem Fl.fo (h:Fl n C T S) (hC:fo32 C) (hT:fo32 T) (hS:fo32 S):Fls n C T S :=
 ⟨h,h.pC.lo hC (by have:=h.hn; omega),h.pT.lo hT (by have:=h.hn; omega),h.pS.lo hS (by have:=h.hn; omega),h.pC.iv hC h.hn.2,h.pT.iv hT h.hn.2,h.pS.iv hS h.hn.2⟩
theorem ivs3 {a b c:List Int} {N:Nat} (ha:Iv a N) (hb:Iv b N) (hc:Iv c N):Ivs [a,b,c] N:=fun l hl=>by
 simp only[List.mem_cons,List.not_mem_nil,or_false] at hl
 rcases hl with rfl | rfl | rfl <;> assumption
theorem ivs2 {a b:List Int} {N:Nat} (ha:Iv a N) (hb:Iv b N):Ivs [a,b] N:=fun l hl=>by
 simp only[List.mem_cons,List.not_mem_nil,or_false] at hl
 rcases hl with rfl | rfl <;> assumption
theorem Fls.h32 (h:Fls n C T S):n.toNat <= 32 /\ 4 <= n.toNat /\ ((n.toNat:Nat):Int) = n /\ n.toNat % 4 = 0:=by have:=h.F.hn; have:=h.F.h4; omega
theorem Fls.all (h:Fls n C T S):∀ x,x < n.toNat -> Rl [C,T,S] 0 x:=(obs_one h.h32.1 (by have:=h.h32; omega) (ivs3 h.iC h.iT h.iS)).1 h.F.on
theorem Fls.co (h:Fls n C T S) {x:Nat} (hx:x < n.toNat):fp S (fp C x) = fp C (fp S x):=by have:=h.F.co x (by have:=h.h32; omega); unfold fp; omega
theorem Fls.ne (h:Fls n C T S) {x:Nat} (hx:x < n.toNat):fp S (fp C x) ≠ x:=by
 have:=h.F.ne x (by have:=h.h32; omega)
 have:=h.iS.nn (gi C x).toNat
 unfold fp; omega
theorem Fls.bo_fp (h:Fls n C T S) {x:Nat} (hx:x < n.toNat):fp (bo C S n) x = fp S (fp C x):=by
 have:=h.h32
 unfold fp; rw[bo_at (by omega),if_pos (by omega)]
theorem Fls.bo_out (h:Fls n C T S) {x:Nat} (hx:n <= x):gi (bo C S n) x = 0:=by
 by_cases q:x < 32
 ·rw[bo_at q,if_neg (by omega)]
 ·rw[gi_over (by rw[bo_len]; omega)]
theorem Fls.iP (h:Fls n C T S):Iv (bo C S n) n.toNat:=by
 have h32:=h.h32
 refine ⟨fun x hx=>?_,fun x hx=>?_,fun x hx=>?_,fun x=>?_⟩
 ·rw[h.bo_fp hx]; exact h.iS.lt _ (h.iC.lt x hx)
 ·rw[h.bo_fp hx]; exact h.ne hx
 ·have h1:=h.iC.lt x hx
  have h2:=h.iS.lt _ h1
  rw[h.bo_fp hx,h.bo_fp h2,h.co h2,h.iS.iv _ h1,h.iC.iv x hx]
 ·by_cases q:(x:Int) < n
  ·rw[bo_at (by omega),if_pos q]; exact h.iS.nn _
  ·rw[h.bo_out (by omega)]; omega
theorem Fls.pP (h:Fls n C T S):Prs (bo C S n) n:=Prs.of h.iP (fun x hx=>h.bo_out hx) (by have:=h.F.hn; omega)
theorem Fls.lP (h:Fls n C T S):fl32 (bo C S n):=by
 refine ⟨bo_len,fun i hi=>?_⟩
 by_cases q:(i:Int) < n
 ·have:=h.F.hn
  have:=h.pP i hi
  have:=this.1 q
  omega
 ·rw[h.bo_out (by omega)]; omega
theorem Fls.re (h:Fls n C T S) {C' S':List Int} (pC:Prs C' n) (pS:Prs S' n) (lC:fl32 C') (lS:fl32 S') (co:∀ x,x < n.toNat -> fp S' (fp C' x) = fp C' (fp S' x)) (ne:∀ x,x < n.toNat -> fp S' (fp C' x) ≠ x)
  (hC:∀ x,x < n.toNat -> Rl [C',T,S'] x (fp C x)) (hS:∀ x,x < n.toNat -> Rl [C',T,S'] x (fp S x)):Fls n C' T S':=by
 have h32:=h.h32
 have iC:=pC.iv lC.ok h.F.hn.2
 have iS:=pS.iv lS.ok h.F.hn.2
 refine Fl.fo ⟨h.F.hn,h.F.h4,pC,h.F.pT,pS,fun x hx=>?_,fun x hx=>?_,?_⟩ lC.ok h.t.ok lS.ok
 ·have:=co x (by omega)
  have:=iS.nn (gi C' x).toNat
  have:=iC.nn (gi S' x).toNat
  unfold fp at *; omega
 ·have:=ne x (by omega)
  unfold fp at *; omega
 ·refine (obs_one h32.1 (by omega) (ivs3 iC h.iT iS)).2 fun x hx=>Rl.sub (ivs3 h.iC h.iT h.iS) (fun l hl x hx=>?_) (by omega) (h.all x hx)
  simp only[List.mem_cons,List.not_mem_nil,or_false] at hl
  rcases hl with rfl | rfl | rfl
  ·exact hC x hx
  ·exact Rl.one (by simp)
  ·exact hS x hx
def tuC (C S:List Int) (n k:Int):List Int:=if k = 0 then C else if k = 1 then S else if k = 2 then bo C S n else if k = 3 then S else if k = 4 then C else bo C S n
def tuS (C S:List Int) (n k:Int):List Int:=if k = 0 then S else if k = 1 then C else if k = 2 then S else if k = 3 then bo C S n else if k = 4 then bo C S n else C
theorem Fls.turn (h:Fls n C T S) {k:Int} (hk:0 <= k /\ k <= 5):Fls n (tuC C S n k) T (tuS C S n k):=by
 have P1:∀ {x:Nat},x < n.toNat -> fp (bo C S n) (fp C x) = fp S x:=fun {x} hx=>by
  rw[h.bo_fp (h.iC.lt x hx),h.iC.iv x hx]
 have P2:∀ {x:Nat},x < n.toNat -> fp C (fp (bo C S n) x) = fp S x:=fun {x} hx=>by
  rw[h.bo_fp hx,h.co hx,h.iC.iv _ (h.iS.lt x hx)]
 have P3:∀ {x:Nat},x < n.toNat -> fp S (fp (bo C S n) x) = fp C x:=fun {x} hx=>by
  rw[h.bo_fp hx,h.iS.iv _ (h.iC.lt x hx)]
 have P4:∀ {x:Nat},x < n.toNat -> fp (bo C S n) (fp S x) = fp C x:=fun {x} hx=>by
  have e:=h.co (h.iS.lt x hx)
  rw[h.bo_fp (h.iS.lt x hx),e,h.iS.iv x hx]
 have:k = 0 ∨ k = 1 ∨ k = 2 ∨ k = 3 ∨ k = 4 ∨ k = 5:=by omega
 rcases this with rfl | rfl | rfl | rfl | rfl | rfl
 ·exact h
 ·exact h.re h.F.pS h.F.pC h.s h.c (fun x hx=>(h.co hx).symm) (fun x hx e=>h.ne hx ((h.co hx).trans e)) (fun x hx=>Rl.one (by simp[tuS])) (fun x hx=>Rl.one (by simp[tuC]))
 ·refine h.re (C':=bo C S n) (S':=S) h.pP h.F.pS h.lP h.s (fun x hx=>(P3 hx).trans (P4 hx).symm) (fun x hx=>by rw[P3 hx]; exact h.iC.ne x hx) (fun x hx=>?_) (fun x hx=>Rl.one (by simp))
  rw[<-P3 hx]
  exact (Rl.one (by simp)).step (by simp)
 ·refine h.re (C':=S) (S':=bo C S n) h.F.pS h.pP h.s h.lP (fun x hx=>(P4 hx).trans (P3 hx).symm) (fun x hx=>by rw[P4 hx]; exact h.iC.ne x hx) (fun x hx=>?_) (fun x hx=>Rl.one (by simp))
  rw[<-P3 hx]
  exact (Rl.one (by simp)).step (by simp)
 ·refine h.re (C':=C) (S':=bo C S n) h.F.pC h.pP h.c h.lP (fun x hx=>(P1 hx).trans (P2 hx).symm) (fun x hx=>by rw[P1 hx]; exact h.iS.ne x hx) (fun x hx=>Rl.one (by simp)) (fun x hx=>?_)
  rw[<-P2 hx]
  exact (Rl.one (by simp)).step (by simp)
 ·refine h.re (C':=bo C S n) (S':=C) h.pP h.F.pC h.lP h.c (fun x hx=>(P2 hx).trans (P1 hx).symm) (fun x hx=>by rw[P2 hx]; exact h.iS.ne x hx) (fun x hx=>Rl.one (by simp)) (fun x hx=>?_)
  rw[<-P2 hx]
  exact (Rl.one (by simp)).step (by simp)
theorem Fls.four (h:Fls n C T S):4 * ((obs [C,S] n.toNat).length:Int) = n:=by
 classical
 obtain ⟨h32,h4,hn,_⟩:=h.h32
 have hv:=ivs2 h.iC h.iS
 have key:∀ x,x < n.toNat -> szO [C,S] n.toNat x = 4:=fun x hx=>by
  have a1:=h.iC.lt x hx
  have a2:=h.iS.lt x hx
  have a3:=h.iS.lt _ a1
  have n1:=h.iC.ne x hx
  have n2:=h.iS.ne x hx
  have n3:=h.ne hx
  have n4:=h.iS.ne _ a1
  have n5:fp C x ≠ fp S x:=fun e=>n3 (by rw[e,h.iS.iv x hx])
  have n6:fp S (fp C x) ≠ fp S x:=fun e=>by
   have:=h.iS.iv _ a1
   rw[e,h.iS.iv x hx] at this
   exact n1 this.symm
  have nd:([(x:Int),(fp C x:Int),(fp S x:Int),(fp S (fp C x):Int)]:List Int).Nodup:=by
   simp only[List.nodup_cons,List.mem_cons,List.not_mem_nil,or_false,not_or,List.nodup_nil,and_true,not_false_eq_true]
   refine ⟨⟨?_,?_,?_⟩,⟨?_,?_⟩,?_⟩ <;> omega
  have:=len_smE (N:=n.toNat) nd fun y hy=>by
   simp only[List.mem_cons,List.not_mem_nil,or_false] at hy
   rcases hy with rfl | rfl | rfl | rfl <;> omega
  have e4:(([(x:Int),(fp C x:Int),(fp S x:Int),(fp S (fp C x):Int)]:List Int).length:Int) = 4:=rfl
  rw[e4] at this
  rw[<-this]
  unfold szO
  refine smE_congr _ fun y hy=>?_
  have hr:Rl [C,S] x y ↔ (y:Int) ∈ ([(x:Int),(fp C x:Int),(fp S x:Int),(fp S (fp C x):Int)]:List Int):=by
   constructor
   ·intro r
    induction r with
    | refl=>simp
    | @step z l r hl ih =>
     have ih:=ih (r.lt hv hx)
     simp only[List.mem_cons,List.not_mem_nil,or_false,Int.natCast_inj] at ih hl ⊢
     rcases hl with rfl | rfl
     ·rcases ih with rfl | rfl | rfl | rfl
      ·exact .inr (.inl rfl)
      ·exact .inl (h.iC.iv _ hx)
      ·exact .inr (.inr (.inr (h.co hx).symm))
      ·refine .inr (.inr (.inl ?_))
       rw[h.co hx,h.iC.iv _ a2]
     ·rcases ih with rfl | rfl | rfl | rfl
      ·exact .inr (.inr (.inl rfl))
      ·exact .inr (.inr (.inr rfl))
      ·exact .inl (h.iS.iv _ hx)
      ·exact .inr (.inl (h.iS.iv _ a1))
   ·intro hm
    simp only[List.mem_cons,List.not_mem_nil,or_false,Int.natCast_inj] at hm
    rcases hm with rfl | rfl | rfl | rfl
    ·exact .refl
    ·exact Rl.one (by simp)
    ·exact Rl.one (by simp)
    ·exact (Rl.one (show C ∈ [C,S] by simp)).step (by simp)
  by_cases q:Rl [C,S] x y
  ·rw[if_pos q,if_pos (hr.1 q)]
  ·rw[if_neg q,if_neg fun q'=>q (hr.2 q')]
 have h1:=obs_sum h32 hv
 rw[smE_congr (g:=fun _=>4) _ fun j hj=>by
  obtain ⟨y,hy,e⟩:=obs_sz h32 hv (a:=gi (obs [C,S] n.toNat) j) (by rw[gi_of hj]; exact List.getElem_mem hj)
  rw[e,key y hy],smE_const] at h1
 omega
def hlf (l:List Int):List Int:=l.map fun a=>a.tdiv 2
end
end
section
set_option maxHeartbeats 1000000
inductive Frs where
 | nil
 | cons (a b:Frs)
def Frs.word:Frs -> List UInt8
 | nil=>[]
 | cons a b=>40 :: (a.word ++ 41 :: b.word)
def Frs.size:Frs -> Nat
 | nil=>0
 | cons a b=>a.size + b.size + 1
theorem Frs.word_len:∀ F:Frs,F.word.length = 2 * F.size
 | nil=>rfl
 | cons a b=>by simp only[Frs.word,Frs.size,List.length_cons,List.length_append,Frs.word_len a,Frs.word_len b]; omega
inductive Rd:List Int -> List Int -> Nat -> Nat -> Frs -> List Nat -> Prop
 | stop {p q:List Int} {x:Nat}:Rd p q x x .nil []
 | go {p q:List Int} {x y:Nat} {A B:Frs} {LA LB:List Nat}:y ≠ x -> Rd q p y (fp q y) A LA -> Rd p q x (fp p y) B LB -> Rd p q x y (.cons A B) (y :: (LA ++ LB))
def pmc (b w:List Int):Bool -> List Int
 | false=>b
 | true=>w
def enc (c:Bool) (y:Nat):Nat:=2 * y + c.toNat
section
variable {b w p q:List Int} {N x y z:Nat} {F G:Frs} {L M:List Nat} {n:Int} {c:Bool} {S:Nat -> Prop}
theorem Rd.len (h:Rd p q x y F L):L.length = F.size:=by
 induction h with
 | stop=>rfl
 | go _ _ _ iA iB=>simp only[List.length_cons,List.length_append,Frs.size,iA,iB]
theorem Rd.uniq (h:Rd p q x y F L):∀ {G M},Rd p q x y G M -> F = G /\ L = M:=by
 induction h with
 | stop =>
  intro G M h'
  cases h' with
  | stop=>exact ⟨rfl,rfl⟩
  | go hne _ _=>exact absurd rfl hne
 | go hne _ _ iA iB =>
  intro G M h'
  cases h' with
  | stop=>exact absurd rfl hne
  | go _ hA hB =>
   obtain ⟨rfl,rfl⟩:=iA hA
   obtain ⟨rfl,rfl⟩:=iB hB
   exact ⟨rfl,rfl⟩
theorem Rd.start (h:Rd p q x y F L):y = x ∨ y ∈ L:=by
 cases h with
 | stop=>exact .inl rfl
 | go=>exact .inr (by simp)
theorem Rd.closed (h:Rd p q x y F L):∀ t ∈ L,fp q t ∈ L /\ (fp p t ∈ L ∨ fp p t = x):=by
 induction h with
 | stop=>exact fun t ht=>absurd ht List.not_mem_nil
 | @go p q x y A B LA LB hne hA hB iA iB =>
  intro t ht
  simp only[List.mem_cons,List.mem_append] at ht ⊢
  rcases ht with rfl | ht | ht
  ·refine ⟨?_,?_⟩
   ·rcases hA.start with e | e
    ·exact .inl e
    ·exact .inr (.inl e)
   ·rcases hB.start with e | e
    ·exact .inr e
    ·exact .inl (.inr (.inr e))
  ·obtain ⟨h1,h2⟩:=iA t ht
   refine ⟨?_,.inl (.inr (.inl h1))⟩
   rcases h2 with h2 | h2
   ·exact .inr (.inl h2)
   ·exact .inl h2
  ·obtain ⟨h1,h2⟩:=iB t ht
   refine ⟨.inr (.inr h1),?_⟩
   rcases h2 with h2 | h2
   ·exact .inl (.inr (.inr h2))
   ·exact .inr h2
theorem He.orb (hb:Pf b N) (hw:Pf w N) (hy:y < N):∀ i,He b w N S (enc c y) (enc c (it (pmc b w c) i y))
 | 0=>.refl
 | i + 1=>by
  have ih:=He.orb hb hw hy i
  cases c with
  | false=>exact ih.fw (.bk _ (it_lt hb hy i))
  | true=>exact ih.fw (.wh _ (it_lt hw hy i))
theorem He.along (hy:y < N) (hS:S y):He b w N S (enc c y) (enc (!c) y):=by
 cases c with
 | false=>exact He.refl.fw (.ed y hy hS)
 | true=>exact He.refl.bw (.ed y hy hS)
theorem Tre.bridge' (h:Tre n b w) (hz:z < n.toNat):¬ He b w n.toNat (· ≠ z) (enc c z) (enc (!c) z):=fun q=>by
 cases c with
 | false=>exact h.bridge hz q
 | true=>exact h.bridge hz q.symm
theorem Tre.apart (h:Tre n b w) (hy:y < n.toNat) (hz:z < n.toNat) (hv:∀ S,He b w n.toNat S (enc c y) (enc c z)) (hne:z ≠ y) {k:Nat} (r:He b w n.toNat (· ≠ z) (enc (!c) z) k) :
  He b w n.toNat (fun t=>t ≠ z /\ t ≠ y) (enc (!c) z) k:=by
 have no:∀ {c':Bool},¬ He b w n.toNat (fun t=>t ≠ z /\ t ≠ y) (enc (!c) z) (enc c' y):=fun {c'} q=>by
  have q':=q.mono (S':=(· ≠ z)) fun _ hx=>hx.1
  have q2:He b w n.toNat (· ≠ z) (enc (!c) z) (enc c y):=by
   by_cases e:c' = c
   ·subst e; exact q'
   ·have:c' = !c:=by cases c <;> cases c' <;> simp_all
    subst this
    have:=q'.trans (He.along (b:=b) (w:=w) (c:=!c) (S:=(· ≠ z)) hy (fun e=>hne e.symm))
    simpa using this
  have:=q2.trans (hv _)
  exact h.bridge' (c:=!c) hz (by simpa using this)
 have st:∀ {j k:Nat},Se b w n.toNat (· ≠ z) j k -> (He b w n.toNat (fun t=>t ≠ z /\ t ≠ y) (enc (!c) z) j ∨ He b w n.toNat (fun t=>t ≠ z /\ t ≠ y) (enc (!c) z) k) -> Se b w n.toNat (fun t=>t ≠ z /\ t ≠ y) j k:=fun {j k} s q=>by
  cases s with
  | bk t ht=>exact .bk t ht
  | wh t ht=>exact .wh t ht
  | ed t ht hs =>
   refine .ed t ht ⟨hs,?_⟩
   rintro rfl
   rcases q with q | q
   ·exact no (c':=false) q
   ·exact no (c':=true) q
 induction r with
 | refl=>exact .refl
 | fw _ s ih=>exact ih.fw (st s (.inl ih))
 | bw _ s ih=>exact ih.bw (st s (.inr ih))
open Classical in
noncomputable def mu (b w:List Int) (N:Nat) (c:Bool) (y:Nat):Int:=smE (2 * N) fun k=>if He b w N (· ≠ y) (enc c y) k then 1 else 0
theorem enc_lt (hy:y < N):enc c y < 2 * N:=by unfold enc; cases c <;> simp <;> omega
theorem Tre.inside (h:Tre n b w) (hy:y < n.toNat) (hz:z < n.toNat) (hv:∀ S,He b w n.toNat S (enc c y) (enc c z)) (hne:z ≠ y) {k:Nat} (r:He b w n.toNat (· ≠ z) (enc (!c) z) k):He b w n.toNat (· ≠ y) (enc c y) k :=
 ((hv _).trans (He.along hz hne)).trans ((h.apart hy hz hv hne r).mono fun _ hx=>hx.2)
theorem Tre.mu_lt (h:Tre n b w) (hy:y < n.toNat) (hz:z < n.toNat) (hv:∀ S,He b w n.toNat S (enc c y) (enc c z)) (hne:z ≠ y):mu b w n.toNat (!c) z < mu b w n.toNat c y:=by
 classical
 have e1:=smE_ge (f:=fun k=>(if He b w n.toNat (· ≠ y) (enc c y) k then (1:Int) else 0) - if He b w n.toNat (· ≠ z) (enc (!c) z) k then 1 else 0) (n:=2 * n.toNat) (fun k _=>by
  by_cases q:He b w n.toNat (· ≠ z) (enc (!c) z) k
  ·rw[if_pos q,if_pos (h.inside hy hz hv hne q)]; omega
  ·rw[if_neg q]; split <;> omega) (enc_lt (c:=c) hz)
 rw[if_pos (hv _),if_neg fun q=>h.bridge' (c:=!c) hz (by simpa using q)] at e1
 have e2:smE (2 * n.toNat) (fun k=>(if He b w n.toNat (· ≠ y) (enc c y) k then (1:Int) else 0) - if He b w n.toNat (· ≠ z) (enc (!c) z) k then 1 else 0) = mu b w n.toNat c y - mu b w n.toNat (!c) z:=by
  unfold mu
  rw[<-smE_sub]
 omega
theorem mu_nn:0 <= mu b w N c y:=by
 classical
 unfold mu
 have:=smE_mono (f:=fun _=>0) (g:=fun k=>if He b w N (· ≠ y) (enc c y) k then (1:Int) else 0) (n:=2 * N) fun k _=>by split <;> omega
 rw[smE_const] at this
 simpa using this
structure Bh (b w:List Int) (N:Nat) (c:Bool) (y:Nat) (L:List Nat):Prop where
 lt:∀ t ∈ L,t < N
 nd:L.Nodup
 inn:∀ t ∈ L,∀ c',He b w N (· ≠ y) (enc c y) (enc c' t)
theorem Tre.pmc_pd (h:Tre n b w):∀ c,Pd (pmc b w c) n
 | false=>h.Z.B
 | true=>h.Z.W
theorem Tre.read (h:Tre n b w):∀ (m:Nat) {c:Bool} {y:Nat},y < n.toNat -> mu b w n.toNat c y <= m -> ∃ F L,Rd (pmc b w c) (pmc b w !c) y (fp (pmc b w c) y) F L /\ Bh b w n.toNat c y L
 | m,c,y,hy,hm=>by
  have P:=h.pmc_pd c
  obtain hL:=P.per hy
  generalize lenW (pmc b w c) n y = l at hL
  have hb:=h.Z.B.pf
  have hw:=h.Z.W.pf
  -- the edges of the vertex,from the last one down
  have key:∀ d i,i + d = l -> 1 <= i -> ∃ F L,Rd (pmc b w c) (pmc b w !c) y (it (pmc b w c) i y) F L /\ (∀ t ∈ L,t < n.toNat) /\ L.Nodup /\
    ∀ t ∈ L,∃ j,i <= j /\ j < l /\ (t = it (pmc b w c) j y ∨ ∀ c',He b w n.toNat (· ≠ it (pmc b w c) j y) (enc (!c) (it (pmc b w c) j y)) (enc c' t)):=fun d=>by
   induction d with
   | zero =>
    intro i hi h1
    have:it (pmc b w c) i y = y:=by rw[show i = l by omega]; exact hL.ret
    rw[this]
    exact ⟨.nil,[],.stop,fun t ht=>absurd ht List.not_mem_nil,List.nodup_nil,fun t ht=>absurd ht List.not_mem_nil⟩
   | succ d ih =>
    intro i hi h1
    have hne:=hL.min i h1 (by omega)
    have hz:=it_lt P.pf hy i
    have hv:∀ S,He b w n.toNat S (enc c y) (enc c (it (pmc b w c) i y)):=fun S=>He.orb hb hw hy i
    have hmu:=h.mu_lt hy hz hv hne
    have hnn:=mu_nn (b:=b) (w:=w) (N:=n.toNat) (c:=!c) (y:=it (pmc b w c) i y)
    obtain ⟨A,LA,rA,bA⟩:∃ F L,Rd (pmc b w !c) (pmc b w !(!c)) (it (pmc b w c) i y) (fp (pmc b w !c) (it (pmc b w c) i y)) F L /\ Bh b w n.toNat (!c) (it (pmc b w c) i y) L:=by
     match m,hm with
     | 0,hm=>omega
     | m + 1,hm=>exact Tre.read h m hz (by omega)
    rw[Bool.not_not] at rA
    obtain ⟨B,LB,rB,b1,b2,b3⟩:=ih (i + 1) (by omega) (by omega)
    simp only[it] at rB
    refine ⟨.cons A B,_,.go hne rA rB,fun t ht=>?_,?_,fun t ht=>?_⟩
    ·simp only[List.mem_cons,List.mem_append] at ht
     rcases ht with rfl | ht | ht
     ·exact hz
     ·exact bA.lt t ht
     ·exact b1 t ht
    ·-- no edge twice
     have selfA:∀ t ∈ LA,∀ j,it (pmc b w c) j y ≠ t:=fun t ht j e=>by
      have:=bA.inn t ht c
      rw[<-e] at this
      have v2:=(He.orb (S:=(· ≠ it (pmc b w c) i y)) (c:=c) hb hw hy j).symm.trans (hv _)
      exact h.bridge' (c:=!c) hz (by simpa using this.trans v2)
     have dist:∀ j,i < j -> j < l -> it (pmc b w c) j y ≠ it (pmc b w c) i y:=fun j hij hj e=>by
      have e2:it (pmc b w c) (j - i) y = y:=by
       rw[show j = i + (j - i) by omega,it_add] at e
       exact it_inj P.pf (it_lt P.pf hy _) hy i (by rw[e])
      exact hL.min (j - i) (by omega) (by omega) e2
     refine List.nodup_cons.2 ⟨fun hm'=>?_,List.nodup_append.2 ⟨bA.nd,b2,fun t ht u hu e=>?_⟩⟩
     ·rcases List.mem_append.1 hm' with hm' | hm'
      ·exact selfA _ hm' i rfl
      ·obtain ⟨j,hj1,hj2,e | e⟩:=b3 _ hm'
       ·exact dist j (by omega) hj2 e.symm
       ·have hzj:=it_lt P.pf hy j
        have v2:=(He.orb (S:=(· ≠ it (pmc b w c) j y)) (c:=c) hb hw hy i).symm.trans (He.orb (S:=(· ≠ it (pmc b w c) j y)) (c:=c) hb hw hy j)
        exact h.bridge' (c:=!c) hzj (by simpa using (e c).trans v2)
     ·subst e
      obtain ⟨j,hj1,hj2,e | e⟩:=b3 _ hu
      ·exact selfA t ht j e.symm
      ·have hzj:=it_lt P.pf hy j
       have hd:=dist j (by omega) hj2
       have vij:∀ S,He b w n.toNat S (enc c (it (pmc b w c) j y)) (enc c (it (pmc b w c) i y)):=fun S=>(He.orb hb hw hy j).symm.trans (He.orb hb hw hy i)
       have r1:=h.apart hzj hz vij (fun q=>hd q.symm) (bA.inn t ht c)
       have r2:=h.apart hz hzj (fun S=>(vij S).symm) hd (e c)
       have r3:=(r1.mono (S':=(· ≠ it (pmc b w c) i y)) fun _ hx=>hx.1).trans (r2.mono (S':=(· ≠ it (pmc b w c) i y)) fun _ hx=>hx.2).symm
       have r4:=r3.trans (He.along (c:=!c) hzj hd)
       rw[Bool.not_not] at r4
       exact h.bridge' (c:=!c) hz (by simpa using r4.trans (vij _))
    ·simp only[List.mem_cons,List.mem_append] at ht
     rcases ht with rfl | ht | ht
     ·exact ⟨i,Nat.le_refl _,by omega,.inl rfl⟩
     ·exact ⟨i,Nat.le_refl _,by omega,.inr (bA.inn t ht)⟩
     ·obtain ⟨j,j1,j2,j3⟩:=b3 t ht
      exact ⟨j,by omega,j2,j3⟩
  obtain ⟨F,L,r,l1,l2,l3⟩:=key (l - 1) 1 (by have:=hL.pos; omega) (Nat.le_refl _)
  refine ⟨F,L,r,l1,l2,fun t ht c'=>?_⟩
  obtain ⟨j,j1,j2,e | e⟩:=l3 t ht
  ·have hj:=He.orb (S:=(· ≠ y)) (c:=c) hb hw hy j
   rw[<-e] at hj
   by_cases q:c' = c
   ·subst q; exact hj
   ·have:c' = !c:=by cases c <;> cases c' <;> simp_all
    subst this
    exact hj.trans (He.along (l1 t ht) (by rw[e]; exact hL.min j (by omega) j2))
  ·exact h.inside hy (it_lt P.pf hy j) (fun S=>He.orb hb hw hy j) (hL.min j (by omega) j2) (e c')
structure Wh (n:Int) (b w:List Int) (x:Nat) (A B:Frs) (LA LB:List Nat):Prop where
 a:Rd w b x (fp w x) A LA
 bb:Rd b w x (fp b x) B LB
 lt:∀ t ∈ x :: (LA ++ LB),t < n.toNat
 nd:(x :: (LA ++ LB)).Nodup
 all:∀ t,t < n.toNat -> t ∈ x :: (LA ++ LB)
theorem Tre.whole (h:Tre n b w) (hx:x < n.toNat):∃ A B LA LB,Wh n b w x A B LA LB:=by
 obtain ⟨A,LA,rA,bA⟩:=h.read (mu b w n.toNat true x).toNat (c:=true) hx (by have:=mu_nn (b:=b) (w:=w) (N:=n.toNat) (c:=true) (y:=x); omega)
 obtain ⟨B,LB,rB,bB⟩:=h.read (mu b w n.toNat false x).toNat (c:=false) hx (by have:=mu_nn (b:=b) (w:=w) (N:=n.toNat) (c:=false) (y:=x); omega)
 have rA:Rd w b x (fp w x) A LA:=rA
 have rB:Rd b w x (fp b x) B LB:=rB
 have self:∀ {c:Bool} {L:List Nat},Bh b w n.toNat c x L -> x ∉ L:=fun {c L} hb hm=>h.bridge' (c:=c) hx (hb.inn x hm (!c))
 refine ⟨A,B,LA,LB,rA,rB,fun t ht=>?_,?_,fun t ht=>?_⟩
 ·simp only[List.mem_cons,List.mem_append] at ht
  rcases ht with rfl | ht | ht
  ·exact hx
  ·exact bA.lt t ht
  ·exact bB.lt t ht
 ·refine List.nodup_cons.2 ⟨fun hm=>?_,List.nodup_append.2 ⟨bA.nd,bB.nd,fun t ht u hu e=>?_⟩⟩
  ·rcases List.mem_append.1 hm with hm | hm
   ·exact self bA hm
   ·exact self bB hm
  ·subst e
   exact h.bridge' (c:=true) hx ((bA.inn t ht true).trans (bB.inn t hu true).symm)
 ·refine h.Z.alls_from (S:=fun t=>t ∈ x :: (LA ++ LB)) hx (by simp) (fun t _ hm=>?_) (fun t _ hm=>?_) t ht
  ·simp only[List.mem_cons,List.mem_append] at hm ⊢
   rcases hm with rfl | hm | hm
   ·rcases rB.start with e | e
    ·exact .inl e
    ·exact .inr (.inr e)
   ·exact .inr (.inl (rA.closed t hm).1)
   ·rcases (rB.closed t hm).2 with e | e
    ·exact .inr (.inr e)
    ·exact .inl e
  ·simp only[List.mem_cons,List.mem_append] at hm ⊢
   rcases hm with rfl | hm | hm
   ·rcases rA.start with e | e
    ·exact .inl e
    ·exact .inr (.inl e)
   ·rcases (rA.closed t hm).2 with e | e
    ·exact .inr (.inl e)
    ·exact .inl e
   ·exact .inr (.inr (rB.closed t hm).1)
end
end
section
set_option maxHeartbeats 1000000
def Stf (P Q:List Int):Frs -> Nat -> Nat -> Nat -> Prop
 | .nil,prev,fin,_=>fp P prev = fin
 | .cons A B,prev,fin,o=>fp P prev = o /\ Stf Q P A o o (o + 1) /\ Stf P Q B o fin (o + 1 + A.size)
section
variable {P Q P' Q' p q b w:List Int} {F A B:Frs} {prev fin o X Y N:Nat} {n:Int} {L:List Nat}
theorem getN_l {LA LB:List Nat} {i:Nat} (hi:i < LA.length):(LA ++ LB).getD i 0 = LA.getD i 0:=by simp[List.getD,List.getElem?_append_left hi]
theorem getN_r {LA LB:List Nat} {i:Nat}:(LA ++ LB).getD (LA.length + i) 0 = LB.getD i 0:=by simp[List.getD,List.getElem?_append_right]
theorem Stf.rd:∀ {F:Frs} {P Q:List Int} {prev fin o:Nat},Stf P Q F prev fin o -> fin < o -> Rd P Q fin (fp P prev) F (List.range' o F.size)
 | .nil,P,Q,prev,fin,o,h,hf=>by
  have h:fp P prev = fin:=h
  rw[h]; exact .stop
 | .cons A B,P,Q,prev,fin,o,h,hf=>by
  obtain ⟨h1,h2,h3⟩:=h
  have r:=Rd.go (p:=P) (q:=Q) (x:=fin) (y:=o) (by omega) (h2.rd (by omega)) (h3.rd (by omega))
  rw[h1]
  have e:o :: (List.range' (o + 1) A.size ++ List.range' (o + 1 + A.size) B.size) = List.range' o (Frs.cons A B).size:=by
   rw[List.range'_append_1]; rfl
  rw[e] at r
  exact r
theorem Stf.iso {σ:Nat -> Nat}:∀ {F:Frs} {P Q p q:List Int} {prev fin o X Y:Nat} {L:List Nat},Rd p q X Y F L -> Stf P Q F prev fin o -> (∀ i,i < F.size -> σ (o + i) = L.getD i 0) -> fp p (σ prev) = Y -> σ fin = X ->
  fp p (σ prev) = σ (fp P prev) /\ ∀ i,o <= i -> i < o + F.size -> fp p (σ i) = σ (fp P i) /\ fp q (σ i) = σ (fp Q i)
 | .nil,P,Q,p,q,prev,fin,o,X,Y,L,h,s,hσ,h1,h2=>by
  have s:fp P prev = fin:=s
  cases h
  exact ⟨by rw[h1,s,h2],fun i hi hi'=>by simp only[Frs.size] at hi'; omega⟩
 | .cons A B,P,Q,p,q,prev,fin,o,X,Y,L,h,s,hσ,h1,h2=>by
  obtain ⟨s1,s2,s3⟩:=s
  cases h with
  | @go _ _ _ _ _ _ LA LB hne hA hB =>
   have lA:=hA.len
   have eo:σ o = Y:=by have:=hσ 0 (by simp[Frs.size]); simpa using this
   have iA:=Stf.iso (σ:=σ) hA s2 (fun i hi=>by
    have:=hσ (1 + i) (by simp only[Frs.size]; omega)
    rw[show o + 1 + i = o + (1 + i) by omega,this,Nat.add_comm 1 i]
    simp only[List.getD_cons_succ]
    rw[getN_l (by omega)]) (by rw[eo]) eo
   have iB:=Stf.iso (σ:=σ) hB s3 (fun i hi=>by
    have:=hσ (1 + A.size + i) (by simp only[Frs.size]; omega)
    rw[show o + 1 + A.size + i = o + (1 + A.size + i) by omega,this,show 1 + A.size + i = (A.size + i) + 1 by omega]
    simp only[List.getD_cons_succ]
    rw[<-lA,getN_r]) (by rw[eo]) h2
   refine ⟨by rw[h1,s1,eo],fun i hi hi'=>?_⟩
   simp only[Frs.size] at hi'
   by_cases e:i = o
   ·subst e; exact ⟨iB.1,iA.1⟩
   ·by_cases e2:i < o + 1 + A.size
    ·have:=iA.2 i (by omega) e2; exact ⟨this.2,this.1⟩
    ·exact iB.2 i (by omega) (by omega)
theorem Stf.det:∀ {F:Frs} {P Q P' Q':List Int} {prev fin o:Nat},Stf P Q F prev fin o -> Stf P' Q' F prev fin o -> fp P prev = fp P' prev /\ ∀ i,o <= i -> i < o + F.size -> fp P i = fp P' i /\ fp Q i = fp Q' i
 | .nil,P,Q,P',Q',prev,fin,o,h,h'=>by
  have h:fp P prev = fin:=h
  have h':fp P' prev = fin:=h'
  exact ⟨by rw[h,h'],fun i hi hi'=>by simp only[Frs.size] at hi'; omega⟩
 | .cons A B,P,Q,P',Q',prev,fin,o,h,h'=>by
  obtain ⟨s1,s2,s3⟩:=h
  obtain ⟨t1,t2,t3⟩:=h'
  have iA:=Stf.det s2 t2
  have iB:=Stf.det s3 t3
  refine ⟨by rw[s1,t1],fun i hi hi'=>?_⟩
  simp only[Frs.size] at hi'
  by_cases e:i = o
  ·subst e; exact ⟨iB.1,iA.1⟩
  ·by_cases e2:i < o + 1 + A.size
   ·have:=iA.2 i (by omega) e2; exact ⟨this.2,this.1⟩
   ·exact iB.2 i (by omega) (by omega)
theorem Stf.vals:∀ {F:Frs} {P Q:List Int} {prev fin o:Nat},Stf P Q F prev fin o -> (fp P prev = fin ∨ o <= fp P prev /\ fp P prev < o + F.size) /\ ∀ i,o <= i -> i < o + F.size -> (fp P i = fin ∨ o <= fp P i /\ fp P i < o + F.size) /\ o <= fp Q i /\ fp Q i < o + F.size
 | .nil,P,Q,prev,fin,o,h=>⟨.inl h,fun i hi hi'=>by simp only[Frs.size] at hi'; omega⟩
 | .cons A B,P,Q,prev,fin,o,h=>by
  obtain ⟨s1,s2,s3⟩:=h
  have iA:=s2.vals
  have iB:=s3.vals
  simp only[Frs.size]
  refine ⟨.inr (by omega),fun i hi hi'=>?_⟩
  by_cases e:i = o
  ·subst e
   have:=iA.1
   have:=iB.1
   exact ⟨by omega,by omega⟩
  ·by_cases e2:i < o + 1 + A.size
   ·have:=iA.2 i (by omega) e2; exact ⟨by omega,by omega⟩
   ·have:=iB.2 i (by omega) (by omega); exact ⟨by omega,by omega⟩
theorem Stf.onto:∀ {F:Frs} {P Q:List Int} {prev fin o:Nat},Stf P Q F prev fin o -> (∀ t,t = fin ∨ o <= t /\ t < o + F.size -> ∃ s,(s = prev ∨ o <= s /\ s < o + F.size) /\ fp P s = t) /\ ∀ t,o <= t -> t < o + F.size -> ∃ s,o <= s /\ s < o + F.size /\ fp Q s = t
 | .nil,P,Q,prev,fin,o,h=>⟨fun t ht=>⟨prev,.inl rfl,by
   have h:fp P prev = fin:=h
   simp only[Frs.size] at ht; omega⟩,fun t ht ht'=>by simp only[Frs.size] at ht'; omega⟩
 | .cons A B,P,Q,prev,fin,o,h=>by
  obtain ⟨s1,s2,s3⟩:=h
  obtain ⟨a1,a2⟩:=s2.onto
  obtain ⟨b1,b2⟩:=s3.onto
  simp only[Frs.size]
  refine ⟨fun t ht=>?_,fun t ht ht'=>?_⟩
  ·by_cases e:t = o
   ·exact ⟨prev,.inl rfl,by omega⟩
   ·by_cases e2:o <= t /\ t < o + 1 + A.size
    ·obtain ⟨s,c1,c2,c3⟩:=a2 t (by omega) e2.2
     exact ⟨s,.inr (by omega),c3⟩
    ·obtain ⟨s,c1,c3⟩:=b1 t (by omega)
     exact ⟨s,.inr (by omega),c3⟩
  ·by_cases e2:t < o + 1 + A.size
   ·obtain ⟨s,c1,c3⟩:=a1 t (by omega)
    exact ⟨s,by omega,by omega,c3⟩
   ·obtain ⟨s,c1,c2,c3⟩:=b2 t (by omega) (by omega)
    exact ⟨s,by omega,by omega,c3⟩
theorem Stf.all {S:Nat -> Prop}:∀ {F:Frs} {P Q:List Int} {prev fin o N:Nat},Stf P Q F prev fin o -> o + F.size <= N -> prev < N -> (∀ x,x < N -> S x -> S (fp P x)) -> (∀ x,x < N -> S x -> S (fp Q x)) -> S prev -> ∀ i,o <= i -> i < o + F.size -> S i
 | .nil,P,Q,prev,fin,o,N,h,hN,hp,hP,hQ,h0=>fun i hi hi'=>by simp only[Frs.size] at hi'; omega
 | .cons A B,P,Q,prev,fin,o,N,h,hN,hp,hP,hQ,h0=>fun i hi hi'=>by
  obtain ⟨s1,s2,s3⟩:=h
  simp only[Frs.size] at hi' hN
  have ho:S o:=by rw[<-s1]; exact hP prev hp h0
  by_cases e:i = o
  ·subst e; exact ho
  ·by_cases e2:i < o + 1 + A.size
   ·exact s2.all (N:=N) (by omega) (by omega) hQ hP ho i (by omega) e2
   ·exact s3.all (N:=N) (by omega) (by omega) hP hQ ho i (by omega) (by omega)
inductive Ct (P Q:List Int):Nat × Bool -> Nat × Bool -> Prop
 | refl {s:Nat × Bool}:Ct P Q s s
 | p {s:Nat × Bool} {x:Nat}:Ct P Q s (x,false) -> Ct P Q s (fp P x,true)
 | q {s:Nat × Bool} {x:Nat}:Ct P Q s (x,true) -> Ct P Q s (fp Q x,false)
theorem Ct.trans {s t u:Nat × Bool} (h:Ct P Q s t) (h':Ct P Q t u):Ct P Q s u:=by
 induction h' with
 | refl=>exact h
 | p _ ih=>exact ih.p
 | q _ ih=>exact ih.q
theorem Ct.swap {s t:Nat × Bool} (h:Ct P Q s t):Ct Q P (s.1,!s.2) (t.1,!t.2):=by
 induction h with
 | refl=>exact .refl
 | p _ ih=>exact ih.q
 | q _ ih=>exact ih.p
theorem Stf.ct:∀ {F:Frs} {P Q:List Int} {prev fin o:Nat},Stf P Q F prev fin o -> Ct P Q (prev,false) (fin,true) /\ ∀ i,o <= i -> i < o + F.size -> ∀ c,Ct P Q (prev,false) (i,c)
 | .nil,P,Q,prev,fin,o,h=>by
  have h:fp P prev = fin:=h
  refine ⟨?_,fun i hi hi'=>by simp only[Frs.size] at hi'; omega⟩
  rw[<-h]; exact Ct.refl.p
 | .cons A B,P,Q,prev,fin,o,h=>by
  obtain ⟨s1,s2,s3⟩:=h
  obtain ⟨a1,a2⟩:=s2.ct
  obtain ⟨b1,b2⟩:=s3.ct
  have k1:Ct P Q (prev,false) (o,true):=by have:=(Ct.refl (P:=P) (Q:=Q) (s:=(prev,false))).p; rw[s1] at this; exact this
  have k2:Ct P Q (prev,false) (o,false):=k1.trans a1.swap
  refine ⟨k2.trans b1,fun i hi hi' c=>?_⟩
  simp only[Frs.size] at hi'
  by_cases e:i = o
  ·subst e; cases c; exact k2; exact k1
  ·by_cases e2:i < o + 1 + A.size
   ·have:=(a2 i (by omega) e2 (!c)).swap
    simp only[Bool.not_not] at this
    exact k1.trans this
   ·exact k2.trans (b2 i (by omega) (by omega) c)
def hds:Frs -> Nat -> Nat -> Prop
 | .nil,_,_=>False
 | .cons A B,o,t=>t = o ∨ hds B (o + 1 + A.size) t
theorem hds_lt:∀ {F:Frs} {o t:Nat},hds F o t -> o <= t /\ t < o + F.size
 | .cons A B,o,t,h=>by
  simp only[Frs.size]
  rcases h with rfl | h
  ·omega
  ·have:=hds_lt h; omega
theorem Stf.hd:∀ {F:Frs} {P Q:List Int} {prev fin o:Nat},Stf P Q F prev fin o -> ∀ t,t = prev ∨ hds F o t -> fp P t = fin ∨ hds F o (fp P t)
 | .nil,P,Q,prev,fin,o,h,t,ht=>by
  rcases ht with rfl | ht
  ·exact .inl h
  ·exact ht.elim
 | .cons A B,P,Q,prev,fin,o,h,t,ht=>by
  obtain ⟨s1,s2,s3⟩:=h
  -- the first one,else as for the rest
  have low:∀ t,t = o ∨ hds B (o + 1 + A.size) t -> fp P t = fin ∨ hds (.cons A B) o (fp P t):=fun t ht=>(s3.hd t ht).elim .inl fun q=>.inr (.inr q)
  rcases ht with rfl | ht | ht
  ·exact .inr (.inl s1)
  ·exact low t (.inl ht)
  ·exact low t (.inr ht)
theorem Stf.cyc (h:Stf P Q F o o (o + 1)):∀ k,it P k o = o ∨ hds F (o + 1) (it P k o)
 | 0=>.inl rfl
 | k + 1=>h.hd _ (h.cyc k)
theorem Stf.least:∀ {F:Frs} {P Q:List Int} {prev fin o N:Nat},Pf P N -> Pf Q N -> Stf P Q F prev fin o -> o + F.size <= N -> prev < o -> ∀ i,o <= i -> i < o + F.size ->
  ((∀ j,j < i -> ¬ Rch P j i) /\ ¬ ∀ j,j < i -> ¬ Rch Q j i) ∨ ((∀ j,j < i -> ¬ Rch Q j i) /\ ¬ ∀ j,j < i -> ¬ Rch P j i)
 | .nil,P,Q,prev,fin,o,N,hP,hQ,h,hN,hp=>fun i hi hi'=>by simp only[Frs.size] at hi'; omega
 | .cons A B,P,Q,prev,fin,o,N,hP,hQ,h,hN,hp=>fun i hi hi'=>by
  obtain ⟨s1,s2,s3⟩:=h
  simp only[Frs.size] at hi' hN
  by_cases e:i = o
  ·subst e
   refine .inr ⟨fun j hj r=>?_,fun q=>q prev hp ⟨1,s1⟩⟩
   obtain ⟨k,hk⟩:=Rch.symm hQ (by omega) r
   rcases s2.cyc k with e | e
   ·omega
   ·have:=hds_lt e; omega
  ·by_cases e2:i < o + 1 + A.size
   ·exact (Stf.least hQ hP s2 (by omega) (by omega) i (by omega) e2).elim .inr .inl
   ·exact Stf.least hP hQ s3 (by omega) (by omega) i (by omega) (by omega)
theorem pf_onto (hN:N <= 16) (h1:∀ x,x < N -> fp p x < N) (h2:∀ y,y < N -> ∃ x,x < N /\ fp p x = y):Pf p N:=by
 classical
 refine ⟨h1,fun x y hx hy e=>?_,hN⟩
 let g:Nat -> Nat:=fun t=>if h:t < N then Classical.choose (h2 t h) else 0
 have hg:∀ t,t < N -> g t < N /\ fp p (g t) = t:=fun t ht=>by
  have:=Classical.choose_spec (h2 t ht)
  simp only[g,dif_pos ht]
  exact this
 have nd:((List.range N).map fun t=>(g t:Int)).Nodup:=List.pairwise_map.2 (List.Pairwise.imp_of_mem (fun {a c} ha hc hne e=>hne (by
  have a1:=hg a (List.mem_range.1 ha)
  have a2:=hg c (List.mem_range.1 hc)
  rw[<-a1.2,<-a2.2,show g a = g c by omega])) List.nodup_range)
 have full:∀ z,z < N -> ∃ t,t < N /\ g t = z:=fun z hz=>by
  have:=full_mem (n:=(N:Int)) nd (fun y hy=>by
   obtain ⟨t,ht,rfl⟩:=List.mem_map.1 hy
   have:=(hg t (List.mem_range.1 ht)).1
   omega) (by simp) (x:=z) (by omega)
  obtain ⟨t,ht,e⟩:=List.mem_map.1 this
  exact ⟨t,List.mem_range.1 ht,by omega⟩
 obtain ⟨s,hs,rfl⟩:=full x hx
 obtain ⟨t,ht,rfl⟩:=full y hy
 rw[(hg s hs).2,(hg t ht).2] at e
 rw[e]
structure Mkd (n:Int) (b w:List Int) (A B:Frs):Prop where
 lb:lo16 b
 lw:lo16 w
 ob:∀ j:Nat,n <= j -> gi b j = 0
 ow:∀ j:Nat,n <= j -> gi w j = 0
 sz:n = A.size + B.size + 1
 le:n <= 16
 a:Stf w b A 0 0 1
 bb:Stf b w B 0 0 (1 + A.size)
variable (h:Mkd n b w A B)
include h
theorem Mkd.nn:n.toNat = A.size + B.size + 1 /\ n.toNat <= 16 /\ ((n.toNat:Nat):Int) = n:=by have:=h.sz; have:=h.le; omega
theorem Mkd.pf:Pf b n.toNat /\ Pf w n.toNat:=by
 obtain ⟨e,h16,_⟩:=h.nn
 have vA:=h.a.vals
 have vB:=h.bb.vals
 obtain ⟨a1,a2⟩:=h.a.onto
 obtain ⟨b1,b2⟩:=h.bb.onto
 constructor
 ·refine pf_onto h16 (fun x hx=>?_) fun y hy=>?_
  ·by_cases q:x = 0
   ·subst q; have:=vB.1; omega
   ·by_cases q2:x < 1 + A.size
    ·have:=(vA.2 x (by omega) q2).2; omega
    ·have:=(vB.2 x (by omega) (by omega)).1; omega
  ·by_cases q:y = 0 ∨ 1 + A.size <= y
   ·obtain ⟨s,c1,c2⟩:=b1 y (by omega)
    exact ⟨s,by omega,c2⟩
   ·obtain ⟨s,c1,c2,c3⟩:=a2 y (by omega) (by omega)
    exact ⟨s,by omega,c3⟩
 ·refine pf_onto h16 (fun x hx=>?_) fun y hy=>?_
  ·by_cases q:x = 0
   ·subst q; have:=vA.1; omega
   ·by_cases q2:x < 1 + A.size
    ·have:=(vA.2 x (by omega) q2).1; omega
    ·have:=(vB.2 x (by omega) (by omega)).2; omega
  ·by_cases q:y < 1 + A.size
   ·obtain ⟨s,c1,c2⟩:=a1 y (by omega)
    exact ⟨s,by omega,c2⟩
   ·obtain ⟨s,c1,c2,c3⟩:=b2 y (by omega) (by omega)
    exact ⟨s,by omega,c3⟩
theorem Mkd.hn:1 <= n /\ n <= 16:=by have:=h.sz; have:=h.le; omega
theorem Mkd.dz:Dz n b w:=dz_of (pd_of h.hn h.lb h.pf.1) (pd_of h.hn h.lw h.pf.2) (isPm_of h.hn h.lb h.pf.1 h.ob) (isPm_of h.hn h.lw h.pf.2 h.ow) fun S h0 hB hW x hx=>by
 obtain ⟨e,_,_⟩:=h.nn
 by_cases q:x = 0
 ·subst q; exact h0
 ·by_cases q2:x < 1 + A.size
  ·exact h.a.all (N:=n.toNat) (by omega) (by omega) hW hB h0 x (by omega) q2
  ·exact h.bb.all (N:=n.toNat) (by omega) (by omega) hB hW h0 x (by omega) (by omega)
theorem Mkd.tre:Tre n b w:=⟨h.dz,by
 classical
 obtain ⟨e,_,e3⟩:=h.nn
 have D:=h.dz
 have k1:=D.B.cyc_kR
 have k2:=D.W.cyc_kR
 have key:∀ i,0 < i -> i < n.toNat -> ((if ∀ j,j < i -> ¬ Rch b j i then (1:Int) else 0) + if ∀ j,j < i -> ¬ Rch w j i then (1:Int) else 0) = 1:=fun i hi hi'=>by
  have:((∀ j,j < i -> ¬ Rch b j i) /\ ¬ ∀ j,j < i -> ¬ Rch w j i) ∨ ((∀ j,j < i -> ¬ Rch w j i) /\ ¬ ∀ j,j < i -> ¬ Rch b j i):=by
   by_cases q2:i < 1 + A.size
   ·exact (Stf.least h.pf.2 h.pf.1 h.a (by omega) (by omega) i (by omega) q2).elim .inr .inl
   ·exact Stf.least h.pf.1 h.pf.2 h.bb (by omega) (by omega) i (by omega) (by omega)
  rcases this with ⟨p1,p2⟩ | ⟨p1,p2⟩
  ·rw[if_pos p1,if_neg p2]; rfl
  ·rw[if_neg p2,if_pos p1]; rfl
 have sum:kR (Rch b) n.toNat + kR (Rch w) n.toNat = smE n.toNat fun i=>1 + if i = 0 then 1 else 0:=by
  unfold kR
  rw[<-smE_add]
  refine smE_congr _ fun i hi=>?_
  by_cases q:i = 0
  ·subst q
   rw[if_pos fun j hj=>absurd hj (Nat.not_lt_zero j),if_pos fun j hj=>absurd hj (Nat.not_lt_zero j),if_pos rfl]
  ·rw[key i (by omega) hi,if_neg q]; rfl
 rw[smE_add,smE_const,smE_one,if_pos (by omega)] at sum
 omega⟩
theorem Mkd.face:(cyc (faceP b w n) n).length = 1:=by
 have D:=h.dz
 obtain ⟨e,_,e3⟩:=h.nn
 obtain ⟨a1,a2⟩:=h.a.ct
 obtain ⟨b1,b2⟩:=h.bb.ct
 -- from the first edge,around
 have all:∀ i,i < n.toNat -> Ct b w (0,true) (i,false):=fun i hi=>by
  have k1:Ct b w (0,true) (0,false):=a1.swap
  by_cases q:i = 0
  ·subst q; exact k1
  ·by_cases q2:i < 1 + A.size
   ·exact (a2 i (by omega) q2 true).swap
   ·exact k1.trans (b2 i (by omega) (by omega) false)
 -- two steps at once
 have two:∀ {t:Nat × Bool},Ct b w (0,true) t -> (t.2 = false -> Rch (faceP b w n) t.1 (fp w 0) /\ t.1 < n.toNat) /\ (t.2 = true -> t = (0,true) ∨ ∃ x,t.1 = fp b x /\ x < n.toNat /\ Rch (faceP b w n) x (fp w 0)):=fun {t} r=>by
  induction r with
  | refl=>exact ⟨fun e=>(by cases e),fun _=>.inl rfl⟩
  | @p x _ ih =>
   have:=ih.1 rfl
   exact ⟨fun e=>(by cases e),fun _=>.inr ⟨x,rfl,this.2,this.1⟩⟩
  | @q x _ ih =>
   refine ⟨fun _=>?_,fun e=>(by cases e)⟩
   rcases ih.2 rfl with e | ⟨y,e,hy,r⟩
   ·have:x = 0:=by simpa using e
    subst this
    exact ⟨.refl,D.W.pf.lt 0 (by omega)⟩
   ·have e:x = fp b y:=e
    subst e
    refine ⟨Rch.trans ⟨1,?_⟩ r,D.W.pf.lt _ (D.B.pf.lt y hy)⟩
    simp only[it]
    exact D.face hy
 have k:=D.F.cyc_kR
 have one:kR (Rch (faceP b w n)) n.toNat = 1:=kR_all (by omega) fun i hi=>by
  have r1:=((two (all i hi)).1 rfl).1
  have r0:=((two (all 0 (by omega))).1 rfl).1
  exact r0.trans (Rch.symm D.F.pf hi r1)
 omega
theorem Mkd.wh:Wh n b w 0 A B (List.range' 1 A.size) (List.range' (1 + A.size) B.size):=by
 obtain ⟨e,_,_⟩:=h.nn
 have el:(0 :: (List.range' 1 A.size ++ List.range' (1 + A.size) B.size)) = List.range' 0 n.toNat:=by
  rw[e,List.range'_append_1]; rfl
 refine ⟨h.a.rd (by omega),h.bb.rd (by omega),fun t ht=>?_,?_,fun t ht=>?_⟩
 ·rw[el,List.mem_range'_1] at ht; omega
 ·rw[el]; exact List.nodup_range'
 ·rw[el,List.mem_range'_1]; omega
omit h in
theorem Mkd.det {b' w':List Int} (h:Mkd n b w A B) (h':Mkd n b' w' A B):b = b' /\ w = w':=by
 obtain ⟨e,_,_⟩:=h.nn
 have dA:=h.a.det h'.a
 have dB:=h.bb.det h'.bb
 constructor
 ·refine pm_ext (n:=n) h.lb h'.lb h.ob h'.ob fun x hx=>?_
  by_cases q:x = 0
  ·subst q; exact dB.1
  ·by_cases q2:x < 1 + A.size
   ·exact (dA.2 x (by omega) q2).2
   ·exact (dB.2 x (by omega) (by omega)).1
 ·refine pm_ext (n:=n) h.lw h'.lw h.ow h'.ow fun x hx=>?_
  by_cases q:x = 0
  ·subst q; exact dA.1
  ·by_cases q2:x < 1 + A.size
   ·exact (dA.2 x (by omega) q2).1
   ·exact (dB.2 x (by omega) (by omega)).2
end
end
section
set_option maxHeartbeats 1000000
theorem bl_irr:∀ s:List UInt8,Op.bytesLess s s = false
 | []=>rfl
 | a :: s=>by
  have:=bl_irr s
  simp[Op.bytesLess,this]
theorem bl_trans:∀ {a b c:List UInt8},Op.bytesLess a b = true -> Op.bytesLess b c = true -> Op.bytesLess a c = true
 | _,[],_,h,_=>by cases ‹List UInt8› <;> simp[Op.bytesLess] at h
 | _,_ :: _,[],_,h'=>by simp[Op.bytesLess] at h'
 | [],_ :: _,_ :: _,_,_=>rfl
 | x :: a,y :: b,z :: c,h,h'=>by
  simp only[Op.bytesLess,Bool.or_eq_true,Bool.and_eq_true,decide_eq_true_eq,beq_iff_eq] at h h' ⊢
  rcases h with h | ⟨rfl,h⟩
  ·rcases h' with h' | ⟨rfl,h'⟩
   ·exact .inl (UInt8.lt_trans h h')
   ·exact .inl h
  ·rcases h' with h' | ⟨rfl,h'⟩
   ·exact .inl h'
   ·exact .inr ⟨rfl,bl_trans h h'⟩
theorem bl_tot:∀ {a b:List UInt8},Op.bytesLess a b = false -> Op.bytesLess b a = false -> a = b
 | [],[],_,_=>rfl
 | [],_ :: _,h,_=>by simp[Op.bytesLess] at h
 | _ :: _,[],_,h=>by simp[Op.bytesLess] at h
 | x :: a,y :: b,h,h'=>by
  simp only[Op.bytesLess,Bool.or_eq_false_iff,Bool.and_eq_false_iff,decide_eq_false_iff_not,beq_eq_false_iff_ne] at h h'
  have e:x = y:=UInt8.le_antisymm (UInt8.not_lt.1 h'.1) (UInt8.not_lt.1 h.1)
  subst e
  rw[bl_tot (h.2.resolve_left fun q=>q rfl) (h'.2.resolve_left fun q=>q rfl)]
def lwS (s:List UInt8 × Int) (w:List UInt8):List UInt8 × Int:=if Op.bytesLess w s.1 = true then (w,1) else if w = s.1 then (s.1,s.2 + 1) else s
def lwT (f:Nat -> List UInt8):Nat -> List UInt8 × Int
 | 0=>(f 0,0)
 | i + 1=>lwS (lwT f i) (f i)
structure Lw (f:Nat -> List UInt8) (N:Nat) (s:List UInt8 × Int):Prop where
 le:∀ x,x < N -> Op.bytesLess (f x) s.1 = false
 mem:∃ x,x < N /\ f x = s.1
 cnt:s.2 = smE N fun x=>if f x = s.1 then 1 else 0
theorem lwT_ok {f:Nat -> List UInt8}:∀ i,Lw f (i + 1) (lwT f (i + 1))
 | 0=>by
  have e:lwT f 1 = (f 0,1):=by simp[lwT,lwS,bl_irr]
  rw[e]
  refine ⟨fun x hx=>?_,⟨0,by omega,rfl⟩,by simp[smE]⟩
  rw[show x = 0 by omega]; exact bl_irr _
 | i + 1=>by
  have ih:=lwT_ok (f:=f) i
  have e:lwT f (i + 1 + 1) = lwS (lwT f (i + 1)) (f (i + 1)):=rfl
  rw[e]
  generalize lwT f (i + 1) = s at *
  unfold lwS
  split
  ·rename_i h
   refine ⟨fun x hx=>?_,⟨i + 1,by omega,rfl⟩,?_⟩
   ·by_cases q:x = i + 1
    ·subst q; exact bl_irr _
    ·have:=ih.le x (by omega)
     cases h2:Op.bytesLess (f x) (f (i + 1)) with
     | false=>rfl
     | true=>rw[bl_trans h2 h] at this; cases this
   ·simp only
    rw[show smE (i + 1 + 1) (fun x=>if f x = f (i + 1) then (1:Int) else 0) = smE (i + 1) (fun x=>if f x = f (i + 1) then (1:Int) else 0) + if f (i + 1) = f (i + 1) then 1 else 0 from rfl,if_pos rfl,smE_congr (g:=fun _=>0) _ (fun x hx=>if_neg fun q=>by
     have:=ih.le x hx
     rw[q,h] at this; cases this),smE_zero]; rfl
  ·rename_i h
   have h:Op.bytesLess (f (i + 1)) s.1 = false:=by simpa using h
   obtain ⟨y,hy,ey⟩:=ih.mem
   split
   ·rename_i h2
    refine ⟨fun x hx=>?_,⟨y,by omega,ey⟩,?_⟩
    ·by_cases q:x = i + 1
     ·subst q; exact h
     ·exact ih.le x (by omega)
    ·simp only
     rw[show smE (i + 1 + 1) (fun x=>if f x = s.1 then (1:Int) else 0) = smE (i + 1) (fun x=>if f x = s.1 then (1:Int) else 0) + if f (i + 1) = s.1 then 1 else 0 from rfl,if_pos h2,<-ih.cnt]
   ·rename_i h2
    refine ⟨fun x hx=>?_,⟨y,by omega,ey⟩,?_⟩
    ·by_cases q:x = i + 1
     ·subst q; exact h
     ·exact ih.le x (by omega)
    ·rw[show smE (i + 1 + 1) (fun x=>if f x = s.1 then (1:Int) else 0) = smE (i + 1) (fun x=>if f x = s.1 then (1:Int) else 0) + if f (i + 1) = s.1 then 1 else 0 from rfl,if_neg h2,<-ih.cnt]; omega
theorem word_inj:∀ {A B:Frs} {s t:List UInt8},A.word ++ s = B.word ++ t -> (s = [] ∨ ∃ u,s = 41 :: u) -> (t = [] ∨ ∃ u,t = 41 :: u) -> A = B /\ s = t
 | .nil,.nil,s,t,e,_,_=>⟨rfl,e⟩
 | .nil,.cons A B,s,t,e,hs,_=>by
  simp only[Frs.word,List.nil_append,List.cons_append] at e
  rcases hs with rfl | ⟨u,rfl⟩
  ·cases e
  ·injection e with e1; exact absurd e1 (by decide)
 | .cons A B,.nil,s,t,e,_,ht=>by
  simp only[Frs.word,List.nil_append,List.cons_append] at e
  rcases ht with rfl | ⟨u,rfl⟩
  ·cases e
  ·injection e with e1; exact absurd e1 (by decide)
 | .cons A B,.cons A' B',s,t,e,hs,ht=>by
  simp only[Frs.word,List.cons_append,List.append_assoc] at e
  injection e with _ e1
  obtain ⟨q1,e2⟩:=word_inj e1 (.inr ⟨_,rfl⟩) (.inr ⟨_,rfl⟩)
  injection e2 with _ e3
  obtain ⟨q2,e4⟩:=word_inj e3 hs ht
  exact ⟨by rw[q1,q2],e4⟩
theorem word_inj' {A B:Frs} (h:A.word = B.word):A = B:=(word_inj (s:=[]) (t:=[]) (by simpa using h) (.inl rfl) (.inl rfl)).1
section
variable {b w b' w' p q p' q' σ:List Int} {n:Int} {x y N:Nat} {A B F:Frs} {LA LB L:List Nat}
theorem nodup_ix {L:List Nat} (h:L.Nodup) {i j:Nat} (hi:i < L.length) (hj:j < L.length) (e:L[i] = L[j]):i = j:=by
 have hp:=List.pairwise_iff_getElem.1 h
 rcases Nat.lt_trichotomy i j with q | q | q
 ·exact absurd e (hp i j hi hj q)
 ·exact q
 ·exact absurd e.symm (hp j i hj hi q)
theorem Wh.uniq {A' B':Frs} {LA' LB':List Nat} (h:Wh n b w x A B LA LB) (h':Wh n b w x A' B' LA' LB'):A = A' /\ B = B':=⟨(h.a.uniq h'.a).1,(h.bb.uniq h'.bb).1⟩
open Classical in
noncomputable def wd (b w:List Int) (n:Int) (x:Nat):List UInt8:=if h:∃ W:Frs,∃ A B LA LB,Wh n b w x A B LA LB /\ W = .cons A B then (Classical.choose h).word else []
theorem Wh.wd (h:Wh n b w x A B LA LB):Sep.wd b w n x = (Frs.cons A B).word:=by
 classical
 have e:∃ W:Frs,∃ A B LA LB,Wh n b w x A B LA LB /\ W = .cons A B:=⟨_,A,B,LA,LB,h,rfl⟩
 unfold Sep.wd
 rw[dif_pos e]
 obtain ⟨A',B',LA',LB',h',eq⟩:=Classical.choose_spec e
 obtain ⟨rfl,rfl⟩:=h.uniq h'
 rw[eq]
theorem Wh.len (h:Wh n b w x A B LA LB) (hn:0 <= n):((A.size + B.size + 1:Nat):Int) = n:=by
 have l1:=h.a.len
 have l2:=h.bb.len
 have a1:=nodup_len n.toNat _ h.nd h.lt
 have a2:=full_len (n:=n) (L:=(x :: (LA ++ LB)).map fun t:Nat=>(t:Int)) hn fun t ht=>List.mem_map.2 ⟨t,h.all t ht,rfl⟩
 simp only[List.length_map,List.length_cons,List.length_append] at a1 a2
 omega
theorem Rd.map (hp:Pf p N) (hq:Pf q N) {s:Nat -> Nat} (hs:∀ x y,x < N -> y < N -> s x = s y -> x = y) (h:Rd p q x y F L) :
  ∀ {p' q':List Int},(∀ t,t < N -> fp p' (s t) = s (fp p t)) -> (∀ t,t < N -> fp q' (s t) = s (fp q t)) -> x < N -> y < N -> Rd p' q' (s x) (s y) F (L.map s):=by
 induction h with
 | stop=>exact fun _ _ _ _=>.stop
 | @go p q x y A B LA LB hne hA hB iA iB =>
  intro p' q' ep eq hx hy
  have rA:=iA hq hp eq ep hy (hq.lt y hy)
  have rB:=iB hp hq ep eq hx (hp.lt y hy)
  rw[<-eq y hy] at rA
  rw[<-ep y hy] at rB
  have:=Rd.go (fun e=>hne (hs _ _ hy hx e)) rA rB
  simpa [List.map_append] using this
theorem Tre.wd_iso (h:Tre n b w) (h':Tre n b' w') (i:Iso n b w b' w' σ) (hx:x < n.toNat):wd b' w' n (fp σ x) = wd b w n x:=by
 obtain ⟨A,B,LA,LB,hW⟩:=h.whole hx
 have hb:=h.Z.B.pf
 have hw:=h.Z.W.pf
 obtain ⟨A',B',LA',LB',hW'⟩:=h'.whole (i.pf.lt x hx)
 have rA:=hW.a.map hw hb (s:=fp σ) i.pf.inj i.ew i.eb hx (hw.lt x hx)
 have rB:=hW.bb.map hb hw (s:=fp σ) i.pf.inj i.eb i.ew hx (hb.lt x hx)
 rw[<-i.ew x hx] at rA
 rw[<-i.eb x hx] at rB
 obtain ⟨rfl,_⟩:=hW'.a.uniq rA
 obtain ⟨rfl,_⟩:=hW'.bb.uniq rB
 rw[hW.wd,hW'.wd]
theorem Wh.iso (h:Wh n b w x A B LA LB) (hn:0 <= n) (k:Mkd n b' w' A B):∃ σ,Iso n b' w' b w σ /\ fp σ 0 = x:=by
 have hlen:=h.len hn
 have l1:=h.a.len
 have l2:=h.bb.len
 let s:Nat -> Nat:=fun i=>(x :: (LA ++ LB)).getD i 0
 have hL:(x :: (LA ++ LB)).length = n.toNat:=by simp only[List.length_cons,List.length_append]; omega
 have s0:s 0 = x:=rfl
 have fσ:∀ i,i < n.toNat -> fp ((x :: (LA ++ LB)).map fun t:Nat=>(t:Int)) i = s i:=fun i hi=>by
  unfold fp
  rw[gi_of (by simp only[List.length_map]; omega)]
  simp only[List.getElem_map,Int.toNat_natCast]
  simp only[s,List.getD,List.getElem?_eq_getElem (show i < (x :: (LA ++ LB)).length by omega),Option.getD_some]
 have eA:=Stf.iso (σ:=s) h.a k.a (fun i hi=>by
  show (x :: (LA ++ LB)).getD (1 + i) 0 = _
  rw[Nat.add_comm]
  simp only[List.getD_cons_succ]
  rw[getN_l (by omega)]) rfl s0
 have eB:=Stf.iso (σ:=s) h.bb k.bb (fun i hi=>by
  show (x :: (LA ++ LB)).getD (1 + A.size + i) 0 = _
  rw[show 1 + A.size + i = (LA.length + i) + 1 by omega]
  simp only[List.getD_cons_succ]
  rw[getN_r]) rfl s0
 have st:∀ i,i < n.toNat -> fp b (s i) = s (fp b' i) /\ fp w (s i) = s (fp w' i):=fun i hi=>by
  by_cases q:i = 0
  ·subst q; exact ⟨eB.1,eA.1⟩
  ·by_cases q2:i < 1 + A.size
   ·have:=eA.2 i (by omega) q2; exact ⟨this.2,this.1⟩
   ·exact eB.2 i (by omega) (by omega)
 refine ⟨(x :: (LA ++ LB)).map fun t:Nat=>(t:Int),⟨⟨fun i hi=>?_,fun i j hi hj e=>?_,k.nn.2.1⟩,fun i hi=>?_,fun i hi=>?_⟩,?_⟩
 ·rw[fσ i hi]
  refine h.lt _ ?_
  simp only[s,List.getD,List.getElem?_eq_getElem (show i < (x :: (LA ++ LB)).length by omega),Option.getD_some]
  exact List.getElem_mem _
 ·rw[fσ i hi,fσ j hj] at e
  simp only[s,List.getD,List.getElem?_eq_getElem (show i < (x :: (LA ++ LB)).length by omega),List.getElem?_eq_getElem (show j < (x :: (LA ++ LB)).length by omega),Option.getD_some] at e
  exact nodup_ix h.nd _ _ e
 ·rw[fσ i hi,fσ _ (k.pf.1.lt i hi)]; exact (st i hi).1
 ·rw[fσ i hi,fσ _ (k.pf.2.lt i hi)]; exact (st i hi).2
 ·rw[fσ 0 (by have:=k.nn; omega)]; exact s0
theorem Mkd.wd0 (k:Mkd n b w A B):wd b w n 0 = (Frs.cons A B).word:=k.wh.wd
theorem Tre.wd_nb (h:Tre n b w) (mk:∀ A B:Frs,A.size + B.size + 1 <= 16 -> ∃ b w,Mkd ((A.size + B.size + 1:Nat):Int) b w A B) (hx:x < n.toNat) (hy:y < n.toNat) :
  (wd b w n x = wd b w n y ↔ wd b w n (fp b x) = wd b w n (fp b y)) /\ (wd b w n x = wd b w n y ↔ wd b w n (fp w x) = wd b w n (fp w y)):=by
 have hn:=h.Z.B.hn
 have hb:=h.Z.B.pf
 have hw:=h.Z.W.pf
 -- from any two edges with the same word,any way of the tree of that word
 have key:∀ {x y:Nat},x < n.toNat -> y < n.toNat -> wd b w n x = wd b w n y -> ∃ b' w' σ τ,Tre n b' w' /\ Iso n b' w' b w σ /\ Iso n b' w' b w τ /\ fp σ 0 = x /\ fp τ 0 = y:=fun {x y} hx hy e=>by
  obtain ⟨A,B,LA,LB,hW⟩:=h.whole hx
  obtain ⟨A',B',LA',LB',hW'⟩:=h.whole hy
  rw[hW.wd,hW'.wd] at e
  have e:=word_inj' e
  injection e with e1 e2
  subst e1 e2
  have l:=hW.len (by omega)
  obtain ⟨b',w',k⟩:=mk A B (by omega)
  rw[l] at k
  obtain ⟨σ,i,s0⟩:=hW.iso (by omega) k
  obtain ⟨τ,j,t0⟩:=hW'.iso (by omega) k
  exact ⟨b',w',σ,τ,k.tre,i,j,s0,t0⟩
 have z0:0 < n.toNat:=by omega
 constructor
 ·constructor
  ·intro e
   obtain ⟨b',w',σ,τ,T,i,j,rfl,rfl⟩:=key hx hy e
   rw[i.eb 0 z0,j.eb 0 z0,T.wd_iso h i (T.Z.B.pf.lt 0 z0),T.wd_iso h j (T.Z.B.pf.lt 0 z0)]
  ·intro e
   obtain ⟨b',w',σ,τ,T,i,j,s0,t0⟩:=key (hb.lt x hx) (hb.lt y hy) e
   obtain ⟨u,hu,eu⟩:=T.Z.B.pf.onto z0
   have e1:fp σ u = x:=hb.inj _ _ (i.pf.lt u hu) hx (by rw[i.eb u hu,eu,s0])
   have e2:fp τ u = y:=hb.inj _ _ (j.pf.lt u hu) hy (by rw[j.eb u hu,eu,t0])
   rw[<-e1,<-e2,T.wd_iso h i hu,T.wd_iso h j hu]
 ·constructor
  ·intro e
   obtain ⟨b',w',σ,τ,T,i,j,rfl,rfl⟩:=key hx hy e
   rw[i.ew 0 z0,j.ew 0 z0,T.wd_iso h i (T.Z.W.pf.lt 0 z0),T.wd_iso h j (T.Z.W.pf.lt 0 z0)]
  ·intro e
   obtain ⟨b',w',σ,τ,T,i,j,s0,t0⟩:=key (hw.lt x hx) (hw.lt y hy) e
   obtain ⟨u,hu,eu⟩:=T.Z.W.pf.onto z0
   have e1:fp σ u = x:=hw.inj _ _ (i.pf.lt u hu) hx (by rw[i.ew u hu,eu,s0])
   have e2:fp τ u = y:=hw.inj _ _ (j.pf.lt u hu) hy (by rw[j.ew u hu,eu,t0])
   rw[<-e1,<-e2,T.wd_iso h i hu,T.wd_iso h j hu]
noncomputable def cw (b w:List Int) (n:Int) (x:Nat):Int:=smE n.toNat fun z=>if wd b w n z = wd b w n x then 1 else 0
theorem Tre.cw_all (h:Tre n b w) (mk:∀ A B:Frs,A.size + B.size + 1 <= 16 -> ∃ b w,Mkd ((A.size + B.size + 1:Nat):Int) b w A B):∀ x,x < n.toNat -> cw b w n x = cw b w n 0:=by
 have hb:=h.Z.B.pf
 have hw:=h.Z.W.pf
 refine h.Z.alls (S:=fun x=>cw b w n x = cw b w n 0) rfl (fun x hx e=>?_) fun x hx e=>?_
 ·rw[<-e]
  unfold cw
  rw[<-smE_perm hb (g:=fun z=>if wd b w n z = wd b w n (fp b x) then (1:Int) else 0)]
  refine smE_congr _ fun z hz=>?_
  have:=(h.wd_nb mk hz hx).1
  by_cases q:wd b w n z = wd b w n x
  ·rw[if_pos q,if_pos (this.1 q)]
  ·rw[if_neg q,if_neg fun q'=>q (this.2 q')]
 ·rw[<-e]
  unfold cw
  rw[<-smE_perm hw (g:=fun z=>if wd b w n z = wd b w n (fp w x) then (1:Int) else 0)]
  refine smE_congr _ fun z hz=>?_
  have:=(h.wd_nb mk hz hx).2
  by_cases q:wd b w n z = wd b w n x
  ·rw[if_pos q,if_pos (this.1 q)]
  ·rw[if_neg q,if_neg fun q'=>q (this.2 q')]
theorem lead1 {T:Nat -> Nat -> Prop} {q:Nat} (ET:Eqv T q) {i:Nat} (hi:i < q) [∀ j,Decidable ((∀ a,a < j -> ¬ T a j) /\ T j i)]:smE q (fun j=>if (∀ a,a < j -> ¬ T a j) /\ T j i then (1:Int) else 0) = 1:=by
 obtain ⟨c,c1,c2,c3⟩:=leastN (P:=fun j=>T j i) i (ET.rf i hi)
 have hc:c < q:=by omega
 rw[smE_congr (g:=fun j=>if j = c then 1 else 0) _ fun j hj=>?_,smE_one,if_pos hc]
 by_cases e:j = c
 ·subst e
  rw[if_pos rfl,if_pos ⟨fun a ha r=>c3 a ha (ET.tr _ _ _ (by omega) hc hi r c2),c2⟩]
 ·rw[if_neg e,if_neg]
  rintro ⟨hl,r⟩
  rcases Nat.lt_or_gt_of_ne e with q | q
  ·exact c3 j q r
  ·exact hl c q (ET.tr _ _ _ hc hi hj c2 (ET.sy _ _ hj hi r))
theorem Tre.sym (h:Tre n b w) (mk:∀ A B:Frs,A.size + B.size + 1 <= 16 -> ∃ b w,Mkd ((A.size + B.size + 1:Nat):Int) b w A B):∃ k,n = k * cw b w n 0:=by
 classical
 have hn:=h.Z.B.hn
 have E:Eqv (fun i j=>wd b w n i = wd b w n j) n.toNat:=⟨fun _ _=>rfl,fun _ _ _ _ e=>e.symm,fun _ _ _ _ _ _ e e'=>e.trans e'⟩
 refine ⟨smE n.toNat fun j=>if ∀ a,a < j -> ¬ wd b w n a = wd b w n j then 1 else 0,?_⟩
 have e1:smE n.toNat (fun _=>(1:Int)) = smE n.toNat fun i=>smE n.toNat fun j=>if (∀ a,a < j -> ¬ wd b w n a = wd b w n j) /\ wd b w n j = wd b w n i then (1:Int) else 0:=smE_congr _ fun i hi=>(lead1 E hi).symm
 rw[smE_const,smE_swap] at e1
 have e2:smE n.toNat (fun j=>smE n.toNat fun i=>if (∀ a,a < j -> ¬ wd b w n a = wd b w n j) /\ wd b w n j = wd b w n i then (1:Int) else 0) = smE n.toNat fun j=>cw b w n 0 * if ∀ a,a < j -> ¬ wd b w n a = wd b w n j then (1:Int) else 0:=smE_congr _ fun j hj=>by
  by_cases q:∀ a,a < j -> ¬ wd b w n a = wd b w n j
  ·rw[if_pos q,Int.mul_one,<-h.cw_all mk j hj]
   unfold cw
   refine smE_congr _ fun i hi=>?_
   by_cases q2:wd b w n i = wd b w n j
   ·rw[if_pos ⟨q,q2.symm⟩,if_pos q2]
   ·rw[if_neg fun z=>q2 z.2.symm,if_neg q2]
  ·rw[if_neg q,smE_congr (g:=fun _=>0) _ fun i hi=>if_neg fun z=>q z.1,smE_zero]; omega
 rw[e2,smE_mul] at e1
 rw[Int.mul_comm]
 omega
end
end
section
set_option maxHeartbeats 4000000
theorem lo16_set {p:List Int} (h:lo16 p) {i:Nat} {y:Int} (hy:0 <= y /\ y < 16):lo16 (p.set i y):=⟨by simp[h.1],fun j hj=>by
 rw[gi_set]; split
 ·exact hy
 ·exact h.2 j hj⟩
theorem lo16_okP {p:List Int} (h:lo16 p):okP p:=⟨h.1,fun i hi=>by have:=h.2 i hi; omega⟩
theorem lo16_zero:lo16 (List.replicate 16 0):=⟨by simp,fun i hi=>by rw[gi_rep]; split <;> omega⟩
theorem c_spec_l01DrawPlaces {x:Value} {l:List Int} {a z n:Int} (hn:1 <= n /\ n <= 16) (hs:okS l a):PSpecM Tryz.prog 115 [.ptr 0 0,.int .i64 n] [(0,96,1)] [srcC x l a z] fun v c =>
  ∃ p a' z',v = .agg (vi .u8 p) /\ c = [srcC x l a' z'] /\ okS l a' /\ lo16 p:=by
 refine spec_l01DrawPlaces_f.m rfl rfl ?_
 unfold srcC
 dsimp only[spec_l01DrawPlaces_F,pcal_B,pcalp_B,pcala_B,pcond_B,pgk_B,JN_B,LP_B]
 (refine bni ?_;repeat (refine bnk ?_;(try simp (disch:=first|omega|(simp only[LN];omega)) only[↓EC,EW,seval,↓reduceIte,↓ED,EE])))
 refine pcd_v (c_spec_l01Same hn) ?_
 have hl0:=sameP_lo hn
 have hlf:=putL_len sameF n.toNat
 (refine bni ?_;repeat (refine bnk ?_;(try simp (disch:=first|omega|(simp only[LN];omega)) only[↓EC,EW,seval,↓reduceIte,↓ED,EE])))
 (refine pcm [0] rfl ?_; (refine bni ?_;repeat (refine bnk ?_;(try simp (disch:=first|omega|(simp only[LN];omega)) only[↓EC,EW,seval,↓reduceIte,↓ED,EE]))); refine callM_d (c_spec_l01Next (by assumption) (by omega)) ?_; rintro _ _ ⟨r1,_,_,rfl,rfl,hs_,hr_⟩; (refine bni ?_;repeat (refine bnk ?_;(try simp (disch:=first|omega|(simp only[LN];omega)) only[↓EC,EW,seval,↓reduceIte,↓ED,EE,srcC]))))
 rename_i a1 z1
 (refine Split.mB (fun h=>?_) (fun h=>?_) <;> (try simp only[SD]at h))
 ·(refine bni ?_;repeat (refine bnk ?_;(try simp (disch:=first|omega|(simp only[LN];omega)) only[↓EC,EW,seval,↓reduceIte,↓ED,EE])))
  exact ⟨_,_,_,rfl,rfl,by assumption,hl0⟩
 ·(refine bni ?_;repeat (refine bnk ?_;(try simp (disch:=first|omega|(simp only[LN];omega)) only[↓EC,EW,seval,↓reduceIte,↓ED,EE])))
  refine LPx_of (σ:=List Int × Int × Int × Int) 100000 [(0,96,1),(68,26,1),(69,26,1)] (fun s=>[.int .i64 s.2.1]) (fun s=>[srcC x l s.2.2.1 s.2.2.2,vi .u8 (List.replicate 16 0),vi .u8 s.1])
   (fun s=>okS l s.2.2.1 /\ lo16 s.1 /\ s.2.1 < 16) (fun s=>s.2.1.toNat) (putL sameF n.toNat,n - 1,a1,z1) (by simp[frameOk,names,lpz,sclp,scv,scvs,nrfs,nrf,FRB]) ⟨by assumption,hl0,by simp only; omega⟩ ?_ ?_
  ·(refine bni ?_;repeat (refine bnk ?_;simp (disch:=first|omega|(simp only[LN];omega)) only[↓EC,EW,seval,↓reduceIte,↓ED,EE,CVd,srcC]))
  ·rintro ⟨p,i,a,z⟩ ⟨h1,h2,h3⟩
   simp only at h1 h2 h3
   have hpl:=h2.1
   (refine bni ?_;repeat (refine bnk ?_;simp (disch:=first|omega|(simp only[LN];omega)) only[↓EC,EW,seval,↓reduceIte,↓ED,EE,CVd,lhd,srcC]))
   (refine Split.mB (fun h=>?_) (fun h=>?_) <;> (try simp only[SD]at h))
   ·(refine bni ?_;repeat (refine bnk ?_;(try simp (disch:=first|omega|(simp only[LN];omega)) only[↓EC,EW,seval,↓reduceIte,↓ED,EE])))
    (refine pcm [0] rfl ?_; (refine bni ?_;repeat (refine bnk ?_;(try simp (disch:=first|omega|(simp only[LN];omega)) only[↓EC,EW,seval,↓reduceIte,↓ED,EE]))); refine callM_d (c_spec_l01Next (by assumption) (by omega)) ?_; rintro _ _ ⟨r2,_,_,rfl,rfl,hs_,hr_⟩; (refine bni ?_;repeat (refine bnk ?_;(try simp (disch:=first|omega|(simp only[LN];omega)) only[↓EC,EW,seval,↓reduceIte,↓ED,EE,srcC]))))
    rename_i a2 z2
    have b1:=h2.2 i.toNat (by omega)
    have b2:=h2.2 r2.toNat (by omega)
    (refine bni ?_;repeat (refine bnk ?_;(try simp (disch:=first|omega|(simp only[LN];omega)) only[↓EC,EW,seval,↓reduceIte,↓ED,EE])))
    exact ⟨(_,i - 1,a2,z2),rfl,rfl,⟨by assumption,lo16_set (lo16_set h2 b2) b1,by simp only; omega⟩,by simp only; omega⟩
   ·(refine bni ?_;repeat (refine bnk ?_;(try simp (disch:=first|omega|(simp only[LN];omega)) only[↓EC,EW,seval,↓reduceIte,↓ED,EE])))
    exact ⟨p,a,z,rfl,rfl,h1,h2⟩
theorem c_spec_l01Pairs {x:Value} {l:List Int} {a z n m:Int} (hn:1 <= n /\ n <= 16) (hm:m <= 1000) (hs:okS l a):PSpecM Tryz.prog 119 [.ptr 0 0,.int .i64 n,.int .i64 m] [(0,96,1)] [srcC x l a z] fun v c =>
  ∃ p a' z',v = .agg (vi .u8 p) /\ c = [srcC x l a' z'] /\ okS l a' /\ lo16 p:=by
 refine spec_l01Pairs_f.m rfl rfl ?_
 unfold srcC
 dsimp only[spec_l01Pairs_F,pcal_B,pcalp_B,pcala_B,pcond_B,pgk_B,JN_B,LP_B]
 (refine bni ?_;repeat (refine bnk ?_;(try simp (disch:=first|omega|(simp only[LN];omega)) only[↓EC,EW,seval,↓reduceIte,↓ED,EE])))
 (refine pcm [0] rfl ?_; (refine bni ?_;repeat (refine bnk ?_;(try simp (disch:=first|omega|(simp only[LN];omega)) only[↓EC,EW,seval,↓reduceIte,↓ED,EE]))); refine callM_d (c_spec_l01DrawPlaces hn (by assumption)) ?_; rintro _ _ ⟨o,a1,z1,rfl,rfl,hs_,ho⟩; (refine bni ?_;repeat (refine bnk ?_;(try simp (disch:=first|omega|(simp only[LN];omega)) only[↓EC,EW,seval,↓reduceIte,↓ED,EE,srcC]))))
 refine pcd_v (c_spec_l01Same hn) ?_
 have hl0:=sameP_lo hn
 have hlf:=putL_len sameF n.toNat
 have hol:=ho.1
 (refine bni ?_;repeat (refine bnk ?_;(try simp (disch:=first|omega|(simp only[LN];omega)) only[↓EC,EW,seval,↓reduceIte,↓ED,EE])))
 refine LPx_of (σ:=List Int × Int × Int × Int) 100000 [(0,96,1),(70,26,1),(71,26,1),(72,26,1)] (fun s=>[.int .i64 s.2.1]) (fun s=>[srcC x l s.2.2.1 s.2.2.2,vi .u8 (List.replicate 16 0),vi .u8 o,vi .u8 s.1])
  (fun s=>okS l s.2.2.1 /\ lo16 s.1 /\ 0 <= s.2.1 /\ s.2.1 <= n) (fun s=>(n - s.2.1).toNat) (putL sameF n.toNat,0,a1,z1) (by simp[frameOk,names,lpz,sclp,scv,scvs,nrfs,nrf,FRB]) ⟨by assumption,hl0,by simp only; omega⟩ ?_ ?_
 ·(refine bni ?_;repeat (refine bnk ?_;simp (disch:=first|omega|(simp only[LN];omega)) only[↓EC,EW,seval,↓reduceIte,↓ED,EE,CVd,srcC]))
 ·rintro ⟨p,t,a,z⟩ ⟨h1,h2,h3,h4⟩
  simp only at h1 h2 h3 h4
  have hpl:=h2.1
  (refine bni ?_;repeat (refine bnk ?_;simp (disch:=first|omega|(simp only[LN];omega)) only[↓EC,EW,seval,↓reduceIte,↓ED,EE,CVd,lhd,srcC]))
  (refine Split.mB (fun h=>?_) (fun h=>?_) <;> (try simp only[SD]at h))
  ·(refine bni ?_;repeat (refine bnk ?_;(try simp (disch:=first|omega|(simp only[LN];omega)) only[↓EC,EW,seval,↓reduceIte,↓ED,EE])))
   (refine pcm [0] rfl ?_; (refine bni ?_;repeat (refine bnk ?_;(try simp (disch:=first|omega|(simp only[LN];omega)) only[↓EC,EW,seval,↓reduceIte,↓ED,EE]))); refine callM_d (c_spec_l01Next (by assumption) (by omega)) ?_; rintro _ _ ⟨r2,_,_,rfl,rfl,hs_,hr_⟩; (refine bni ?_;repeat (refine bnk ?_;(try simp (disch:=first|omega|(simp only[LN];omega)) only[↓EC,EW,seval,↓reduceIte,↓ED,EE,srcC]))))
   rename_i a2 z2
   (refine bni ?_;repeat (refine bnk ?_;(try simp (disch:=first|omega|(simp only[LN];omega)) only[↓EC,EW,seval,↓reduceIte,↓ED,EE])))
   generalize hmn:(if n - t < 1 + r2 then n - t else 1 + r2) = k at *
   have hk:1 <= k /\ k <= n - t:=by rw[<-hmn]; split <;> omega
   refine LPx_of (σ:=List Int × Int) 200000 [(0,96,1),(70,26,1),(71,26,1),(72,26,1)] (fun s=>[.int .i64 s.2]) (fun s=>[srcC x l a2 z2,vi .u8 (List.replicate 16 0),vi .u8 o,vi .u8 s.1])
    (fun s=>lo16 s.1 /\ 0 <= s.2 /\ s.2 <= k) (fun s=>(k - s.2).toNat) (p,0) (by simp[frameOk,names,lpz,sclp,scv,scvs,nrfs,nrf,FRB]) ⟨h2,by simp only; omega⟩ ?_ ?_
   ·(refine bni ?_;repeat (refine bnk ?_;simp (disch:=first|omega|(simp only[LN];omega)) only[↓EC,EW,seval,↓reduceIte,↓ED,EE,CVd,srcC]))
   ·rintro ⟨p,i⟩ ⟨h5,h6,h7⟩
    simp only at h5 h6 h7
    have hpl:=h5.1
    (refine bni ?_;repeat (refine bnk ?_;simp (disch:=first|omega|(simp only[LN];omega)) only[↓EC,EW,seval,↓reduceIte,↓ED,EE,CVd,lhd,srcC]))
    (refine Split.mB (fun h=>?_) (fun h=>?_) <;> (try simp only[SD]at h))
    ·have hr:0 <= (i + 1).tmod k /\ (i + 1).tmod k < k:=⟨Int.tmod_nonneg _ (by omega),Int.tmod_lt_of_pos _ (by omega)⟩
     generalize hq:(i + 1).tmod k = q at *
     have b1:=ho.2 (t + i).toNat (by omega)
     have b2:=ho.2 (t + q).toNat (by omega)
     (refine bni ?_;repeat (refine bnk ?_;(try simp (disch:=first|omega|(simp only[LN];omega)) only[↓EC,EW,seval,↓reduceIte,↓ED,EE,hq])))
     exact ⟨(_,i + 1),rfl,rfl,⟨lo16_set h5 b2,by simp only; omega⟩,by simp only; omega⟩
    ·(refine bni ?_;repeat (refine bnk ?_;(try simp (disch:=first|omega|(simp only[LN];omega)) only[↓EC,EW,seval,↓reduceIte,↓ED,EE])))
     exact ⟨(p,t + k,a2,z2),rfl,rfl,⟨by assumption,h5,by simp only; omega⟩,by simp only; omega⟩
  ·(refine bni ?_;repeat (refine bnk ?_;(try simp (disch:=first|omega|(simp only[LN];omega)) only[↓EC,EW,seval,↓reduceIte,↓ED,EE])))
   exact ⟨p,a,z,rfl,rfl,h1,h2⟩
theorem c_spec_l01Turn {n:Int} (hn:1 <= n /\ n <= 16):PSpec Tryz.prog 116 [.int .i64 n] fun v=>∃ p,v = .agg (vi .u8 p) /\ lo16 p:=by
 refine spec_l01Turn_f.f ?_
 simp (disch:=first|omega|(simp only[LN];omega)) only[↓EC,EW,seval,↓reduceIte,spec_l01Turn_F]
 refine LP_of (σ:=List Int × Nat) 100000 [(66,26,1),(67,26,1)] (fun s=>[.int .i64 s.2]) (fun s=>[vi .u8 (List.replicate 16 0),vi .u8 s.1])
  (fun s=>lo16 s.1 /\ (s.2:Int) <= n) (fun s=>(n - s.2).toNat) (List.replicate 16 0,0) (by simp[frameOk,names,lpz,sclp,scv,scvs,nrfs,nrf,FRB]) ⟨lo16_zero,by simp only[Int.natCast_zero]; omega⟩ ?_ ?_
 ·simp (disch:=first|omega|(simp only[LN];omega)) only[↓EC,EW,seval,↓reduceIte,CVd]
  trace_state
 ·rintro ⟨p,i⟩ ⟨h1,h2⟩
  simp only at h1 h2
  have hpl:=h1.1
  simp (disch:=first|omega|(simp only[LN];omega)) only[↓EC,EW,seval,↓reduceIte,CVd,lhd]
  (refine Split.mk (fun h=>?_) (fun h=>?_) <;> (try simp only[SD]at h))
  ·have hr:0 <= ((i:Int) + 1).tmod n /\ ((i:Int) + 1).tmod n < n:=⟨Int.tmod_nonneg _ (by omega),Int.tmod_lt_of_pos _ (by omega)⟩
   generalize hq:((i:Int) + 1).tmod n = q at *
   (try simp (disch:=first|omega|(simp only[LN];omega)) only[↓EC,EW,seval,↓reduceIte,hq])
   exact ⟨(_,i + 1),rfl,rfl,⟨lo16_set h1 (by omega),by simp only; omega⟩,by simp only; omega⟩
  ·(try simp (disch:=first|omega|(simp only[LN];omega)) only[↓EC,EW,seval,↓reduceIte])
   exact ⟨p,rfl,h1⟩
theorem c_spec_l01Star {n:Int} (hn:1 <= n /\ n <= 16):PSpec Tryz.prog 97 [.int .i64 n] fun v=>∃ p q,v = vD n p q /\ lo16 p /\ lo16 q:=by
 refine spec_l01Star_f.f ?_
 simp (disch:=first|omega|(simp only[LN];omega)) only[↓EC,EW,seval,↓reduceIte,spec_l01Star_F]
 refine pcd_r (c_spec_l01Turn hn) ?_
 rintro v ⟨p,rfl,hp⟩
 have hpl:=hp.1
 (try simp (disch:=first|omega|(simp only[LN];omega)) only[↓EC,EW,seval,↓reduceIte])
 (refine pcd_v (c_spec_l01Same hn) ?_; (try simp (disch:=first|omega|(simp only[LN];omega)) only[↓EC,EW,seval,↓reduceIte]))
 have hq:=sameP_lo hn
 have hlf:=putL_len sameF n.toNat
 (try simp (disch:=first|omega|(simp only[LN];omega)) only[↓EC,EW,seval,↓reduceIte])
 exact ⟨p,putL sameF n.toNat,rfl,hp,hq⟩
def okL (L:List Int):Prop:=L.length = 32 /\ ∀ i,i < 32 -> 0 <= gi L i /\ gi L i <= 255
theorem okL_of {p q:List Int} (hp:okP p) (hq:okP q):okL (p ++ q):=⟨by simp[hp.1,hq.1],fun i hi=>by
 have:=hp.1
 rw[gi_app]; split
 ·exact hp.2 i (by omega)
 ·exact hq.2 _ (by omega)⟩
theorem okL_set {L:List Int} (h:okL L) {i:Nat} {y:Int} (hy:0 <= y /\ y <= 255):okL (L.set i y):=⟨by simp[h.1],fun j hj=>by
 rw[gi_set]; split
 ·exact hy
 ·exact h.2 j hj⟩
theorem okL_vD {n:Int} {L:List Int} (h:okL L):∃ b w,V.agg (.int .i64 n :: vi .u8 L) = vD n b w /\ okP b /\ okP w:=by
 have h1:=h.1
 refine ⟨L.take 16,L.drop 16,by unfold vD; rw[List.take_append_drop],⟨by simp[h1],fun i hi=>?_⟩,⟨by simp[h1],fun i hi=>?_⟩⟩
 ·have e:gi (L.take 16) i = gi L i:=by simp only[gi,List.getD,List.getElem?_take,if_pos hi]
  rw[e]; exact h.2 i (by omega)
 ·have e:gi (L.drop 16) i = gi L (16 + i):=by simp only[gi,List.getD,List.getElem?_drop]
  rw[e]; exact h.2 _ (by omega)
theorem okL_tk {L:List Int} (h:okL L):okP (L.take 16):=⟨by simp[h.1],fun i hi=>by
 have e:gi (L.take 16) i = gi L i:=by simp only[gi,List.getD,List.getElem?_take,if_pos hi]
 rw[e]; exact h.2 i (by omega)⟩
theorem c_spec_l01Draw {x:Value} {l:List Int} {a z m:Int} (hm:1 <= m /\ m <= 16) (hs:okS l a):PSpecM Tryz.prog 102 [.ptr 0 0,.int .i64 m] [(0,96,1)] [srcC x l a z] fun v c =>
  ∃ n p q a' z',v = vD n p q /\ c = [srcC x l a' z'] /\ okS l a' /\ lo16 p /\ lo16 q /\ 1 <= n /\ n <= m:=by
 refine spec_l01Draw_f.m rfl rfl ?_
 unfold srcC
 dsimp only[spec_l01Draw_F,pcal_B,pcalp_B,pcala_B,pcond_B,pgk_B,JN_B,LP_B]
 (refine bni ?_;repeat (refine bnk ?_;(try simp (disch:=first|omega|(simp only[LN];omega)) only[↓EC,EW,seval,↓reduceIte,↓ED,EE])))
 (refine pcm [0] rfl ?_; (refine bni ?_;repeat (refine bnk ?_;(try simp (disch:=first|omega|(simp only[LN];omega)) only[↓EC,EW,seval,↓reduceIte,↓ED,EE]))); refine callM_d (c_spec_l01Next (by assumption) (by omega)) ?_; rintro _ _ ⟨r1,_,_,rfl,rfl,hs_,hr_⟩; (refine bni ?_;repeat (refine bnk ?_;(try simp (disch:=first|omega|(simp only[LN];omega)) only[↓EC,EW,seval,↓reduceIte,↓ED,EE,srcC]))))
 rename_i a1 z1
 have hn:1 <= 1 + r1 /\ 1 + r1 <= 16:=by omega
 have hnm:1 + r1 <= m:=by omega
 generalize 1 + r1 = n at *
 refine LPx_of (σ:=Int × Int × Int) 100000 [(0,96,1),(68,28,1)] (fun s=>[.int .i64 s.1]) (fun s=>[srcC x l s.2.1 s.2.2,.int .i64 0 :: vi .u8 (List.replicate 32 0)])
  (fun s=>okS l s.2.1 /\ 0 <= s.1 /\ s.1 <= 8) (fun s=>(8 - s.1).toNat) (0,a1,z1) (by simp[frameOk,names,lpz,sclp,scv,scvs,nrfs,nrf,FRB]) ⟨by assumption,by simp only; omega⟩ ?_ ?_
 ·(refine bni ?_;repeat (refine bnk ?_;simp (disch:=first|omega|(simp only[LN];omega)) only[↓EC,EW,seval,↓reduceIte,↓ED,EE,CVd,srcC]))
 ·rintro ⟨k,a,z⟩ ⟨h1,h2,h3⟩
  simp only at h1 h2 h3
  (refine bni ?_;repeat (refine bnk ?_;simp (disch:=first|omega|(simp only[LN];omega)) only[↓EC,EW,seval,↓reduceIte,↓ED,EE,CVd,lhd,srcC]))
  (refine Split.mB (fun h=>?_) (fun h=>?_) <;> (try simp only[SD]at h))
  ·(refine bni ?_;repeat (refine bnk ?_;(try simp (disch:=first|omega|(simp only[LN];omega)) only[↓EC,EW,seval,↓reduceIte,↓ED,EE])))
   (refine pcm [0] rfl ?_; (refine bni ?_;repeat (refine bnk ?_;(try simp (disch:=first|omega|(simp only[LN];omega)) only[↓EC,EW,seval,↓reduceIte,↓ED,EE]))); refine callM_d (c_spec_l01Pick (m:=[2,3,4,n]) (by assumption) (by simp) (by simp)) ?_; rintro _ _ ⟨y1,_,_,hy_,rfl,rfl,hs_⟩; simp only[List.mem_cons,List.not_mem_nil,or_false] at hy_; (refine bni ?_;repeat (refine bnk ?_;(try simp (disch:=first|omega|(simp only[LN];omega)) only[↓EC,EW,seval,↓reduceIte,↓ED,EE,srcC]))))
   (refine pcm [0] rfl ?_; (refine bni ?_;repeat (refine bnk ?_;(try simp (disch:=first|omega|(simp only[LN];omega)) only[↓EC,EW,seval,↓reduceIte,↓ED,EE]))); refine callM_d (c_spec_l01Pairs (n:=n) (m:=y1) (by omega) (by omega) (by assumption)) ?_; rintro _ _ ⟨p,a2,z2,rfl,rfl,hs_,hp⟩; (refine bni ?_;repeat (refine bnk ?_;(try simp (disch:=first|omega|(simp only[LN];omega)) only[↓EC,EW,seval,↓reduceIte,↓ED,EE,srcC]))))
   (refine pcm [0] rfl ?_; (refine bni ?_;repeat (refine bnk ?_;(try simp (disch:=first|omega|(simp only[LN];omega)) only[↓EC,EW,seval,↓reduceIte,↓ED,EE]))); refine callM_d (c_spec_l01Pick (m:=[2,2,3,n]) (by assumption) (by simp) (by simp)) ?_; rintro _ _ ⟨y2,_,_,hy_,rfl,rfl,hs_⟩; simp only[List.mem_cons,List.not_mem_nil,or_false] at hy_; (refine bni ?_;repeat (refine bnk ?_;(try simp (disch:=first|omega|(simp only[LN];omega)) only[↓EC,EW,seval,↓reduceIte,↓ED,EE,srcC]))))
   (refine pcm [0] rfl ?_; (refine bni ?_;repeat (refine bnk ?_;(try simp (disch:=first|omega|(simp only[LN];omega)) only[↓EC,EW,seval,↓reduceIte,↓ED,EE]))); refine callM_d (c_spec_l01Pairs (n:=n) (m:=y2) (by omega) (by omega) (by assumption)) ?_; rintro _ _ ⟨q,a3,z3,rfl,rfl,hs_,hq⟩; (refine bni ?_;repeat (refine bnk ?_;(try simp (disch:=first|omega|(simp only[LN];omega)) only[↓EC,EW,seval,↓reduceIte,↓ED,EE,srcC]))))
   have hpl:=hp.1
   have hql:=hq.1
   (refine bni ?_;repeat (refine bnk ?_;(try simp (disch:=first|omega|(simp only[LN];omega)) only[↓EC,EW,seval,↓reduceIte,↓ED,EE])))
   refine pcd_v (c_spec_l01Is (n:=n) (b:=p) (w:=q) (lo16_okP hp) (lo16_okP hq)) ?_
   (refine bni ?_;repeat (refine bnk ?_;(try simp (disch:=first|omega|(simp only[LN];omega)) only[↓EC,EW,seval,↓reduceIte,↓ED,EE])))
   (refine Split.mB (fun h=>?_) (fun h=>?_) <;> (try simp only[SD]at h))
   ·(refine bni ?_;repeat (refine bnk ?_;(try simp (disch:=first|omega|(simp only[LN];omega)) only[↓EC,EW,seval,↓reduceIte,↓ED,EE])))
    exact ⟨n,p,q,_,_,rfl,rfl,by assumption,hp,hq,by omega,by omega⟩
   ·(refine bni ?_;repeat (refine bnk ?_;(try simp (disch:=first|omega|(simp only[LN];omega)) only[↓EC,EW,seval,↓reduceIte,↓ED,EE])))
    exact ⟨(k + 1,a3,z3),rfl,rfl,⟨by assumption,by simp only; omega⟩,by simp only; omega⟩
  ·(refine bni ?_;repeat (refine bnk ?_;(try simp (disch:=first|omega|(simp only[LN];omega)) only[↓EC,EW,seval,↓reduceIte,↓ED,EE])))
   refine pcd_r (c_spec_l01Star (n:=n) (by omega)) ?_
   rintro v ⟨p,q,rfl,hp,hq⟩
   have hpl:=hp.1
   have hql:=hq.1
   (refine bni ?_;repeat (refine bnk ?_;(try simp (disch:=first|omega|(simp only[LN];omega)) only[↓EC,EW,seval,↓reduceIte,↓ED,EE,vD])))
   (refine pcm [0] rfl ?_; (refine bni ?_;repeat (refine bnk ?_;(try simp (disch:=first|omega|(simp only[LN];omega)) only[↓EC,EW,seval,↓reduceIte,↓ED,EE]))); refine callM_d (c_spec_l01DrawPlaces (n:=n) (by omega) (by assumption)) ?_; rintro _ _ ⟨q',a3,z3,rfl,rfl,hs_,hq'⟩; (refine bni ?_;repeat (refine bnk ?_;(try simp (disch:=first|omega|(simp only[LN];omega)) only[↓EC,EW,seval,↓reduceIte,↓ED,EE,srcC]))))
   have hql':=hq'.1
   (refine bni ?_;repeat (refine bnk ?_;(try simp (disch:=first|omega|(simp only[LN];omega)) only[↓EC,EW,seval,↓reduceIte,↓ED,EE])))
   exact ⟨n,p,q',_,_,rfl,rfl,by assumption,hp,hq',by omega,by omega⟩
theorem c_spec_l01Spoil {x:Value} {l:List Int} {a z m:Int} (hm:1 <= m /\ m <= 16) (hs:okS l a):PSpecM Tryz.prog 70 [.ptr 0 0,.int .i64 m] [(0,96,1)] [srcC x l a z] fun v c =>
  ∃ n p q a' z',v = vD n p q /\ c = [srcC x l a' z'] /\ okS l a' /\ okP p /\ okP q /\ -1 <= n /\ n <= 17:=by
 refine spec_l01Spoil_f.m rfl rfl ?_
 unfold srcC
 dsimp only[spec_l01Spoil_F,pcal_B,pcalp_B,pcala_B,pcond_B,pgk_B,JN_B,LP_B]
 (refine bni ?_;repeat (refine bnk ?_;(try simp (disch:=first|omega|(simp only[LN];omega)) only[↓EC,EW,seval,↓reduceIte,↓ED,EE])))
 (refine pcm [0] rfl ?_; (refine bni ?_;repeat (refine bnk ?_;(try simp (disch:=first|omega|(simp only[LN];omega)) only[↓EC,EW,seval,↓reduceIte,↓ED,EE]))); refine callM_d (c_spec_l01Draw hm (by assumption)) ?_; rintro _ _ ⟨n,p,q,a1,z1,rfl,rfl,hs_,hp,hq,hn,hnm⟩; (refine bni ?_;repeat (refine bnk ?_;(try simp (disch:=first|omega|(simp only[LN];omega)) only[↓EC,EW,seval,↓reduceIte,↓ED,EE,srcC]))))
 have hpl:=hp.1
 have hql:=hq.1
 have hL:=okL_of (lo16_okP hp) (lo16_okP hq)
 have hb0:=hp.2 0 (by omega)
 (refine bni ?_;repeat (refine bnk ?_;(try simp (disch:=first|omega|(simp only[LN];omega)) only[↓EC,EW,seval,↓reduceIte,↓ED,EE,vD])))
 generalize p ++ q = L at *
 refine JNx_un ?_
 (refine bni ?_;repeat (refine bnk ?_;(try simp (disch:=first|omega|(simp only[LN];omega)) only[↓EC,EW,seval,↓reduceIte,↓ED,EE])))
 (refine pcm [0] rfl ?_; (refine bni ?_;repeat (refine bnk ?_;(try simp (disch:=first|omega|(simp only[LN];omega)) only[↓EC,EW,seval,↓reduceIte,↓ED,EE]))); refine callM_d (c_spec_l01Next (by assumption) (by omega)) ?_; rintro _ _ ⟨r1,_,_,rfl,rfl,hs_,hr_⟩; (refine bni ?_;repeat (refine bnk ?_;(try simp (disch:=first|omega|(simp only[LN];omega)) only[↓EC,EW,seval,↓reduceIte,↓ED,EE,srcC]))))
 have hLl:=hL.1
 have fin:∀ {n':Int} {L':List Int} {a' z':Int},okS l a' -> okL L' -> -1 <= n' /\ n' <= 17 -> ∃ n p q a'' z'',V.agg (V.int IntKind.i64 n' :: vi IntKind.u8 L') = V.agg (V.int IntKind.i64 n :: vi IntKind.u8 (p ++ q)) /\
   [[V.fz x l,V.int IntKind.i64 a',V.int IntKind.u64 z']] = [[V.fz x l,V.int IntKind.i64 a'',V.int IntKind.u64 z'']] /\ okS l a'' /\ okP p /\ okP q /\ -1 <= n /\ n <= 17:=by
  intro n' L' a' z' h1 h2 h3
  obtain ⟨b,w,e,ob,ow⟩:=okL_vD (n:=n') h2
  exact ⟨n',b,w,a',z',e,rfl,h1,ob,ow,h3⟩
 (refine Split.mB (fun h=>?_) (fun h=>?_) <;> (try simp only[SD]at h))
 ·(refine bni ?_;repeat (refine bnk ?_;(try simp (disch:=first|omega|(simp only[LN];omega)) only[↓EC,EW,seval,↓reduceIte,↓ED,EE])))
  exact fin (by assumption) (okL_set hL (by simp[IntKind.wrap,IntKind.signed,IntKind.bits]; omega)) (by omega)
 ·(refine bni ?_;repeat (refine bnk ?_;(try simp (disch:=first|omega|(simp only[LN];omega)) only[↓EC,EW,seval,↓reduceIte,↓ED,EE])))
  (refine Split.mB (fun h=>?_) (fun h=>?_) <;> (try simp only[SD]at h))
  ·(refine bni ?_;repeat (refine bnk ?_;(try simp (disch:=first|omega|(simp only[LN];omega)) only[↓EC,EW,seval,↓reduceIte,↓ED,EE])))
   (refine pcm [0] rfl ?_; (refine bni ?_;repeat (refine bnk ?_;(try simp (disch:=first|omega|(simp only[LN];omega)) only[↓EC,EW,seval,↓reduceIte,↓ED,EE]))); refine callM_d (c_spec_l01Pick (m:=[0,17,-1,n + 1,n - 1]) (by assumption) (by simp) (by simp)) ?_; rintro _ _ ⟨y1,_,_,hy_,rfl,rfl,hs_⟩; simp only[List.mem_cons,List.not_mem_nil,or_false] at hy_; (refine bni ?_;repeat (refine bnk ?_;(try simp (disch:=first|omega|(simp only[LN];omega)) only[↓EC,EW,seval,↓reduceIte,↓ED,EE,srcC]))))
   (refine bni ?_;repeat (refine bnk ?_;(try simp (disch:=first|omega|(simp only[LN];omega)) only[↓EC,EW,seval,↓reduceIte,↓ED,EE])))
   exact fin (by assumption) hL (by omega)
  ·(refine bni ?_;repeat (refine bnk ?_;(try simp (disch:=first|omega|(simp only[LN];omega)) only[↓EC,EW,seval,↓reduceIte,↓ED,EE])))
   (refine Split.mB (fun h=>?_) (fun h=>?_) <;> (try simp only[SD]at h))
   ·(refine bni ?_;repeat (refine bnk ?_;(try simp (disch:=first|omega|(simp only[LN];omega)) only[↓EC,EW,seval,↓reduceIte,↓ED,EE])))
    rw[if_neg (show ¬ 16 < n by omega)]
    refine pcd_v (c_spec_l01Same (n:=n) (by omega)) ?_
    have hq:=sameP_lo (n:=n) (by omega)
    have hlf:=putL_len sameF n.toNat
    (refine bni ?_;repeat (refine bnk ?_;(try simp (disch:=first|omega|(simp only[LN];omega)) only[↓EC,EW,seval,↓reduceIte,↓ED,EE])))
    exact fin (by assumption) (okL_of (okL_tk hL) (lo16_okP hq)) (by omega)
   ·(refine bni ?_;repeat (refine bnk ?_;(try simp (disch:=first|omega|(simp only[LN];omega)) only[↓EC,EW,seval,↓reduceIte,↓ED,EE])))
    (refine Split.mB (fun h=>?_) (fun h=>?_) <;> (try simp only[SD]at h))
    ·(refine bni ?_;repeat (refine bnk ?_;(try simp (disch:=first|omega|(simp only[LN];omega)) only[↓EC,EW,seval,↓reduceIte,↓ED,EE])))
     (refine pcm [0] rfl ?_; (refine bni ?_;repeat (refine bnk ?_;(try simp (disch:=first|omega|(simp only[LN];omega)) only[↓EC,EW,seval,↓reduceIte,↓ED,EE]))); refine callM_d (c_spec_l01Pick (m:=[1,255]) (by assumption) (by simp) (by simp)) ?_; rintro _ _ ⟨y1,_,_,hy_,rfl,rfl,hs_⟩; simp only[List.mem_cons,List.not_mem_nil,or_false] at hy_; (refine bni ?_;repeat (refine bnk ?_;(try simp (disch:=first|omega|(simp only[LN];omega)) only[↓EC,EW,seval,↓reduceIte,↓ED,EE,srcC]))))
     (refine bni ?_;repeat (refine bnk ?_;(try simp (disch:=first|omega|(simp only[LN];omega)) only[↓EC,EW,seval,↓reduceIte,↓ED,EE])))
     exact fin (by assumption) (okL_set hL (by omega)) (by omega)
    ·(refine bni ?_;repeat (refine bnk ?_;(try simp (disch:=first|omega|(simp only[LN];omega)) only[↓EC,EW,seval,↓reduceIte,↓ED,EE])))
     exact fin (by assumption) hL (by omega)
end
section
set_option maxHeartbeats 4000000
end
section
set_option maxRecDepth 1000000
set_option maxHeartbeats 4000000
theorem run_compareSl {P:Program} {b off n cap b' off' n' cap':Nat} {w:World} (l m:List Int) (hl:l.length = n) (hm:m.length = n')
  (h1:∀ j x,l[j]? = some x -> w.cell? ⟨b,off + j,none⟩ = some (.int .u8 x)) (h2:∀ j x,m[j]? = some x -> w.cell? ⟨b',off' + j,none⟩ = some (.int .u8 x)) :
  (Extern.BytealgCompare.compare #[.slice (some ⟨b,off,none⟩) n cap,.slice (some ⟨b',off',none⟩) n' cap']).run P w = .ok (.int .i64 (Lib.compareBytes (Lib.bytesOf l) (Lib.bytesOf m))) w:=by
 subst hl hm
 have e1:=Lib.run_loadBytesX (P:=P) (w:=w) l ⟨b,off,none⟩ .empty (fun j x hj=>by rw[Addr.add_lit]; exact h1 j x hj)
 have e2:=Lib.run_loadBytesX (P:=P) (w:=w) m ⟨b',off',none⟩ .empty (fun j x hj=>by rw[Addr.add_lit]; exact h2 j x hj)
 change Sem.run P (do pure (goInt (Extern.BytealgCompare.cmp (<-Extern.Bytes.bytesOf (.slice (some ⟨b,off,none⟩) l.length cap)) (<-Extern.Bytes.bytesOf (.slice (some ⟨b',off',none⟩) m.length cap'))))) w = _
 simp only[Extern.Bytes.bytesOf,Sem.run_bind,e1,e2,Sem.run_pure,Result.andThen]
 rw[Lib.cmp_eq]
 simp[goInt]
theorem bcmp_walk (b off n cap b' off' n' cap':Nat) (w:World) (l m:List Int) (hl:l.length = n) (hm:m.length = n')
  (h1:∀ j x,l[j]? = some x -> w.cell? ⟨b,off + j,none⟩ = some (.int .u8 x)) (h2:∀ j x,m[j]? = some x -> w.cell? ⟨b',off' + j,none⟩ = some (.int .u8 x)) :
  Calls Tryz.prog 126 #[.slice (some ⟨b,off,none⟩) n cap,.slice (some ⟨b',off',none⟩) n' cap'] w fun e w'=>e = .returned (.int .i64 (Lib.compareBytes (Lib.bytesOf l) (Lib.bytesOf m))) /\ w' = w:=by
 go_enter Tryz.func126,Tryz.ntmps126
 go_wp2
 rw[run_callFunc_extern Tryz.func132 (by kernel_rfl) (by kernel_rfl) (by kernel_rfl) (e:=Extern.BytealgCompare.compare) (by kernel_rfl),run_compareSl l m hl hm h1 h2]
 simp only[Result.andThen]
 rw[Oper.upon_value]
 go_wp2
 go_ret
 exact ⟨rfl,rfl⟩
theorem newc_q {p q:List Int} {w:World} {e:TypeId} {j:Nat} {x:Int} (hj:q[j]? = some x):((w.alloc (Obj.cells (p.map (Value.int .u8)).toArray e)).alloc (Obj.cells (q.map (Value.int .u8)).toArray e)).drew.cell? ⟨w.heap.size + 1,0 + j,none⟩ = some (.int .u8 x):=by
 rw[World.cell?_drew,Nat.zero_add,World.cell?_alloc2_new,List.getElem?_toArray,List.getElem?_map,hj]; rfl
theorem newc_p {p q:List Int} {w:World} {e:TypeId} {j:Nat} {x:Int} (hj:p[j]? = some x):((w.alloc (Obj.cells (p.map (Value.int .u8)).toArray e)).alloc (Obj.cells (q.map (Value.int .u8)).toArray e)).drew.cell? ⟨w.heap.size,0 + j,none⟩ = some (.int .u8 x):=by
 rw[World.cell?_drew,Nat.zero_add,World.cell?_alloc2_first,List.getElem?_toArray,List.getElem?_map,hj]; rfl
theorem newk {p:List Int} (e:TypeId):(Blk.row true e (p.map (Value.int .u8)) 0).ok (Obj.cells (p.map (Value.int .u8)).toArray e) :=
 ⟨_,_,rfl,by simp,by rw[List.toList_toArray,List.take_length],fun _=>rfl,fun _ v hv=>by obtain ⟨x,_,rfl⟩:=List.mem_map.1 hv; rfl⟩
theorem le_new {B:Bd} {w0 w:World} {h:H} {k:Blk} (hs:Sat B w0 w h):Le h (upd h w.heap.size k):=fun b k' hb=>by
 have:b ≠ w.heap.size:=by have:=hs.lt (b:=b) (by rw[hb]; rfl); omega
 simp only[upd,if_neg this]; exact hb
theorem Le.trans' {h h' h'':H} (a:Le h h') (c:Le h' h''):Le h h'':=fun b k hb=>c b k (a b k hb)
theorem pcmp_walk (p q:List Int) (w:World) (hp:p.length = 16) (hq:q.length = 16) :
  Calls Tryz.prog 113 #[.agg (p.map (Value.int .u8)).toArray,.agg (q.map (Value.int .u8)).toArray] w fun e w'=>e = .returned (.int .i64 (Lib.compareBytes (Lib.bytesOf p) (Lib.bytesOf q))) /\ ∀ B w0 h,Sat B w0 w h -> Sat B w0 w' h:=by
 go_enter Tryz.func113,Tryz.ntmps113
 go_wp2_with fail
 go_region_with (go_at_call 126; refine (bcmp_walk _ _ _ _ _ _ _ _ _ p q hp hq (by intro j x hj; exact newc_p hj) (by intro j x hj; exact newc_q hj)).mono ?_; rintro e w' ⟨rfl,rfl⟩)
 go_wp2
 go_ret
 refine ⟨rfl,fun B w0 h hs=>?_⟩
 refine Sat.drew ?_
 exact Sat.mono ((hs.alloc (newk _)).alloc (newk _)) (Le.trans' (le_new hs) (le_new (hs.alloc (newk _))))
theorem u8_lt {a c:Int} (ha:0 <= a /\ a <= 255) (hc:0 <= c /\ c <= 255):a.toNat.toUInt8 < c.toNat.toUInt8 ↔ a < c:=by
 rw[UInt8.lt_iff_toNat_lt,Nat.toUInt8_eq,Nat.toUInt8_eq,UInt8.toNat_ofNat_of_lt' (show a.toNat < 256 by omega),UInt8.toNat_ofNat_of_lt' (show c.toNat < 256 by omega)]
 omega
theorem cmp_ltL:∀ {p q:List Int},p.length = q.length -> (∀ a ∈ p,0 <= a /\ a <= 255) -> (∀ a ∈ q,0 <= a /\ a <= 255) ->
  (-1 <= Lib.compareBytes (Lib.bytesOf p) (Lib.bytesOf q) /\ Lib.compareBytes (Lib.bytesOf p) (Lib.bytesOf q) <= 1) /\ (Lib.compareBytes (Lib.bytesOf p) (Lib.bytesOf q) < 0 ↔ ltL p q = true) /\ (Lib.compareBytes (Lib.bytesOf p) (Lib.bytesOf q) = 0 ↔ p = q)
 | [],[],_,_,_=>by simp[Lib.bytesOf,Lib.compareBytes,ltL]
 | [],_ :: _,h,_,_=>by simp at h
 | _ :: _,[],h,_,_=>by simp at h
 | a :: p,c :: q,h,ha,hc=>by
  have ih:=cmp_ltL (p:=p) (q:=q) (by simpa using h) (fun x hx=>ha x (by simp[hx])) (fun x hx=>hc x (by simp[hx]))
  have ha0:=ha a (by simp)
  have hc0:=hc c (by simp)
  have l1:=u8_lt ha0 hc0
  have l2:=u8_lt hc0 ha0
  have e1:Lib.bytesOf (a :: p) = a.toNat.toUInt8 :: Lib.bytesOf p:=rfl
  have e2:Lib.bytesOf (c :: q) = c.toNat.toUInt8 :: Lib.bytesOf q:=rfl
  rw[e1,e2]
  simp only[Lib.compareBytes,ltL]
  by_cases h1:a < c
  ·rw[if_pos (l1.2 h1)]
   refine ⟨by omega,by simp[h1],?_⟩
   simp; omega
  ·rw[if_neg fun q=>h1 (l1.1 q)]
   by_cases h2:c < a
   ·rw[if_pos (l2.2 h2)]
    refine ⟨by omega,?_,?_⟩
    ·simp[h1]; omega
    ·simp; omega
   ·rw[if_neg fun q=>h2 (l2.1 q)]
    have e:a = c:=by omega
    subst e
    refine ⟨ih.1,?_,?_⟩
    ·rw[ih.2.1]; simp
    ·rw[ih.2.2]; simp
theorem c_impl_comparePlaces {p q:List Int} (hp:okP p) (hq:okP q):PSpec Tryz.prog 113 [.agg (vi .u8 p),.agg (vi .u8 q)] fun v=>∃ r:Int,v = .int .i64 r /\ (-1 <= r /\ r <= 1) /\ (r < 0 ↔ ltL p q = true) /\ (r = 0 ↔ p = q):=by
 intro F rs hR hr hle B w0 w hs
 simp only[RL,R] at hR
 obtain ⟨v0,r0,rfl,⟨cs,rfl,h1⟩,v1,r1,rfl,⟨cs',rfl,h2⟩,rfl⟩:=hR
 obtain rfl:=RL_bytes_eq h1
 obtain rfl:=RL_bytes_eq h2
 refine (pcmp_walk p q w hp.1 hq.1).mono ?_
 rintro e w' ⟨rfl,hw⟩
 have hok:∀ {p:List Int},okP p -> ∀ a ∈ p,0 <= a /\ a <= 255:=fun {p} hp a ha=>by
  obtain ⟨i,hi,rfl⟩:=List.getElem_of_mem ha
  have:=hp.2 i (by rw[<-hp.1]; exact hi)
  rw[gi_of hi] at this; exact this
 obtain ⟨c1,c2,c3⟩:=cmp_ltL (by rw[hp.1,hq.1]) (hok hp) (hok hq)
 refine ⟨_,emp,rfl,⟨.int .i64 (Lib.compareBytes (Lib.bytesOf p) (Lib.bytesOf q)),⟨_,rfl,c1,c2,c3⟩,rfl,rfl⟩,fun b hb=>by simp[emp] at hb,?_⟩
 have:join hr emp = hr:=by funext b; simp[join,emp]
 rw[this]
 exact hw B w0 hr hs
theorem c_impl_compareDessins {n m:Int} {b w c x:List Int} (hb:okP b) (hw:okP w) (hc:okP c) (hx:okP x):PSpec Tryz.prog 95 [vD n b w,vD m c x] fun v=>∃ r:Int,v = .int .i64 r /\ (-1 <= r /\ r <= 1) /\ (r < 0 ↔ ltD (b,w) (c,x) = true):=by
 have h1:=hb.1
 have h2:=hw.1
 have h3:=hc.1
 have h4:=hx.1
 refine impl_compareDessins_f.f ?_
 unfold vD
 dsimp only[impl_compareDessins_F,pcal_B,pcalp_B,pcala_B,pcond_B,pgk_B,JN_B,LP_B]
 (refine bni ?_;repeat (refine bnk ?_;(try simp (disch:=first|omega|(simp only[LN];omega)) only[↓EC,EW,seval,↓reduceIte,↓ED,EE])))
 refine pcd_r (c_impl_comparePlaces hb hc) ?_
 rintro _ ⟨r,rfl,l1,l2,l3⟩
 (refine bni ?_;repeat (refine bnk ?_;(try simp (disch:=first|omega|(simp only[LN];omega)) only[↓EC,EW,seval,↓reduceIte,↓ED,EE])))
 (refine Split.mB (fun h=>?_) (fun h=>?_) <;> (try simp only[SD]at h))
 ·(refine bni ?_;repeat (refine bnk ?_;(try simp (disch:=first|omega|(simp only[LN];omega)) only[↓EC,EW,seval,↓reduceIte,↓ED,EE])))
  refine ⟨r,rfl,l1,?_⟩
  have:b ≠ c:=fun e=>h (l3.2 e)
  rw[l2]; simp[ltD,this]
 ·(refine bni ?_;repeat (refine bnk ?_;(try simp (disch:=first|omega|(simp only[LN];omega)) only[↓EC,EW,seval,↓reduceIte,↓ED,EE])))
  refine pcd_r (c_impl_comparePlaces hw hx) ?_
  rintro _ ⟨r',rfl,l1',l2',l3'⟩
  (refine bni ?_;repeat (refine bnk ?_;(try simp (disch:=first|omega|(simp only[LN];omega)) only[↓EC,EW,seval,↓reduceIte,↓ED,EE])))
  refine ⟨r',rfl,l1',?_⟩
  obtain rfl:=l3.1 h
  rw[l2']; simp[ltD,ltL_irr]
end
section
set_option maxHeartbeats 4000000
theorem vleqT {k:IntKind}:∀ {l m:List Int},l.length = m.length -> vleq (List.replicate l.length (.i k)) (vi k l) (vi k m) = some (decide (l = m))
 | [],[],_=>rfl
 | [],_ :: _,h=>by simp at h
 | _ :: _,[],h=>by simp at h
 | a :: l,c :: m,h=>by
  have ih:=vleqT (k:=k) (l:=l) (m:=m) (by simpa using h)
  simp only[List.length_cons,List.replicate_succ,vi,List.map_cons,vleq_cons,vveq_i,Option.bind_some] at ih ⊢
  rw[ih]
  simp only[Option.bind_some,Option.some.injEq]
  by_cases e:a = c
  ·subst e; simp
  ·simp[e]
theorem vleq32 {l m:List Int} (hl:l.length = 32) (hm:m.length = 32):vleq [.i .u8,.i .u8,.i .u8,.i .u8,.i .u8,.i .u8,.i .u8,.i .u8,.i .u8,.i .u8,.i .u8,.i .u8,.i .u8,.i .u8,.i .u8,.i .u8,.i .u8,.i .u8,.i .u8,.i .u8,.i .u8,.i .u8,.i .u8,.i .u8,.i .u8,.i .u8,.i .u8,.i .u8,.i .u8,.i .u8,.i .u8,.i .u8] (vi .u8 l) (vi .u8 m) = some (decide (l = m)):=by
 have:=vleqT (k:=.u8) (l:=l) (m:=m) (by omega)
 rw[hl] at this
 exact this
theorem app_inj16 {a c x y:List Int} (h1:a.length = 16) (h2:c.length = 16):a ++ x = c ++ y ↔ a = c /\ x = y:=by
 constructor
 ·intro e; exact List.append_inj e (by omega)
 ·rintro ⟨rfl,rfl⟩; rfl
section
variable {n:Int} {b w:List Int}
theorem cnF_lo (h:Dz n b w) (s:Nat) (hs:s < n.toNat):lo16 (cnF b w n s).1 /\ lo16 (cnF b w n s).2:=by
 obtain ⟨x,hx,e⟩:=cnF_ex (b:=b) (w:=w) (n:=n) s
 rw[e]
 have:=frm_dz h (x:=x) (by omega)
 exact ⟨this.B.lo,this.W.lo⟩
end
theorem c_impl_canonical {n:Int} {b w:List Int} (hz:Dz n b w):PSpec Tryz.prog 62 [vD n b w] fun v=>v = vD n (canD b w n).1 (canD b w n).2:=by
 have hb:=hz.B.lo
 have hw:=hz.W.lo
 have hl:=hb.1
 have hk:=hw.1
 have hn:=hz.B.hn
 have c1:∀ x:Int,0 <= x /\ x < n -> PSpec Tryz.prog 94 [.agg (.int .i64 n :: vi .u8 (b ++ w)),.int .i64 x] fun v=>v = .agg (vi .u8 (nmgP b w x)):=fun x hx=>c_impl_naming (n:=n) (x:=x) hb hw (by omega)
 have c2:∀ x:Int,0 <= x /\ x < n -> PSpec Tryz.prog 93 [.agg (.int .i64 n :: vi .u8 (b ++ w)),.agg (vi .u8 (nmgP b w x))] fun v=>v = .agg (.int .i64 n :: vi .u8 (frB b w n x ++ frW b w n x)):=fun x hx=>c_impl_rename (n:=n) hb hw (nmgP_lo hb hw (x:=x) (by omega)) hn
 have q1:∀ x:Int,(frB b w n x).length = 16:=fun x=>rnT_len _
 have q2:∀ x:Int,(frW b w n x).length = 16:=fun x=>rnT_len _
 have q3:∀ s,(cnF b w n s).1.length = 16:=fun s=>by obtain ⟨x,_,e⟩:=cnF_ex (b:=b) (w:=w) (n:=n) s; rw[e]; exact q1 _
 have q4:∀ s,(cnF b w n s).2.length = 16:=fun s=>by obtain ⟨x,_,e⟩:=cnF_ex (b:=b) (w:=w) (n:=n) s; rw[e]; exact q2 _
 have q10:=q1 0
 have q20:=q2 0
 refine impl_canonical_f.f ?_
 unfold vD
 dsimp only[impl_canonical_F,pcal_B,pcalp_B,pcala_B,pcond_B,pgk_B,JN_B,LP_B]
 (refine bni ?_;repeat (refine bnk ?_;(try simp (disch:=first|omega|(simp only[LN];omega)) only[↓EC,EW,seval,↓reduceIte,↓ED,EE])))
 refine pcd_v (c1 0 (by omega)) ?_
 (refine bni ?_;repeat (refine bnk ?_;(try simp (disch:=first|omega|(simp only[LN];omega)) only[↓EC,EW,seval,↓reduceIte,↓ED,EE])))
 refine pcd_v (c2 0 (by omega)) ?_
 (refine bni ?_;repeat (refine bnk ?_;(try simp (disch:=first|omega|(simp only[LN];omega)) only[↓EC,EW,seval,↓reduceIte,↓ED,EE])))
 refine LPx_of (σ:=Nat) 100000 [(65,28,1),(66,28,1),(67,28,1)] (fun s=>[.int .i64 (s + 1:Nat)]) (fun s=>[.int .i64 n :: vi .u8 (b ++ w),.int .i64 0 :: vi .u8 (List.replicate 32 0),.int .i64 n :: vi .u8 ((cnF b w n s).1 ++ (cnF b w n s).2)])
  (fun s=>s < n.toNat) (fun s=>n.toNat - s) 0 (by simp[frameOk,names,lpz,sclp,scv,scvs,nrfs,nrf,FRB]) (by show 0 < n.toNat; omega) ?_ ?_
 ·(refine bni ?_;repeat (refine bnk ?_;simp (disch:=first|omega|(simp only[LN];omega)) only[↓EC,EW,seval,↓reduceIte,↓ED,EE,CVd]))
  rfl
 ·intro s hs
  have q3s:=q3 s
  have q4s:=q4 s
  (refine bni ?_;repeat (refine bnk ?_;simp (disch:=first|omega|(simp only[LN];omega)) only[↓EC,EW,seval,↓reduceIte,↓ED,EE,CVd,lhd]))
  (refine Split.mB (fun h=>?_) (fun h=>?_) <;> (try simp only[SD]at h))
  ·refine JNx_un ?_
   (refine bni ?_;repeat (refine bnk ?_;(try simp (disch:=first|omega|(simp only[LN];omega)) only[↓EC,EW,seval,↓reduceIte,↓ED,EE])))
   refine pcd_v (c1 ((s + 1:Nat):Int) (by omega)) ?_
   (refine bni ?_;repeat (refine bnk ?_;(try simp (disch:=first|omega|(simp only[LN];omega)) only[↓EC,EW,seval,↓reduceIte,↓ED,EE])))
   refine pcd_v (c2 ((s + 1:Nat):Int) (by omega)) ?_
   have q5:=q1 ((s + 1:Nat):Int)
   have q6:=q2 ((s + 1:Nat):Int)
   have f1:=frm_dz hz (x:=s + 1) (by omega)
   have l1:=f1.B.lo.ok
   have l2:=f1.W.lo.ok
   have l3:=(cnF_lo hz s hs).1.ok
   have l4:=(cnF_lo hz s hs).2.ok
   (refine bni ?_;repeat (refine bnk ?_;(try simp (disch:=first|omega|(simp only[LN];omega)) only[↓EC,EW,seval,↓reduceIte,↓ED,EE])))
   refine pcd_r (c_impl_compareDessins (n:=n) (m:=n) l1 l2 l3 l4) ?_
   rintro _ ⟨r,rfl,r1,r2⟩
   have e1:cnF b w n (s + 1) = if ltD (frB b w n ((s + 1:Nat):Int),frW b w n ((s + 1:Nat):Int)) (cnF b w n s) = true then (frB b w n ((s + 1:Nat):Int),frW b w n ((s + 1:Nat):Int)) else cnF b w n s:=rfl
   (refine bni ?_;repeat (refine bnk ?_;(try simp (disch:=first|omega|(simp only[LN];omega)) only[↓EC,EW,seval,↓reduceIte,↓ED,EE])))
   (refine Split.mB (fun h=>?_) (fun h=>?_) <;> (try simp only[SD]at h))
   ·(refine bni ?_;repeat (refine bnk ?_;(try simp (disch:=first|omega|(simp only[LN];omega)) only[↓EC,EW,seval,↓reduceIte,↓ED,EE])))
    have hlt:ltD (frB b w n ((s + 1:Nat):Int),frW b w n ((s + 1:Nat):Int)) (cnF b w n s) = true:=r2.1 h
    rw[if_pos hlt] at e1
    exact ⟨s + 1,by simp,by rw[e1],by omega,by omega⟩
   ·(refine bni ?_;repeat (refine bnk ?_;(try simp (disch:=first|omega|(simp only[LN];omega)) only[↓EC,EW,seval,↓reduceIte,↓ED,EE])))
    have hlt:¬ ltD (frB b w n ((s + 1:Nat):Int),frW b w n ((s + 1:Nat):Int)) (cnF b w n s) = true:=fun q=>by have:=r2.2 q; omega
    rw[if_neg hlt] at e1
    exact ⟨s + 1,by simp,by rw[e1],by omega,by omega⟩
  ·obtain rfl:s = n.toNat - 1:=by omega
   (refine bni ?_;repeat (refine bnk ?_;(try simp (disch:=first|omega|(simp only[LN];omega)) only[↓EC,EW,seval,↓reduceIte,↓ED,EE])))
   rfl
theorem canD_len {n:Int} {b w:List Int}:(canD b w n).1.length = 16 /\ (canD b w n).2.length = 16:=by
 obtain ⟨x,_,e⟩:=cnF_ex (b:=b) (w:=w) (n:=n) (n.toNat - 1)
 unfold canD; rw[e]; exact frm_len
theorem can_dec {n:Int} {b w c x:List Int} (h:Dz n b w) (h':Dz n c x):((canD b w n).1 ++ (canD b w n).2 = (canD c x n).1 ++ (canD c x n).2) ↔ Alk n b w c x:=by
 rw[app_inj16 canD_len.1 canD_len.1,<-can_alk h h',Prod.ext_iff]
noncomputable def akB (n m:Int) (b w c x:List Int):Bool:=by classical exact decide (n = m /\ Alk n b w c x)
noncomputable def akR (n m:Int) (b w c x:List Int):Bool × Int:=if isDB n b w = true /\ isDB m c x = true then (akB n m b w c x,0) else (false,1)
theorem akB_dec {n:Int} {b w c x:List Int} (h:Dz n b w) (h':Dz n c x):decide ((canD b w n).1 ++ (canD b w n).2 = (canD c x n).1 ++ (canD c x n).2) = akB n n b w c x:=by
 have h0:=can_dec h h'
 by_cases q:Alk n b w c x
 ·have:=h0.2 q; simp[akB,q,this]
 ·have:¬ _:=fun r=>q (h0.1 r)
  simp only[akB,q,this,and_false,decide_false]
theorem akB_ne {n m:Int} {b w c x:List Int} (e:¬ n = m):akB n m b w c x = false:=by
 unfold akB; rw[decide_eq_false_iff_not]; exact fun q=>e q.1
theorem c_impl_AreAlike {n m:Int} {b w c x:List Int} (hb:okP b) (hw:okP w) (hc:okP c) (hx:okP x):PSpec Tryz.prog 13 [vD n b w,vD m c x] fun v=>v = .tup [.bool (akR n m b w c x).1,.int .i64 (akR n m b w c x).2]:=by
 have h1:=hb.1
 have h2:=hw.1
 have h3:=hc.1
 have h4:=hx.1
 refine impl_AreAlike_f.f ?_
 unfold vD
 dsimp only[impl_AreAlike_F,pcal_B,pcalp_B,pcala_B,pcond_B,pgk_B,JN_B,LP_B]
 (refine bni ?_;repeat (refine bnk ?_;(try simp (disch:=first|omega|(simp only[LN];omega)) only[↓EC,EW,seval,↓reduceIte,↓ED,EE])))
 refine pcd_v (c_impl_IsDessin (n:=n) hb hw) ?_
 cases hd:isDB n b w with
 | false=>(refine bni ?_;repeat (refine bnk ?_;(try simp (disch:=first|omega|(simp only[LN];omega)) only[↓EC,EW,seval,↓reduceIte,↓ED,EE,akR,hd])))
 | true =>
  (refine bni ?_;repeat (refine bnk ?_;(try simp (disch:=first|omega|(simp only[LN];omega)) only[↓EC,EW,seval,↓reduceIte,↓ED,EE])))
  refine pcd_v (c_impl_IsDessin (n:=m) hc hx) ?_
  cases he:isDB m c x with
  | false=>(refine bni ?_;repeat (refine bnk ?_;(try simp (disch:=first|omega|(simp only[LN];omega)) only[↓EC,EW,seval,↓reduceIte,↓ED,EE,akR,hd,he])))
  | true =>
   (refine bni ?_;repeat (refine bnk ?_;(try simp (disch:=first|omega|(simp only[LN];omega)) only[↓EC,EW,seval,↓reduceIte,↓ED,EE])))
   have D:=(isDB_iff.1 hd).dz hb hw
   have E:=(isDB_iff.1 he).dz hc hx
   have k1:=c_impl_canonical D
   have k2:=c_impl_canonical E
   unfold vD at k1 k2
   by_cases e:n = m
   ·subst e
    (refine bni ?_;repeat (refine bnk ?_;(try simp (disch:=first|omega|(simp only[LN];omega)) only[↓EC,EW,seval,↓reduceIte,↓ED,EE])))
    refine pcd_v k1 ?_
    (refine bni ?_;repeat (refine bnk ?_;(try simp (disch:=first|omega|(simp only[LN];omega)) only[↓EC,EW,seval,↓reduceIte,↓ED,EE])))
    refine pcd_v k2 ?_
    have l1:=canD_len (n:=n) (b:=b) (w:=w)
    have l2:=canD_len (n:=n) (b:=c) (w:=x)
    (refine bni ?_;repeat (refine bnk ?_;(try simp (disch:=first|omega|(simp only[LN];omega)) only[↓EC,EW,seval,↓reduceIte,↓ED,EE,akR,hd,he,vleq32 (l:=(canD b w n).1 ++ (canD b w n).2) (m:=(canD c x n).1 ++ (canD c x n).2) (by simp; omega) (by simp; omega),akB_dec D E])))
   ·have e1:(n == m) = false:=by simpa using e
    (refine bni ?_;repeat (refine bnk ?_;(try simp (disch:=first|omega|(simp only[LN];omega)) only[↓EC,EW,seval,↓reduceIte,↓ED,EE,e1,akR,hd,he,akB_ne e])))
end
section
set_option maxHeartbeats 4000000
theorem c_ReverseS {l:List Int} {n:Nat} (hn:l.length = n) (hl:n <= 1000):PSpecM Tryz.prog 125 [.rf 0 0 n] [(0,2,1)] [vi .i64 l] fun v c=>v = .tup [] /\ c = [vi .i64 l.reverse]:=by
 refine slices_Reverse_int64_int64_i_f.m rfl rfl ?_
 dsimp only[slices_Reverse_int64_int64_i_F,pcal_B,pcalp_B,pcala_B,pcond_B,pgk_B,JN_B,LP_B]
 (refine bni ?_;repeat (refine bnk ?_;(try simp (disch:=first|omega|(simp only[LN];omega)) only[↓EC,EW,seval,↓reduceIte,↓ED,EE])))
 refine LPx_of (σ:=List Int × Nat) 100000 [(0,2,1)] (fun s=>[.int .i64 s.2,.int .i64 ((n:Int) - 1 - s.2)]) (fun s=>[vi .i64 s.1])
  (fun s=>s.1.length = n /\ 2 * s.2 <= n + 1 /\ ∀ t,t < n -> gi s.1 t = if t < s.2 ∨ n <= t + s.2 then gi l (n - 1 - t) else gi l t) (fun s=>n - s.2) (l,0) (by simp[frameOk,names,lpz,sclp,scv,scvs,nrfs,nrf,FRB]) ⟨hn,by simp only; omega,fun t ht=>by rw[if_neg (by simp only; omega)]⟩ ?_ ?_
 ·(refine bni ?_;repeat (refine bnk ?_;simp (disch:=first|omega|(simp only[LN];omega)) only[↓EC,EW,seval,↓reduceIte,↓ED,EE,CVd]))
  simp
 ·rintro ⟨m,i⟩ ⟨h1,h2,h3⟩
  simp only at h1 h2 h3
  (refine bni ?_;repeat (refine bnk ?_;simp (disch:=first|omega|(simp only[LN];omega)) only[↓EC,EW,seval,↓reduceIte,↓ED,EE,CVd,lhd]))
  (refine Split.mB (fun h=>?_) (fun h=>?_) <;> (try simp only[SD]at h))
  ·have e1:((n:Int) - 1 - i).toNat = n - 1 - i:=by omega
   (refine bni ?_;repeat (refine bnk ?_;(try simp (disch:=first|omega|(simp only[LN];omega)) only[↓EC,EW,seval,↓reduceIte,↓ED,EE,e1])))
   refine ⟨(_,i + 1),by simp; omega,rfl,⟨by simp[h1],by simp only; omega,fun t ht=>?_⟩,by simp only; omega⟩
   simp only
   rw[gi_set,gi_set,List.length_set,h1]
   by_cases ta:n - 1 - i = t
   ·rw[if_pos ⟨ta,ht⟩,if_pos (by omega),h3 i (by omega),if_neg (by omega)]
    congr 1; omega
   ·rw[if_neg fun q=>ta q.1]
    by_cases tb:i = t
    ·rw[if_pos ⟨tb,ht⟩,if_pos (by omega),h3 (n - 1 - i) (by omega),if_neg (by omega)]
     congr 1; omega
    ·rw[if_neg fun q=>tb q.1,h3 t ht]
     by_cases tc:t < i ∨ n <= t + i
     ·rw[if_pos tc,if_pos (by omega)]
     ·rw[if_neg tc,if_neg (by omega)]
  ·(refine bni ?_;repeat (refine bnk ?_;(try simp (disch:=first|omega|(simp only[LN];omega)) only[↓EC,EW,seval,↓reduceIte,↓ED,EE])))
   have:m = l.reverse:=by
    refine gi_ext (by simp[h1,hn]) fun t ht=>?_
    have hr:gi l.reverse t = gi l (n - 1 - t):=by
     rw[gi_of (show t < l.reverse.length by simp; omega),List.getElem_reverse,gi_of (show n - 1 - t < l.length by omega)]
     congr 1; omega
    rw[hr,h3 t (by omega)]
    split
    ·rfl
    ·congr 1; omega
   rw[this]
theorem c_descendingS {l:List Int} {n:Nat} (hn:l.length = n) (hl:n <= 16):PSpecMR Tryz.prog 110 [.rf 0 0 n] [(0,2,1)] [vi .i64 l] fun j o k c=>j = 0 /\ o = 0 /\ k = n /\ c = [vi .i64 (dsc l)]:=by
 refine impl_descending_f.mr rfl rfl ?_
 dsimp only[impl_descending_F,pcal_B,pcalp_B,pcala_B,pcond_B,pgk_B,JN_B,LP_B]
 (refine bni ?_;repeat (refine bnk ?_;(try simp (disch:=first|omega|(simp only[LN];omega)) only[↓EC,EW,seval,↓reduceIte,↓ED,EE])))
 refine pcm [0] rfl ?_; (refine bni ?_;repeat (refine bnk ?_;(try simp (disch:=first|omega|(simp only[LN];omega)) only[↓EC,EW,seval,↓reduceIte,↓ED,EE])))
 refine callM_d (c_SortS hn hl) ?_
 rintro _ _ ⟨rfl,m,rfl,hm,hs⟩
 have hml:m.length = n:=by rw[hm.len,hn]
 (refine bni ?_;repeat (refine bnk ?_;(try simp (disch:=first|omega|(simp only[LN];omega)) only[↓EC,EW,seval,↓reduceIte,↓ED,EE])))
 refine pcm [0] rfl ?_; (refine bni ?_;repeat (refine bnk ?_;(try simp (disch:=first|omega|(simp only[LN];omega)) only[↓EC,EW,seval,↓reduceIte,↓ED,EE])))
 refine callM_d (c_ReverseS hml (by omega)) ?_
 rintro _ _ ⟨rfl,rfl⟩
 have e:=dsc_of hn hm hs
 have hel:(dsc l).length = n:=by rw[dsc_len,hn]
 (refine bni ?_;repeat (refine bnk ?_;(try simp (disch:=first|omega|(simp only[LN];omega)) only[↓EC,EW,seval,↓reduceIte,↓ED,EE,e])))
 exact ⟨rfl,trivial⟩
theorem lnT_all {A:List (List Int)}:∀ s,s <= A.length -> lnT A s = (A.take s).map fun l=>(l.length:Int)
 | 0,_=>rfl
 | s + 1,h=>by
  simp only[lnT]
  rw[lnT_all s (by omega),List.take_succ_eq_append_getElem (show s < A.length by omega),List.map_append,gl_of (show s < A.length by omega)]; rfl
theorem lnT_lens {p:List Int} {n:Int}:lnT (cyc p n) (cyc p n).length = lens p n:=by
 rw[lnT_all _ (Nat.le_refl _),List.take_length]; rfl
theorem c_impl_typeOfS {p:List Int} {n:Int} (hp:lo16 p) (hn:1 <= n /\ n <= 16):PSpec Tryz.prog 106 [.agg (vi .u8 p),.int .i64 n] fun v=>v = .own 2 1 (typ p n).length (vi .i64 (typ p n)):=by
 have hpl:=hp.1
 have hcl:(cyc p n).length <= 16:=by have:=(cycO_len (p:=p) n.toNat).2; unfold cyc; omega
 have htl:=typ_len (p:=p) (n:=n)
 have hty:typ p n = dsc (lnT (cyc p n) (cyc p n).length):=by rw[lnT_lens]; rfl
 refine impl_typeOf_f.f ?_
 dsimp only[impl_typeOf_F,pcal_B,pcalp_B,pcala_B,pcond_B,pgk_B,JN_B,LP_B]
 (refine bni ?_;repeat (refine bnk ?_;(try simp (disch:=first|omega|(simp only[LN];omega)) only[↓EC,EW,seval,↓reduceIte,↓ED,EE])))
 refine pcd_v (c_impl_cycles hp hn) ?_
 (refine bni ?_;repeat (refine bnk ?_;(try simp (disch:=first|omega|(simp only[LN];omega)) only[↓EC,EW,seval,↓reduceIte,↓ED,EE])))
 generalize cyc p n = A at *
 refine LPx_ofE (σ:=Nat) [1,1] 100000 [] (fun s=>[.own 2 1 s (vi .i64 (lnT A s)),.int .i64 s]) (fun s=>[]) (fun s=>s <= A.length) (fun s=>A.length - s) 0 (by simp[frameOk,names,lpz,sclp,scv,scvs,nrfs,nrf,FRB]) (Nat.zero_le _) ?_ ?_
 ·(refine bni ?_;repeat (refine bnk ?_;simp (disch:=first|omega|(simp only[LN];omega)) only[↓EC,EW,seval,↓reduceIte,↓ED,EE,CVd]))
  exact ⟨fun _=>trivial,rfl⟩
 ·intro s hs
  have hls:=lnT_len (A:=A) s
  (refine bni ?_;repeat (refine bnk ?_;simp (disch:=first|omega|(simp only[LN];omega)) only[↓EC,EW,seval,↓reduceIte,↓ED,EE,CVd,lhd]))
  (refine Split.mB (fun h=>?_) (fun h=>?_) <;> (try simp only[SD]at h))
  ·(refine bni ?_;repeat (refine bnk ?_;(try simp (disch:=first|omega|(simp only[LN];omega)) only[↓EC,EW,seval,↓reduceIte,↓ED,EE])))
   exact ⟨s + 1,rfl,by omega,by omega⟩
  ·obtain rfl:s = A.length:=by omega
   (refine bni ?_;repeat (refine bnk ?_;(try simp (disch:=first|omega|(simp only[LN];omega)) only[↓EC,EW,seval,↓reduceIte,↓ED,EE])))
   refine pcmr [100000] rfl ?_
   (refine bni ?_;repeat (refine bnk ?_;(try simp (disch:=first|omega|(simp only[LN];omega)) only[↓EC,EW,seval,↓reduceIte,↓ED,EE])))
   refine callMR_qs (c_descendingS hls (by omega)) ?_
   rintro j o k c ⟨rfl,rfl,rfl,rfl⟩ b hb
   simp at hb
   subst hb
   have hdl:(dsc (lnT A A.length)).length = A.length:=by rw[dsc_len,hls]
   (refine bni ?_;repeat (refine bnk ?_;(try simp (disch:=first|omega|(simp only[LN];omega)) only[↓EC,EW,seval,↓reduceIte,↓ED,EE])))
   rw[hty,hdl]
def ppL (n:Int) (b w:List Int):List (List Int):=[typ b n,typ w n,typ (faceP b w n) n]
theorem c_impl_passportS {n:Int} {b w:List Int} (hb:lo16 b) (hw:lo16 w) (hn:1 <= n /\ n <= 16):PSpec Tryz.prog 78 [vD n b w] fun v=>v = .own 52 1 3 (vo 2 (ppL n b w)):=by
 have hbl:=hb.1
 have hwl:=hw.1
 have hfl:lo16 (faceP b w n):=backP_lo hn
 have hfl2:=hfl.1
 refine impl_passport_f.f ?_
 unfold vD
 dsimp only[impl_passport_F,pcal_B,pcalp_B,pcala_B,pcond_B,pgk_B,JN_B,LP_B]
 (refine bni ?_;repeat (refine bnk ?_;(try simp (disch:=first|omega|(simp only[LN];omega)) only[↓EC,EW,seval,↓reduceIte,↓ED,EE])))
 refine pcd_rq (c_impl_typeOfS (p:=b) hb hn) ?_
 rintro _ rfl
 (refine bni ?_;repeat (refine bnk ?_;(try simp (disch:=first|omega|(simp only[LN];omega)) only[↓EC,EW,seval,↓reduceIte,↓ED,EE])))
 refine pcd_rq (c_impl_typeOfS (p:=w) hw hn) ?_
 rintro _ rfl
 (refine bni ?_;repeat (refine bnk ?_;(try simp (disch:=first|omega|(simp only[LN];omega)) only[↓EC,EW,seval,↓reduceIte,↓ED,EE])))
 refine pcd_v (c_impl_face hb hw hn) ?_
 (refine bni ?_;repeat (refine bnk ?_;(try simp (disch:=first|omega|(simp only[LN];omega)) only[↓EC,EW,seval,↓reduceIte,↓ED,EE])))
 refine pcd_rq (c_impl_typeOfS hfl hn) ?_
 rintro _ rfl
 (refine bni ?_;repeat (refine bnk ?_;(try simp (disch:=first|omega|(simp only[LN];omega)) only[↓EC,EW,seval,↓reduceIte,↓ED,EE])))
 rfl
end
section
set_option maxHeartbeats 4000000
end
section
set_option maxHeartbeats 4000000
def brR:List UInt8 -> Nat -> Option Nat
 | [],d=>some d
 | c :: s,d=>if c = 40 then brR s (d + 1) else if c = 41 then (match d with | 0=>none | d + 1=>brR s d) else none
theorem brR_cons {c:UInt8} {s:List UInt8} {d:Nat}:brR (c :: s) d = if c = 40 then brR s (d + 1) else if c = 41 then (match d with | 0=>none | d + 1=>brR s d) else none:=by cases d <;> rfl
theorem brR_app:∀ {s t:List UInt8} {d:Nat},brR (s ++ t) d = (brR s d).bind (brR t)
 | [],t,d=>rfl
 | c :: s,t,d=>by
  simp only[List.cons_append,brR]
  split
  ·exact brR_app
  ·split
   ·cases d with
    | zero=>rfl
    | succ d=>exact brR_app
   ·rfl
theorem brR_up {s:List UInt8} {d e k:Nat}:brR s d = some e -> brR s (d + k) = some (e + k):=by
 induction s generalizing d with
 | nil=>intro h; simp only[brR,Option.some.injEq] at h ⊢; omega
 | cons c s ih =>
  simp only[brR]
  split
  ·intro h; rw[show d + k + 1 = d + 1 + k by omega]; exact ih h
  ·split
   ·cases d with
    | zero=>intro h; cases h
    | succ d=>intro h; rw[show d + 1 + k = (d + k) + 1 by omega]; exact ih h
   ·intro h; cases h
structure Ws (s:List UInt8) (n:Nat):Prop where
 br:brR s 0 = some 0
 len:s.length = 2 * n
theorem Ws.app {s t:List UInt8} {n m:Nat} (h:Ws s n) (h':Ws t m):Ws (s ++ t) (n + m):=⟨by rw[brR_app,h.br]; exact h'.br,by rw[List.length_append,h.len,h'.len]; omega⟩
theorem Ws.wrap {s:List UInt8} {n:Nat} (h:Ws s n):Ws ([40] ++ s ++ [41]) (n + 1):=⟨by
 have h1:brR s 1 = some 1:=brR_up (k:=1) h.br
 rw[List.append_assoc,brR_app]
 show (brR (s ++ [41]) 1) = _
 rw[brR_app,h1]; rfl,by simp[h.len]; omega⟩
theorem c_spec_l05DrawWord {x:Value} {l:List Int} {a z:Int} {n:Nat} (hn:n <= 1000) (hs:okS l a):PSpecM Tryz.prog 50 [.ptr 0 0,.int .i64 n] [(0,96,1)] [srcC x l a z] fun v c =>
  ∃ s a' z',v = .str s /\ c = [srcC x l a' z'] /\ okS l a' /\ Ws s n:=by
 refine spec_l05DrawWord_f.m rfl rfl ?_
 unfold srcC
 dsimp only[spec_l05DrawWord_F,pcal_B,pcalp_B,pcala_B,pcond_B,pgk_B,JN_B,LP_B]
 ((try simp (disch:=first|omega|(simp only[LN];omega)) only[↓EC,EW,seval,↓reduceIte,↓ED,EE]); repeat (refine blkP.mk ?_; (try simp (disch:=first|omega|(simp only[LN];omega)) only[↓EC,EW,seval,↓reduceIte,↓ED,EE])))
 refine LPx_of (σ:=List UInt8 × Nat × Nat × Int × Int) 100000 [(0,96,1)] (fun s=>[.str s.1,.int .i64 s.2.1,.int .i64 s.2.2.1]) (fun s=>[srcC x l s.2.2.2.1 s.2.2.2.2])
  (fun s=>okS l s.2.2.2.1 /\ brR s.1 0 = some s.2.2.1 /\ s.1.length + 2 * s.2.1 + s.2.2.1 = 2 * n) (fun s=>2 * s.2.1 + s.2.2.1) ([],n,0,a,z) (by simp[frameOk,names,lpz,sclp,scv,scvs,nrfs,nrf,FRB]) ⟨by assumption,rfl,by simp only[List.length_nil]; omega⟩ ?_ ?_
 ·(simp (disch:=first|omega|(simp only[LN];omega)) only[↓EC,EW,seval,↓reduceIte,↓ED,EE,CVd,srcC]; repeat (refine blkP.mk ?_; simp (disch:=first|omega|(simp only[LN];omega)) only[↓EC,EW,seval,↓reduceIte,↓ED,EE,CVd,srcC]))
 ·rintro ⟨s,o,k,a,z⟩ ⟨h1,h2,h3⟩
  simp only at h1 h2 h3
  have up:brR (s ++ [40]) 0 = some (k + 1):=by rw[brR_app,h2]; rfl
  have dn:∀ j,k = j + 1 -> brR (s ++ [41]) 0 = some j:=fun j e=>by rw[brR_app,h2,e]; rfl
  (simp (disch:=first|omega|(simp only[LN];omega)) only[↓EC,EW,seval,↓reduceIte,↓ED,EE,CVd,lhd,srcC]; repeat (refine blkP.mk ?_; simp (disch:=first|omega|(simp only[LN];omega)) only[↓EC,EW,seval,↓reduceIte,↓ED,EE,CVd,lhd,srcC]))
  by_cases ho:o = 0
  ·subst ho
   by_cases hk:k = 0
   ·subst hk
    ((try simp (disch:=first|omega|(simp only[LN];omega)) only[↓EC,EW,seval,↓reduceIte,↓ED,EE]); repeat (refine blkP.mk ?_; (try simp (disch:=first|omega|(simp only[LN];omega)) only[↓EC,EW,seval,↓reduceIte,↓ED,EE])))
    exact ⟨s,a,z,rfl,rfl,h1,h2,by omega⟩
   ·obtain ⟨j,rfl⟩:∃ j,k = j + 1:=⟨k - 1,by omega⟩
    have e1:(decide ((0:Int) < ((j + 1:Nat):Int))) = true:=by simp only[decide_eq_true_eq]; omega
    ((try simp (disch:=first|omega|(simp only[LN];omega)) only[↓EC,EW,seval,↓reduceIte,↓ED,EE,e1]); repeat (refine blkP.mk ?_; (try simp (disch:=first|omega|(simp only[LN];omega)) only[↓EC,EW,seval,↓reduceIte,↓ED,EE,e1])))
    exact ⟨(s ++ [41],0,j,a,z),by simp,rfl,⟨h1,dn j rfl,by simp; omega⟩,by simp only; omega⟩
  ·have e0:(decide ((0:Int) < ((o:Nat):Int))) = true:=by simp only[decide_eq_true_eq]; omega
   ((try simp (disch:=first|omega|(simp only[LN];omega)) only[↓EC,EW,seval,↓reduceIte,↓ED,EE,e0]); repeat (refine blkP.mk ?_; (try simp (disch:=first|omega|(simp only[LN];omega)) only[↓EC,EW,seval,↓reduceIte,↓ED,EE,e0])))
   by_cases hk:k = 0
   ·subst hk
    ((try simp (disch:=first|omega|(simp only[LN];omega)) only[↓EC,EW,seval,↓reduceIte,↓ED,EE]); repeat (refine blkP.mk ?_; (try simp (disch:=first|omega|(simp only[LN];omega)) only[↓EC,EW,seval,↓reduceIte,↓ED,EE])))
    exact ⟨(s ++ [40],o - 1,1,a,z),by simp; omega,rfl,⟨h1,up,by simp; omega⟩,by simp only; omega⟩
   ·obtain ⟨j,rfl⟩:∃ j,k = j + 1:=⟨k - 1,by omega⟩
    have e1:(((j + 1:Nat):Int) == 0) = false:=by simp only[beq_eq_false_iff_ne]; omega
    ((try simp (disch:=first|omega|(simp only[LN];omega)) only[↓EC,EW,seval,↓reduceIte,↓ED,EE,e1]); repeat (refine blkP.mk ?_; (try simp (disch:=first|omega|(simp only[LN];omega)) only[↓EC,EW,seval,↓reduceIte,↓ED,EE,e1])))
    (refine pcm [0] rfl ?_; ((try simp (disch:=first|omega|(simp only[LN];omega)) only[↓EC,EW,seval,↓reduceIte,↓ED,EE]); repeat (refine blkP.mk ?_; (try simp (disch:=first|omega|(simp only[LN];omega)) only[↓EC,EW,seval,↓reduceIte,↓ED,EE]))); refine callM_d (c_spec_l01Next (by assumption) (by omega)) ?_; rintro _ _ ⟨r1,_,_,rfl,rfl,hs_,hr_⟩; ((try simp (disch:=first|omega|(simp only[LN];omega)) only[↓EC,EW,seval,↓reduceIte,↓ED,EE,srcC]); repeat (refine blkP.mk ?_; (try simp (disch:=first|omega|(simp only[LN];omega)) only[↓EC,EW,seval,↓reduceIte,↓ED,EE,srcC]))))
    rename_i a1 z1
    (refine Split.mB (fun h=>?_) (fun h=>?_) <;> (try simp only[SD]at h))
    ·((try simp (disch:=first|omega|(simp only[LN];omega)) only[↓EC,EW,seval,↓reduceIte,↓ED,EE]); repeat (refine blkP.mk ?_; (try simp (disch:=first|omega|(simp only[LN];omega)) only[↓EC,EW,seval,↓reduceIte,↓ED,EE])))
     exact ⟨(s ++ [40],o - 1,j + 2,a1,z1),by simp; omega,rfl,⟨by assumption,up,by simp; omega⟩,by simp only; omega⟩
    ·((try simp (disch:=first|omega|(simp only[LN];omega)) only[↓EC,EW,seval,↓reduceIte,↓ED,EE]); repeat (refine blkP.mk ?_; (try simp (disch:=first|omega|(simp only[LN];omega)) only[↓EC,EW,seval,↓reduceIte,↓ED,EE])))
     exact ⟨(s ++ [41],o,j,a1,z1),by simp,rfl,⟨by assumption,dn j rfl,by simp; omega⟩,by simp only; omega⟩
structure Ms (s:List UInt8) (i:Nat) (S L:List Int) (k d:Nat):Prop where
 br:brR (s.drop i) d = some 0
 cnt:2 * k = i + d
 ls:S.length = d + 1
 ll:L.length = d + 1
 sv:∀ j,1 <= j -> j <= d -> 0 <= gi S j /\ gi S j < k
 lv:∀ j,j <= d -> -1 <= gi L j /\ gi L j < k
 l0:0 < i -> 0 <= gi L 0
 le:i <= s.length
 di:d <= i
 s0:gi S 0 = -1
theorem brR_le:∀ {s:List UInt8} {d e:Nat},brR s d = some e -> d <= s.length + e
 | [],d,e,h=>by simp only[brR,Option.some.injEq] at h; simp; omega
 | c :: s,d,e,h=>by
  simp only[brR] at h
  rw[List.length_cons]
  split at h
  ·have:=brR_le h; omega
  ·split at h
   ·cases d with
    | zero=>cases h
    | succ d=>have:=brR_le h; omega
   ·cases h
theorem drop_getDB {s:List UInt8} {i:Nat} (h:i < s.length):s.drop i = s.getD i 0 :: s.drop (i + 1):=by
 rw[List.drop_eq_getElem_cons h]; simp[List.getD,h]
section
variable {s:List UInt8} {i k d:Nat} {S L:List Int}
theorem Ms.kn {n:Nat} (h:Ms s i S L k d) (hs:s.length = 2 * n):k <= n /\ d <= n:=by
 have h1:=brR_le h.br
 have h2:=h.cnt
 have h3:=h.le
 have h4:=h.di
 rw[List.length_drop] at h1
 omega
theorem Ms.open (h:Ms s i S L k d) (hi:i < s.length) (hc:s.getD i 0 = 40):Ms s (i + 1) (S ++ [(k:Int)]) (L.set d k ++ [-1]) (k + 1) (d + 1):=by
 have hb:=h.br
 rw[drop_getDB hi,brR_cons,if_pos hc] at hb
 have l1:=h.ls
 have l2:=h.ll
 refine ⟨hb,by have:=h.cnt; omega,by simp[l1],by simp[l2],fun j a c=>?_,fun j a=>?_,fun _=>?_,hi,by have:=h.di; omega,by rw[gi_app,if_pos (by omega)]; exact h.s0⟩
 ·rw[gi_app]
  split
  ·have:=h.sv j a (by omega); omega
  ·rw[show j - S.length = 0 by omega]; simp[gi]; omega
 ·rw[gi_app,List.length_set]
  split
  ·rw[gi_set]
   split
   ·omega
   ·have:=h.lv j (by omega); omega
  ·rw[show j - L.length = 0 by omega]; simp[gi]; omega
 ·rw[gi_app,List.length_set,if_pos (by omega),gi_set]
  split
  ·omega
  ·by_cases h0:0 < i
   ·exact h.l0 h0
   ·have:=h.di
    rename_i hh
    exact absurd ⟨by omega,by omega⟩ hh
theorem Ms.close (h:Ms s i S L k d) (hi:i < s.length) (hc:s.getD i 0 = 41):1 <= d /\ Ms s (i + 1) (S.take d) (L.take d) k (d - 1):=by
 have hb:=h.br
 rw[drop_getDB hi,brR_cons,if_neg (by rw[hc]; decide),if_pos hc] at hb
 cases d with
 | zero=>cases hb
 | succ d =>
  have l1:=h.ls
  have l2:=h.ll
  have tk:∀ {A:List Int} {j:Nat},j <= d -> gi (A.take (d + 1)) j = gi A j:=fun {A} {j} hj=>by simp[gi,List.getD,List.getElem?_take,show j < d + 1 by omega]
  refine ⟨by omega,hb,by have:=h.cnt; omega,by simp[l1],by simp[l2],fun j a c=>?_,fun j a=>?_,fun _=>?_,hi,by have:=h.di; omega,by rw[tk (by omega)]; exact h.s0⟩
  ·rw[tk (by omega)]; have:=h.sv j a (by omega); omega
  ·rw[tk (by omega)]; have:=h.lv j (by omega); omega
  ·rw[tk (by omega)]
   exact h.l0 (by have:=h.di; omega)
theorem Ms.char (h:Ms s i S L k d) (hi:i < s.length):s.getD i 0 = 40 ∨ s.getD i 0 = 41:=by
 have hb:=h.br
 rw[drop_getDB hi,brR_cons] at hb
 split at hb
 ·exact .inl (by assumption)
 ·split at hb
  ·exact .inr (by assumption)
  ·cases hb
end
def lo32 (w:List Int):Prop:=w.length = 32 /\ ∀ i,i < 32 -> 0 <= gi w i /\ gi w i < 16
theorem lo32_set {w:List Int} (h:lo32 w) {i:Nat} {y:Int} (hy:0 <= y /\ y < 16):lo32 (w.set i y):=⟨by simp[h.1],fun j hj=>by
 rw[gi_set]; split
 ·exact hy
 ·exact h.2 j hj⟩
theorem lo32_vD {n:Int} {w:List Int} (h:lo32 w):∃ p q,V.agg (.int .i64 n :: vi .u8 w) = vD n p q /\ lo16 p /\ lo16 q:=by
 have h1:=h.1
 refine ⟨w.take 16,w.drop 16,by unfold vD; rw[List.take_append_drop],⟨by simp[h1],fun i hi=>?_⟩,⟨by simp[h1],fun i hi=>?_⟩⟩
 ·have e:gi (w.take 16) i = gi w i:=by simp only[gi,List.getD,List.getElem?_take,if_pos hi]
  rw[e]; exact h.2 i (by omega)
 ·have e:gi (w.drop 16) i = gi w (16 + i):=by simp only[gi,List.getD,List.getElem?_drop]
  rw[e]; exact h.2 _ (by omega)
theorem c_spec_l05MadeN {s:List UInt8} {n:Nat} (hs:Ws s n) (hn:1 <= n /\ n <= 16):PSpec Tryz.prog 56 [.str s] fun v=>∃ p q,v = vD n p q /\ lo16 p /\ lo16 q:=by
 have hlen:=hs.len
 refine spec_l05Made_f.f ?_
 dsimp only[spec_l05Made_F,pcal_B,pcalp_B,pcala_B,pcond_B,pgk_B,JN_B,LP_B]
 (refine bni ?_;repeat (refine bnk ?_;(try simp (disch:=first|omega|(simp only[LN];omega)) only[↓EC,EW,seval,↓reduceIte,↓ED,EE])))
 refine LPx_of (σ:=(List Int × List Int) × (Nat × Int × Nat × Nat) × List Int) 100000 [(66,28,1),(71,28,1)]
  (fun s=>[.own 2 1 s.1.1.length (vi .i64 s.1.1),.own 2 1 s.1.2.length (vi .i64 s.1.2),.int .i64 s.2.1.1,.int .i64 s.2.1.2.1,.int .i64 s.2.1.2.2.1])
  (fun s=>[.int .i64 0 :: vi .u8 (List.replicate 32 0),.int .i64 n :: vi .u8 s.2.2])
  (fun t=>Ms s t.2.1.2.2.1 t.1.1 t.1.2 t.2.1.1 t.2.1.2.2.2 /\ (0 <= t.2.1.2.1 /\ t.2.1.2.1 < 16) /\ lo32 t.2.2) (fun t=>s.length - t.2.1.2.2.1) (([-1],[-1]),(0,0,0,0),List.replicate 32 0) (by simp[frameOk,names,lpz,sclp,scv,scvs,nrfs,nrf,FRB]) ?_ ?_ ?_
 ·refine ⟨⟨hs.br,rfl,rfl,rfl,fun j h1 h2=>by simp only at h2; omega,fun j h1=>?_,fun h=>absurd h (Nat.lt_irrefl 0),Nat.zero_le _,Nat.le_refl _,rfl⟩,by simp only; omega,⟨by simp,fun i hi=>by rw[gi_rep]; split <;> omega⟩⟩
  simp only at h1
  rw[show j = 0 by omega]; simp[gi]
 ·have e1:IntKind.i64.wrap ((s.length:Int).tdiv 2) = n:=by
   rw[hlen,show ((2 * n:Nat):Int) = 2 * (n:Int) by omega,Int.mul_tdiv_cancel_left _ (by decide)]
   simp[IntKind.wrap,IntKind.signed,IntKind.bits]; omega
  (refine bni ?_;repeat (refine bnk ?_;simp (disch:=first|omega|(simp only[LN];omega)) only[↓EC,EW,seval,↓reduceIte,↓ED,EE,CVd,e1]))
  rfl
 ·rintro ⟨⟨S,L⟩,⟨k,f,i,d⟩,w⟩ ⟨h1,h2,h3⟩
  simp only at h1 h2 h3
  have hwl:=h3.1
  have ls:=h1.ls
  have ll:=h1.ll
  have cn:=h1.cnt
  have kn:=h1.kn hlen
  have hle:=h1.le
  have eS:((S.length:Int) - 1).toNat = d:=by omega
  have lvd:=h1.lv d (Nat.le_refl _)
  have svd:1 <= d -> 0 <= gi S d /\ gi S d < k:=fun q=>h1.sv d q (Nat.le_refl _)
  have sv0:d = 0 -> gi S d = -1:=fun q=>by subst q; exact h1.s0
  (refine bni ?_;repeat (refine bnk ?_;simp (disch:=first|omega|(simp only[LN];omega)) only[↓EC,EW,seval,↓reduceIte,↓ED,EE,CVd,lhd]))
  (refine Split.mB (fun h=>?_) (fun h=>?_) <;> (try simp only[SD]at h))
  ·have hi:i < s.length:=by omega
   (refine bni ?_;repeat (refine bnk ?_;(try simp (disch:=first|omega|(simp only[LN];omega)) only[↓EC,EW,seval,↓reduceIte,↓ED,EE])))
   refine JNx_un ?_
   (refine bni ?_;repeat (refine bnk ?_;(try simp (disch:=first|omega|(simp only[LN];omega)) only[↓EC,EW,seval,↓reduceIte,↓ED,EE])))
   (refine Split.mB (fun h=>?_) (fun h=>?_) <;> (try simp only[SD]at h))
   ·have hc:s.getD i 0 = 40:=by
     have h5:(s.getD i 0).toNat = 40:=by omega
     exact UInt8.toNat_inj.1 h5
    have hO:=h1.open hi hc
    have hk1:=hO.kn hlen
    (refine bni ?_;repeat (refine bnk ?_;(try simp (disch:=first|omega|(simp only[LN];omega)) only[↓EC,EW,seval,↓reduceIte,↓ED,EE,eS])))
    refine JNx_un ?_
    (refine bni ?_;repeat (refine bnk ?_;(try simp (disch:=first|omega|(simp only[LN];omega)) only[↓EC,EW,seval,↓reduceIte,↓ED,EE,eS])))
    (refine Split.mB (fun h=>?_) (fun h=>?_) <;> (try simp only[SD]at h))
    ·(refine bni ?_;repeat (refine bnk ?_;(try simp (disch:=first|omega|(simp only[LN];omega)) only[↓EC,EW,seval,↓reduceIte,↓ED,EE,eS])))
     refine JNx_un ?_
     (refine bni ?_;repeat (refine bnk ?_;(try simp (disch:=first|omega|(simp only[LN];omega)) only[↓EC,EW,seval,↓reduceIte,↓ED,EE,eS])))
     (refine Split.mB (fun h=>?_) (fun h=>?_) <;> (try simp only[SD]at h))
     ·(refine bni ?_;repeat (refine bnk ?_;(try simp (disch:=first|omega|(simp only[LN];omega)) only[↓EC,EW,seval,↓reduceIte,↓ED,EE,eS])))
      exact ⟨((S ++ [(k:Int)],L.set d k ++ [-1]),(k + 1,k,i + 1,d + 1),w),by simp,rfl,⟨hO,by simp only; omega,h3⟩,by simp only; omega⟩
     ·have:=svd (by
       refine Nat.pos_of_ne_zero fun q=>?_
       have:=sv0 q; omega)
      (refine bni ?_;repeat (refine bnk ?_;(try simp (disch:=first|omega|(simp only[LN];omega)) only[↓EC,EW,seval,↓reduceIte,↓ED,EE,eS])))
      (refine Split.mB (fun h=>?_) (fun h=>?_) <;> (try simp only[SD]at h))
      ·(refine bni ?_;repeat (refine bnk ?_;(try simp (disch:=first|omega|(simp only[LN];omega)) only[↓EC,EW,seval,↓reduceIte,↓ED,EE,eS])))
       exact ⟨((S ++ [(k:Int)],L.set d k ++ [-1]),(k + 1,f,i + 1,d + 1),w.set (gi S d).toNat k),by simp,rfl,⟨hO,h2,lo32_set h3 (by omega)⟩,by simp only; omega⟩
      ·(refine bni ?_;repeat (refine bnk ?_;(try simp (disch:=first|omega|(simp only[LN];omega)) only[↓EC,EW,seval,↓reduceIte,↓ED,EE,eS])))
       exact ⟨((S ++ [(k:Int)],L.set d k ++ [-1]),(k + 1,f,i + 1,d + 1),w.set (16 + (gi S d).toNat) k),by simp,rfl,⟨hO,h2,lo32_set h3 (by omega)⟩,by simp only; omega⟩
    ·(refine bni ?_;repeat (refine bnk ?_;(try simp (disch:=first|omega|(simp only[LN];omega)) only[↓EC,EW,seval,↓reduceIte,↓ED,EE,eS])))
     refine JNx_un ?_
     (refine bni ?_;repeat (refine bnk ?_;(try simp (disch:=first|omega|(simp only[LN];omega)) only[↓EC,EW,seval,↓reduceIte,↓ED,EE,eS])))
     (refine Split.mB (fun h=>?_) (fun h=>?_) <;> (try simp only[SD]at h))
     ·omega
     (refine bni ?_;repeat (refine bnk ?_;(try simp (disch:=first|omega|(simp only[LN];omega)) only[↓EC,EW,seval,↓reduceIte,↓ED,EE,eS])))
     (refine Split.mB (fun h=>?_) (fun h=>?_) <;> (try simp only[SD]at h))
     ·(refine bni ?_;repeat (refine bnk ?_;(try simp (disch:=first|omega|(simp only[LN];omega)) only[↓EC,EW,seval,↓reduceIte,↓ED,EE,eS])))
      exact ⟨((S ++ [(k:Int)],L.set d k ++ [-1]),(k + 1,f,i + 1,d + 1),w.set (gi L d).toNat k),by simp,rfl,⟨hO,h2,lo32_set h3 (by omega)⟩,by simp only; omega⟩
     ·(refine bni ?_;repeat (refine bnk ?_;(try simp (disch:=first|omega|(simp only[LN];omega)) only[↓EC,EW,seval,↓reduceIte,↓ED,EE,eS])))
      exact ⟨((S ++ [(k:Int)],L.set d k ++ [-1]),(k + 1,f,i + 1,d + 1),w.set (16 + (gi L d).toNat) k),by simp,rfl,⟨hO,h2,lo32_set h3 (by omega)⟩,by simp only; omega⟩
   ·have hc:s.getD i 0 = 41:=by
     rcases h1.char hi with q | q
     ·rw[q] at h; exact absurd rfl h
     ·exact q
    obtain ⟨hd1,hC⟩:=h1.close hi hc
    have svd':=svd hd1
    have t1:(S.take d).length = d:=by simp; omega
    have t2:(L.take d).length = d:=by simp; omega
    (refine bni ?_;repeat (refine bnk ?_;(try simp (disch:=first|omega|(simp only[LN];omega)) only[↓EC,EW,seval,↓reduceIte,↓ED,EE,eS])))
    refine JNx_un ?_
    (refine bni ?_;repeat (refine bnk ?_;(try simp (disch:=first|omega|(simp only[LN];omega)) only[↓EC,EW,seval,↓reduceIte,↓ED,EE,eS])))
    (refine Split.mB (fun h=>?_) (fun h=>?_) <;> (try simp only[SD]at h))
    ·(refine bni ?_;repeat (refine bnk ?_;(try simp (disch:=first|omega|(simp only[LN];omega)) only[↓EC,EW,seval,↓reduceIte,↓ED,EE,eS])))
     refine JNx_un ?_
     (refine bni ?_;repeat (refine bnk ?_;(try simp (disch:=first|omega|(simp only[LN];omega)) only[↓EC,EW,seval,↓reduceIte,↓ED,EE,eS])))
     (refine Split.mB (fun h=>?_) (fun h=>?_) <;> (try simp only[SD]at h))
     ·(refine bni ?_;repeat (refine bnk ?_;(try simp (disch:=first|omega|(simp only[LN];omega)) only[↓EC,EW,seval,↓reduceIte,↓ED,EE,eS])))
      exact ⟨((S.take d,L.take d),(k,f,i + 1,d - 1),w.set (gi S d).toNat (gi S d)),by simp; omega,rfl,⟨hC,h2,lo32_set h3 (by omega)⟩,by simp only; omega⟩
     ·(refine bni ?_;repeat (refine bnk ?_;(try simp (disch:=first|omega|(simp only[LN];omega)) only[↓EC,EW,seval,↓reduceIte,↓ED,EE,eS])))
      exact ⟨((S.take d,L.take d),(k,f,i + 1,d - 1),w.set (16 + (gi S d).toNat) (gi S d)),by simp; omega,rfl,⟨hC,h2,lo32_set h3 (by omega)⟩,by simp only; omega⟩
    ·(refine bni ?_;repeat (refine bnk ?_;(try simp (disch:=first|omega|(simp only[LN];omega)) only[↓EC,EW,seval,↓reduceIte,↓ED,EE,eS])))
     refine JNx_un ?_
     (refine bni ?_;repeat (refine bnk ?_;(try simp (disch:=first|omega|(simp only[LN];omega)) only[↓EC,EW,seval,↓reduceIte,↓ED,EE,eS])))
     (refine Split.mB (fun h=>?_) (fun h=>?_) <;> (try simp only[SD]at h))
     ·(refine bni ?_;repeat (refine bnk ?_;(try simp (disch:=first|omega|(simp only[LN];omega)) only[↓EC,EW,seval,↓reduceIte,↓ED,EE,eS])))
      exact ⟨((S.take d,L.take d),(k,f,i + 1,d - 1),w.set (gi L d).toNat (gi S d)),by simp; omega,rfl,⟨hC,h2,lo32_set h3 (by omega)⟩,by simp only; omega⟩
     ·(refine bni ?_;repeat (refine bnk ?_;(try simp (disch:=first|omega|(simp only[LN];omega)) only[↓EC,EW,seval,↓reduceIte,↓ED,EE,eS])))
      exact ⟨((S.take d,L.take d),(k,f,i + 1,d - 1),w.set (16 + (gi L d).toNat) (gi S d)),by simp; omega,rfl,⟨hC,h2,lo32_set h3 (by omega)⟩,by simp only; omega⟩
  ·have l00:=h1.l0 (by omega)
   have l01:=h1.lv 0 (Nat.zero_le _)
   (refine bni ?_;repeat (refine bnk ?_;(try simp (disch:=first|omega|(simp only[LN];omega)) only[↓EC,EW,seval,↓reduceIte,↓ED,EE])))
   exact lo32_vD (lo32_set h3 h2)
theorem c_spec_l05Moved {n:Int} {b w p:List Int} (hb:lo16 b) (hw:lo16 w) (hp:lo16 p) (hn:1 <= n /\ n <= 16):PSpec Tryz.prog 114 [vD n b w,.agg (vi .u8 p)] fun v=>v = vD n (rnT p b n.toNat) (rnT p w n.toNat):=by
 have hl:=hb.1
 have hk:=hw.1
 have hpl:=hp.1
 refine spec_l05Moved_f.f ?_
 unfold vD
 simp (disch:=first|omega|(simp only[LN];omega)) only[↓EC,EW,seval,↓reduceIte,spec_l05Moved_F,hl,hk,hpl]
 refine LP_of (σ:=Nat) 100000 [(66,28,1),(67,26,1),(68,28,1),(69,28,1)] (fun s=>[.int .i64 s])
  (fun s=>[.int .i64 n :: vi .u8 (b ++ w),vi .u8 p,.int .i64 0 :: vi .u8 (List.replicate 32 0),.int .i64 n :: vi .u8 (rnT p b s ++ rnT p w s)])
  (fun s=>(s:Int) <= n) (fun s=>(n - s).toNat) 0 (by simp[frameOk,names,lpz,sclp,scv,scvs,nrfs,nrf,FRB]) (by simp only[Int.natCast_zero]; omega) ?_ ?_
 ·simp (disch:=first|omega|(simp only[LN];omega)) only[↓EC,EW,seval,↓reduceIte,CVd]
  rfl
 ·rintro s h1
  have q1:=rnT_len (p:=p) (b:=b) s
  have q2:=rnT_len (p:=p) (b:=w) s
  simp (disch:=first|omega|(simp only[LN];omega)) only[↓EC,EW,seval,↓reduceIte,CVd,lhd]
  (refine Split.mk (fun h=>?_) (fun h=>?_) <;> (try simp only[SD]at h))
  ·have a1:=hp.2 s (by omega)
   have a2:=hb.2 s (by omega)
   have a3:=hw.2 s (by omega)
   have a4:=hp.2 (gi b s).toNat (by omega)
   have a5:=hp.2 (gi w s).toNat (by omega)
   (try simp (disch:=first|omega|(simp only[LN];omega)) only[↓EC,EW,seval,↓reduceIte,hl,hk,hpl,q1,q2])
   exact ⟨s + 1,rfl,rfl,by omega,by omega⟩
  ·have:s = n.toNat:=by omega
   subst this
   (try simp (disch:=first|omega|(simp only[LN];omega)) only[↓EC,EW,seval,↓reduceIte,hl,hk,q1,q2])
theorem c_spec_l05Draw {x:Value} {l:List Int} {a z:Int} (hs:okS l a):PSpecM Tryz.prog 96 [.ptr 0 0] [(0,96,1)] [srcC x l a z] fun v c =>
  ∃ n p q a' z',v = vD n p q /\ c = [srcC x l a' z'] /\ okS l a' /\ lo16 p /\ lo16 q /\ 1 <= n /\ n <= 16:=by
 refine spec_l05Draw_f.m rfl rfl ?_
 unfold srcC
 dsimp only[spec_l05Draw_F,pcal_B,pcalp_B,pcala_B,pcond_B,pgk_B,JN_B,LP_B]
 (refine bni ?_;repeat (refine bnk ?_;(try simp (disch:=first|omega|(simp only[LN];omega)) only[↓EC,EW,seval,↓reduceIte,↓ED,EE])))
 (refine pcm [0] rfl ?_; (refine bni ?_;repeat (refine bnk ?_;(try simp (disch:=first|omega|(simp only[LN];omega)) only[↓EC,EW,seval,↓reduceIte,↓ED,EE]))); refine callM_d (c_spec_l01Pick (m:=[5,9,16]) (by assumption) (by simp) (by simp)) ?_; rintro _ _ ⟨y1,_,_,hy_,rfl,rfl,hs_⟩; simp only[List.mem_cons,List.not_mem_nil,or_false] at hy_; (refine bni ?_;repeat (refine bnk ?_;(try simp (disch:=first|omega|(simp only[LN];omega)) only[↓EC,EW,seval,↓reduceIte,↓ED,EE,srcC]))))
 (refine pcm [0] rfl ?_; (refine bni ?_;repeat (refine bnk ?_;(try simp (disch:=first|omega|(simp only[LN];omega)) only[↓EC,EW,seval,↓reduceIte,↓ED,EE]))); refine callM_d (c_spec_l01Next (by assumption) (by omega)) ?_; rintro _ _ ⟨r1,_,_,rfl,rfl,hs_,hr_⟩; (refine bni ?_;repeat (refine bnk ?_;(try simp (disch:=first|omega|(simp only[LN];omega)) only[↓EC,EW,seval,↓reduceIte,↓ED,EE,srcC]))))
 rename_i a1 z1
 obtain ⟨n,hnn⟩:∃ n:Nat,1 + r1 = n:=⟨(1 + r1).toNat,by omega⟩
 have hn:1 <= n /\ n <= 16:=by omega
 rw[hnn]
 (refine pcm [0] rfl ?_; (refine bni ?_;repeat (refine bnk ?_;(try simp (disch:=first|omega|(simp only[LN];omega)) only[↓EC,EW,seval,↓reduceIte,↓ED,EE]))); refine callM_d (c_spec_l05DrawWord (n:=n) (by omega) (by assumption)) ?_; rintro _ _ ⟨s,a2,z2,rfl,rfl,hs_,hw⟩; (refine bni ?_;repeat (refine bnk ?_;(try simp (disch:=first|omega|(simp only[LN];omega)) only[↓EC,EW,seval,↓reduceIte,↓ED,EE,srcC]))))
 refine pcd_r (c_spec_l05MadeN hw hn) ?_
 rintro _ ⟨p,q,rfl,hp,hq⟩
 have hpl:=hp.1
 have hql:=hq.1
 (refine bni ?_;repeat (refine bnk ?_;(try simp (disch:=first|omega|(simp only[LN];omega)) only[↓EC,EW,seval,↓reduceIte,↓ED,EE,vD])))
 (refine pcm [0] rfl ?_; (refine bni ?_;repeat (refine bnk ?_;(try simp (disch:=first|omega|(simp only[LN];omega)) only[↓EC,EW,seval,↓reduceIte,↓ED,EE]))); refine callM_d (c_spec_l01Next (by assumption) (by omega)) ?_; rintro _ _ ⟨r2,_,_,rfl,rfl,hs_,hr_⟩; (refine bni ?_;repeat (refine bnk ?_;(try simp (disch:=first|omega|(simp only[LN];omega)) only[↓EC,EW,seval,↓reduceIte,↓ED,EE,srcC]))))
 (refine Split.mB (fun h=>?_) (fun h=>?_) <;> (try simp only[SD]at h))
 ·(refine bni ?_;repeat (refine bnk ?_;(try simp (disch:=first|omega|(simp only[LN];omega)) only[↓EC,EW,seval,↓reduceIte,↓ED,EE])))
  (refine pcma [0] rfl ?_; (refine bni ?_;repeat (refine bnk ?_;(try simp (disch:=first|omega|(simp only[LN];omega)) only[↓EC,EW,seval,↓reduceIte,↓ED,EE]))); refine callM_d (c_spec_l01DrawPlaces (n:=n) (by omega) (by assumption)) ?_; rintro _ _ ⟨o,a3,z3,rfl,rfl,hs_,ho⟩; (refine bni ?_;repeat (refine bnk ?_;(try simp (disch:=first|omega|(simp only[LN];omega)) only[↓EC,EW,seval,↓reduceIte,↓ED,EE,srcC]))))
  have hol:=ho.1
  have lb:=rnT_lo ho hp n (by omega)
  have lw:=rnT_lo ho hq n (by omega)
  have q1:=lb.1
  have q2:=lw.1
  have k1:=c_spec_l05Moved (n:=n) hp hq ho (by omega)
  unfold vD at k1
  rw[Int.toNat_natCast] at k1
  (refine bni ?_;repeat (refine bnk ?_;(try simp (disch:=first|omega|(simp only[LN];omega)) only[↓EC,EW,seval,↓reduceIte,↓ED,EE])))
  refine pcd_v k1 ?_
  (refine bni ?_;repeat (refine bnk ?_;(try simp (disch:=first|omega|(simp only[LN];omega)) only[↓EC,EW,seval,↓reduceIte,↓ED,EE])))
  exact ⟨n,_,_,_,_,rfl,rfl,by assumption,lb,lw,by omega,by omega⟩
 ·(refine bni ?_;repeat (refine bnk ?_;(try simp (disch:=first|omega|(simp only[LN];omega)) only[↓EC,EW,seval,↓reduceIte,↓ED,EE])))
  (refine Split.mB (fun h=>?_) (fun h=>?_) <;> (try simp only[SD]at h))
  ·(refine bni ?_;repeat (refine bnk ?_;(try simp (disch:=first|omega|(simp only[LN];omega)) only[↓EC,EW,seval,↓reduceIte,↓ED,EE])))
   (refine pcm [0] rfl ?_; (refine bni ?_;repeat (refine bnk ?_;(try simp (disch:=first|omega|(simp only[LN];omega)) only[↓EC,EW,seval,↓reduceIte,↓ED,EE]))); refine callM_d (c_spec_l01Next (by assumption) (by omega)) ?_; rintro _ _ ⟨r3,_,_,rfl,rfl,hs_,hr_⟩; (refine bni ?_;repeat (refine bnk ?_;(try simp (disch:=first|omega|(simp only[LN];omega)) only[↓EC,EW,seval,↓reduceIte,↓ED,EE,srcC]))))
   (refine pcm [0] rfl ?_; (refine bni ?_;repeat (refine bnk ?_;(try simp (disch:=first|omega|(simp only[LN];omega)) only[↓EC,EW,seval,↓reduceIte,↓ED,EE]))); refine callM_d (c_spec_l01Next (by assumption) (by omega)) ?_; rintro _ _ ⟨r4,_,_,rfl,rfl,hs_,hr_⟩; (refine bni ?_;repeat (refine bnk ?_;(try simp (disch:=first|omega|(simp only[LN];omega)) only[↓EC,EW,seval,↓reduceIte,↓ED,EE,srcC]))))
   obtain ⟨m,hm⟩:∃ m:Nat,1 + r4 = m:=⟨(1 + r4).toNat,by omega⟩
   rw[hm]
   (refine pcm [0] rfl ?_; (refine bni ?_;repeat (refine bnk ?_;(try simp (disch:=first|omega|(simp only[LN];omega)) only[↓EC,EW,seval,↓reduceIte,↓ED,EE]))); refine callM_d (c_spec_l05DrawWord (n:=m) (by omega) (by assumption)) ?_; rintro _ _ ⟨t,a5,z5,rfl,rfl,hs_,ht⟩; (refine bni ?_;repeat (refine bnk ?_;(try simp (disch:=first|omega|(simp only[LN];omega)) only[↓EC,EW,seval,↓reduceIte,↓ED,EE,srcC]))))
   have htl:=ht.len
   have hK:1 <= 1 + r3 /\ 1 + r3 <= 3:=by omega
   obtain ⟨K,hK2⟩:∃ K:Nat,1 + r3 = (K + 1:Nat):=⟨r3.toNat,by omega⟩
   rw[hK2]
   have hmK:m + m * K <= 15:=by
    have:=Nat.mul_le_mul (show m <= 5 by omega) (show K <= 2 by omega)
    omega
   refine LPx_of (σ:=List UInt8 × Nat × Nat) 100000 [(0,96,1),(66,28,1)] (fun s=>[.int .i64 (s.2.1 + 1:Nat),.str s.1]) (fun s=>[srcC x l a5 z5,.int .i64 0 :: vi .u8 (List.replicate 32 0)])
    (fun s=>Ws s.1 s.2.2 /\ s.2.2 + m * s.2.1 <= 15 /\ 1 <= s.2.2 /\ s.2.1 <= 2) (fun s=>s.2.1) (t,K,m) (by simp[frameOk,names,lpz,sclp,scv,scvs,nrfs,nrf,FRB]) ⟨ht,hmK,by simp only; omega,by simp only; omega⟩ ?_ ?_
   ·(refine bni ?_;repeat (refine bnk ?_;simp (disch:=first|omega|(simp only[LN];omega)) only[↓EC,EW,seval,↓reduceIte,↓ED,EE,CVd,srcC]))
   ·rintro ⟨t',k,e⟩ ⟨g1,g2,g3,g4⟩
    simp only at g1 g2 g3 g4
    have g5:=g1.len
    have he:e <= 15:=Nat.le_trans (Nat.le_add_right _ _) g2
    (refine bni ?_;repeat (refine bnk ?_;simp (disch:=first|omega|(simp only[LN];omega)) only[↓EC,EW,seval,↓reduceIte,↓ED,EE,CVd,lhd,srcC]))
    (refine Split.mB (fun h=>?_) (fun h=>?_) <;> (try simp only[SD]at h))
    ·obtain ⟨k,rfl⟩:∃ k',k = k' + 1:=⟨k - 1,by omega⟩
     (refine bni ?_;repeat (refine bnk ?_;(try simp (disch:=first|omega|(simp only[LN];omega)) only[↓EC,EW,seval,↓reduceIte,↓ED,EE])))
     rw[Nat.mul_succ] at g2
     exact ⟨(t' ++ t,k,e + m),by simp,⟨g1.app ht,by simp only; omega,by simp only; omega,by simp only; omega⟩,by simp only; omega⟩
    ·(refine bni ?_;repeat (refine bnk ?_;(try simp (disch:=first|omega|(simp only[LN];omega)) only[↓EC,EW,seval,↓reduceIte,↓ED,EE])))
     refine pcd_r (c_spec_l05MadeN g1 (by omega)) ?_
     rintro _ ⟨p',q',rfl,hp',hq'⟩
     have hpl':=hp'.1
     have hql':=hq'.1
     (refine bni ?_;repeat (refine bnk ?_;(try simp (disch:=first|omega|(simp only[LN];omega)) only[↓EC,EW,seval,↓reduceIte,↓ED,EE,vD])))
     exact ⟨e,p',q',_,_,rfl,rfl,by assumption,hp',hq',by omega,by omega⟩
  ·(refine bni ?_;repeat (refine bnk ?_;(try simp (disch:=first|omega|(simp only[LN];omega)) only[↓EC,EW,seval,↓reduceIte,↓ED,EE])))
   (refine Split.mB (fun h=>?_) (fun h=>?_) <;> (try simp only[SD]at h))
   ·(refine bni ?_;repeat (refine bnk ?_;(try simp (disch:=first|omega|(simp only[LN];omega)) only[↓EC,EW,seval,↓reduceIte,↓ED,EE])))
    (refine pcm [0] rfl ?_; (refine bni ?_;repeat (refine bnk ?_;(try simp (disch:=first|omega|(simp only[LN];omega)) only[↓EC,EW,seval,↓reduceIte,↓ED,EE]))); refine callM_d (c_spec_l01Next (by assumption) (by omega)) ?_; rintro _ _ ⟨r3,_,_,rfl,rfl,hs_,hr_⟩; (refine bni ?_;repeat (refine bnk ?_;(try simp (disch:=first|omega|(simp only[LN];omega)) only[↓EC,EW,seval,↓reduceIte,↓ED,EE,srcC]))))
    obtain ⟨m,hm⟩:∃ m:Nat,1 + r3 = m:=⟨(1 + r3).toNat,by omega⟩
    rw[hm]
    (refine pcm [0] rfl ?_; (refine bni ?_;repeat (refine bnk ?_;(try simp (disch:=first|omega|(simp only[LN];omega)) only[↓EC,EW,seval,↓reduceIte,↓ED,EE]))); refine callM_d (c_spec_l05DrawWord (n:=m) (by omega) (by assumption)) ?_; rintro _ _ ⟨t,a5,z5,rfl,rfl,hs_,ht⟩; (refine bni ?_;repeat (refine bnk ?_;(try simp (disch:=first|omega|(simp only[LN];omega)) only[↓EC,EW,seval,↓reduceIte,↓ED,EE,srcC]))))
    have htl:=ht.len
    have hw2:Ws (40 :: (t ++ [41])) (m + 1):=ht.wrap
    refine ⟨by omega,by omega,?_⟩
    refine pcd_r (c_spec_l05MadeN hw2 (by omega)) ?_
    rintro _ ⟨p',q',rfl,hp',hq'⟩
    have hpl':=hp'.1
    have hql':=hq'.1
    have k0:=c_spec_l01Same (n:=n) (by omega)
    have ho:lo16 (putL sameF ((n:Int)).toNat):=sameP_lo (by omega)
    (refine bni ?_;repeat (refine bnk ?_;(try simp (disch:=first|omega|(simp only[LN];omega)) only[↓EC,EW,seval,↓reduceIte,↓ED,EE,vD])))
    refine pcd_v k0 ?_
    clear k0
    generalize putL sameF ((n:Int)).toNat = o at *
    have hol:=ho.1
    have lb:=rnT_lo ho hp' (m + 1) (by omega)
    have lw:=rnT_lo ho hq' (m + 1) (by omega)
    have q1:=lb.1
    have q2:=lw.1
    have k1:=c_spec_l05Moved (n:=((m + 1:Nat):Int)) hp' hq' ho (by omega)
    unfold vD at k1
    rw[Int.toNat_natCast (m + 1)] at k1
    (refine bni ?_;repeat (refine bnk ?_;(try simp (disch:=first|omega|(simp only[LN];omega)) only[↓EC,EW,seval,↓reduceIte,↓ED,EE])))
    refine pcd_v k1 ?_
    (refine bni ?_;repeat (refine bnk ?_;(try simp (disch:=first|omega|(simp only[LN];omega)) only[↓EC,EW,seval,↓reduceIte,↓ED,EE])))
    exact ⟨((m + 1:Nat):Int),_,_,_,_,rfl,rfl,by assumption,lb,lw,by omega,by omega⟩
   ·(refine bni ?_;repeat (refine bnk ?_;(try simp (disch:=first|omega|(simp only[LN];omega)) only[↓EC,EW,seval,↓reduceIte,↓ED,EE])))
    exact ⟨n,p,q,_,_,rfl,rfl,by assumption,hp,hq,by omega,by omega⟩
theorem c_spec_l05Spoil {x:Value} {l:List Int} {a z:Int} (hs:okS l a):PSpecM Tryz.prog 63 [.ptr 0 0] [(0,96,1)] [srcC x l a z] fun v c =>
  ∃ n p q a' z',v = vD n p q /\ c = [srcC x l a' z'] /\ okS l a' /\ okP p /\ okP q /\ -1 <= n /\ n <= 17:=by
 refine spec_l05Spoil_f.m rfl rfl ?_
 unfold srcC
 dsimp only[spec_l05Spoil_F,pcal_B,pcalp_B,pcala_B,pcond_B,pgk_B,JN_B,LP_B]
 (refine bni ?_;repeat (refine bnk ?_;(try simp (disch:=first|omega|(simp only[LN];omega)) only[↓EC,EW,seval,↓reduceIte,↓ED,EE])))
 (refine pcm [0] rfl ?_; (refine bni ?_;repeat (refine bnk ?_;(try simp (disch:=first|omega|(simp only[LN];omega)) only[↓EC,EW,seval,↓reduceIte,↓ED,EE]))); refine callM_d (c_spec_l01Next (by assumption) (by omega)) ?_; rintro _ _ ⟨r1,_,_,rfl,rfl,hs_,hr_⟩; (refine bni ?_;repeat (refine bnk ?_;(try simp (disch:=first|omega|(simp only[LN];omega)) only[↓EC,EW,seval,↓reduceIte,↓ED,EE,srcC]))))
 (refine Split.mB (fun h=>?_) (fun h=>?_) <;> (try simp only[SD]at h))
 ·(refine bni ?_;repeat (refine bnk ?_;(try simp (disch:=first|omega|(simp only[LN];omega)) only[↓EC,EW,seval,↓reduceIte,↓ED,EE])))
  (refine pcm [0] rfl ?_; (refine bni ?_;repeat (refine bnk ?_;(try simp (disch:=first|omega|(simp only[LN];omega)) only[↓EC,EW,seval,↓reduceIte,↓ED,EE]))); refine callM_d (c_spec_l01Spoil (m:=10) (by omega) (by assumption)) ?_; rintro _ _ ⟨n,p,q,a1,z1,rfl,rfl,hs_,hp,hq,hn,hnm⟩; (refine bni ?_;repeat (refine bnk ?_;(try simp (disch:=first|omega|(simp only[LN];omega)) only[↓EC,EW,seval,↓reduceIte,↓ED,EE,srcC]))))
  have hpl:=hp.1
  have hql:=hq.1
  (refine bni ?_;repeat (refine bnk ?_;(try simp (disch:=first|omega|(simp only[LN];omega)) only[↓EC,EW,seval,↓reduceIte,↓ED,EE,vD])))
  exact ⟨n,p,q,_,_,rfl,rfl,by assumption,hp,hq,by omega,by omega⟩
 ·(refine bni ?_;repeat (refine bnk ?_;(try simp (disch:=first|omega|(simp only[LN];omega)) only[↓EC,EW,seval,↓reduceIte,↓ED,EE])))
  (refine pcm [0] rfl ?_; (refine bni ?_;repeat (refine bnk ?_;(try simp (disch:=first|omega|(simp only[LN];omega)) only[↓EC,EW,seval,↓reduceIte,↓ED,EE]))); refine callM_d (c_spec_l05Draw (by assumption)) ?_; rintro _ _ ⟨n,p,q,a1,z1,rfl,rfl,hs_,hp,hq,hn,hnm⟩; (refine bni ?_;repeat (refine bnk ?_;(try simp (disch:=first|omega|(simp only[LN];omega)) only[↓EC,EW,seval,↓reduceIte,↓ED,EE,srcC]))))
  have hpl:=hp.1
  have hql:=hq.1
  (refine bni ?_;repeat (refine bnk ?_;(try simp (disch:=first|omega|(simp only[LN];omega)) only[↓EC,EW,seval,↓reduceIte,↓ED,EE,vD])))
  refine pcd_v (c_spec_l01Is (n:=n) hp.ok hq.ok) ?_
  (refine bni ?_;repeat (refine bnk ?_;(try simp (disch:=first|omega|(simp only[LN];omega)) only[↓EC,EW,seval,↓reduceIte,↓ED,EE])))
  (refine Split.mB (fun h=>?_) (fun h=>?_) <;> (try simp only[SD]at h))
  ·(refine bni ?_;repeat (refine bnk ?_;(try simp (disch:=first|omega|(simp only[LN];omega)) only[↓EC,EW,seval,↓reduceIte,↓ED,EE])))
   refine pcd_r (c_spec_l01Star (n:=4) (by omega)) ?_
   rintro _ ⟨p',q',rfl,hp',hq'⟩
   have hpl':=hp'.1
   have hql':=hq'.1
   (refine bni ?_;repeat (refine bnk ?_;(try simp (disch:=first|omega|(simp only[LN];omega)) only[↓EC,EW,seval,↓reduceIte,↓ED,EE,vD])))
   exact ⟨4,p',q',_,_,rfl,rfl,by assumption,hp'.ok,hq'.ok,by omega,by omega⟩
  ·(refine bni ?_;repeat (refine bnk ?_;(try simp (disch:=first|omega|(simp only[LN];omega)) only[↓EC,EW,seval,↓reduceIte,↓ED,EE])))
   exact ⟨n,p,q,_,_,rfl,rfl,by assumption,hp.ok,hq.ok,by omega,by omega⟩
end
section
set_option maxHeartbeats 1000000
theorem br_parse:∀ (m:Nat) {s:List UInt8} {d:Nat},s.length <= m -> brR s d = some 0 -> ∃ (F:Frs) (r:List UInt8),s = F.word ++ r /\ (d = 0 -> r = []) /\ ∀ d',d = d' + 1 -> ∃ r',r = 41 :: r' /\ brR r' d' = some 0
 | m,[],d,hm,h=>by
  have:d = 0:=by simpa [brR] using h
  subst this
  exact ⟨.nil,[],rfl,fun _=>rfl,fun d' e=>by omega⟩
 | 0,c :: s,d,hm,h=>by simp at hm
 | m + 1,c :: s,d,hm,h=>by
  rw[brR_cons] at h
  simp only[List.length_cons] at hm
  by_cases q:c = 40
  ·subst q
   rw[if_pos rfl] at h
   obtain ⟨A,r,e1,_,e3⟩:=br_parse m (by omega) h
   obtain ⟨r',rfl,h2⟩:=e3 d rfl
   have hl:r'.length <= m:=by
    have:=congrArg List.length e1
    simp only[List.length_append,List.length_cons] at this
    omega
   obtain ⟨B,r2,f1,f2,f3⟩:=br_parse m hl h2
   refine ⟨.cons A B,r2,?_,f2,f3⟩
   rw[e1,f1]; simp[Frs.word]
  ·rw[if_neg q] at h
   by_cases q2:c = 41
   ·subst q2
    rw[if_pos rfl] at h
    cases d with
    | zero=>cases h
    | succ d=>exact ⟨.nil,41 :: s,rfl,fun e=>by omega,fun d' e=>⟨s,rfl,by rw[show d' = d by omega]; exact h⟩⟩
   ·rw[if_neg q2] at h; cases h
theorem br_word {s:List UInt8} (h:brR s 0 = some 0):∃ F:Frs,s = F.word:=by
 obtain ⟨F,r,e,e2,_⟩:=br_parse s.length (Nat.le_refl _) h
 exact ⟨F,by rw[e,e2 rfl,List.append_nil]⟩
theorem word_br:∀ (F:Frs) (d:Nat) (r:List UInt8),brR (F.word ++ r) d = brR r d
 | .nil,d,r=>rfl
 | .cons A B,d,r=>by
  simp only[Frs.word,List.cons_append,List.append_assoc]
  rw[brR_cons,if_pos rfl,word_br A (d + 1),brR_cons,if_neg (by decide),if_pos rfl]
  exact word_br B d r
section
variable {P Q P' Q':List Int} {F A B:Frs} {prev fin o N:Nat}
theorem Stf.congr:∀ {F:Frs} {P Q P' Q':List Int} {prev fin o:Nat},Stf P Q F prev fin o -> fp P' prev = fp P prev -> (∀ i,o <= i -> i < o + F.size -> fp P' i = fp P i /\ fp Q' i = fp Q i) -> Stf P' Q' F prev fin o
 | .nil,P,Q,P',Q',prev,fin,o,h,e,_=>by
  have h:fp P prev = fin:=h
  show fp P' prev = fin
  rw[e,h]
 | .cons A B,P,Q,P',Q',prev,fin,o,h,e,he=>by
  obtain ⟨h1,h2,h3⟩:=h
  simp only[Frs.size] at he
  refine ⟨by rw[e,h1],h2.congr (he o (by omega) (by omega)).2 fun i hi hi'=>?_,h3.congr (he o (by omega) (by omega)).1 fun i hi hi'=>he i (by omega) (by omega)⟩
  have:=he i (by omega) (by omega)
  exact ⟨this.2,this.1⟩
def Stp (P Q:List Int):Frs -> Nat -> Nat -> Nat -> Prop
 | .nil,prev,lst,_=>lst = prev
 | .cons A B,prev,lst,o=>fp P prev = o /\ Stf Q P A o o (o + 1) /\ Stp P Q B o lst (o + 1 + A.size)
theorem Stp.lst:∀ {F:Frs} {P Q:List Int} {prev lst o:Nat},Stp P Q F prev lst o -> lst = prev ∨ o <= lst /\ lst < o + F.size
 | .nil,P,Q,prev,lst,o,h=>.inl h
 | .cons A B,P,Q,prev,lst,o,h=>by
  have:=Stp.lst h.2.2
  simp only[Frs.size]
  omega
theorem Stp.close:∀ {F:Frs} {P Q P':List Int} {prev lst o fin:Nat},Stp P Q F prev lst o -> prev < o -> fp P' lst = fin -> (∀ i,i ≠ lst -> fp P' i = fp P i) -> Stf P' Q F prev fin o
 | .nil,P,Q,P',prev,lst,o,fin,h,hp,h1,h2=>by
  have h:lst = prev:=h
  subst h; exact h1
 | .cons A B,P,Q,P',prev,lst,o,fin,h,hp,h1,h2=>by
  obtain ⟨s1,s2,s3⟩:=h
  have hl:=s3.lst
  refine ⟨by rw[h2 prev (by omega)]; exact s1,s2.congr rfl fun i hi hi'=>⟨rfl,h2 i (by omega)⟩,s3.close (by omega) h1 h2⟩
theorem Stp.congr:∀ {F:Frs} {P Q P' Q':List Int} {prev lst o:Nat},Stp P Q F prev lst o -> (∀ i,i ≠ lst -> (i = prev ∨ o <= i /\ i < o + F.size) -> fp P' i = fp P i) -> (∀ i,o <= i -> i < o + F.size -> fp Q' i = fp Q i) -> prev < o -> Stp P' Q' F prev lst o
 | .nil,P,Q,P',Q',prev,lst,o,h,_,_,_=>h
 | .cons A B,P,Q,P',Q',prev,lst,o,h,e1,e2,hp=>by
  obtain ⟨s1,s2,s3⟩:=h
  have hl:=s3.lst
  simp only[Frs.size] at e1 e2
  exact ⟨by rw[e1 prev (by omega) (.inl rfl)]; exact s1,s2.congr (e2 o (by omega) (by omega)) fun i hi hi'=>⟨e2 i (by omega) (by omega),e1 i (by omega) (.inr (by omega))⟩,s3.congr (fun i hi hi'=>e1 i hi (by omega)) (fun i hi hi'=>e2 i (by omega) (by omega)) (by omega)⟩
end
structure Tms where
 st:List Int
 la:List Int
 nx:Int
 fi:Int
 B:List Int
 W:List Int
def Tms.from (s:Tms):Int:=if gi s.la (s.st.length - 1) < 0 then gi s.st (s.st.length - 1) else gi s.la (s.st.length - 1)
def Tms.put (s:Tms) (v:Int):Tms:=if (s.st.length - 1) % 2 = 0 then { s with B:=s.B.set s.from.toNat v } else { s with W:=s.W.set s.from.toNat v }
def Tms.opn (s:Tms):Tms :=
 let t:=if s.from < 0 then { s with fi:=s.nx } else s.put s.nx
 { t with st:=t.st ++ [s.nx],la:=t.la.set (s.st.length - 1) s.nx ++ [-1],nx:=s.nx + 1 }
def Tms.cls (s:Tms):Tms :=
 let t:=s.put (gi s.st (s.st.length - 1))
 { t with st:=t.st.take (s.st.length - 1),la:=t.la.take (s.st.length - 1) }
def Tms.step (s:Tms) (c:UInt8):Tms:=if c = 40 then s.opn else s.cls
def Tms.run (s:Tms) (l:List UInt8):Tms:=l.foldl Tms.step s
def tms0:Tms:=⟨[-1],[-1],0,0,List.replicate 16 0,List.replicate 16 0⟩
def Tms.fin (s:Tms):Tms:={ s with B:=s.B.set (gi s.la 0).toNat s.fi }
def mkS (k:Nat) (st la:List Int) (nx fi:Int) (P Q:List Int):Tms:=⟨st,la,nx,fi,if k % 2 = 0 then P else Q,if k % 2 = 0 then Q else P⟩
section
variable {k:Nat} {st la P Q:List Int} {nx fi e l v:Int}
theorem mkS_up:mkS (k + 1) st la nx fi Q P = mkS k st la nx fi P Q:=by
 unfold mkS
 by_cases q:k % 2 = 0
 ·rw[if_pos q,if_pos q,if_neg (by omega),if_neg (by omega)]
 ·rw[if_neg q,if_neg q,if_pos (by omega),if_pos (by omega)]
theorem gi_top {s:List Int} {e:Int}:gi (s ++ [e]) s.length = e:=by rw[gi_app,if_neg (Nat.lt_irrefl _),Nat.sub_self]; rfl
theorem set_top {s:List Int} {e v:Int}:(s ++ [e]).set s.length v = s ++ [v]:=by rw[List.set_append_right _ _ (Nat.le_refl _),Nat.sub_self]; rfl
theorem mkS_from (h1:st.length = k) (h2:la.length = k):(mkS k (st ++ [e]) (la ++ [l]) nx fi P Q).from = if l < 0 then e else l:=by
 unfold Tms.from mkS
 have e1:(st ++ [e]).length - 1 = k:=by simp[h1]
 simp only[e1]
 have a:gi (st ++ [e]) k = e:=by rw[<-h1]; exact gi_top
 have c:gi (la ++ [l]) k = l:=by rw[<-h2]; exact gi_top
 rw[a,c]
theorem mkS_put (h1:st.length = k) (h2:la.length = k):(mkS k (st ++ [e]) (la ++ [l]) nx fi P Q).put v = mkS k (st ++ [e]) (la ++ [l]) nx fi (P.set (if l < 0 then e else l).toNat v) Q:=by
 have hf:=mkS_from (e:=e) (l:=l) (nx:=nx) (fi:=fi) (P:=P) (Q:=Q) h1 h2
 unfold Tms.put
 rw[hf]
 have e1:(mkS k (st ++ [e]) (la ++ [l]) nx fi P Q).st.length - 1 = k:=by simp[mkS,h1]
 rw[e1]
 by_cases q:k % 2 = 0
 ·rw[if_pos q]; simp only[mkS,if_pos q]
 ·rw[if_neg q]; simp only[mkS,if_neg q]
theorem mkS_opn (h1:st.length = k) (h2:la.length = k) (h0:0 <= (if l < 0 then e else l)):(mkS k (st ++ [e]) (la ++ [l]) nx fi P Q).opn = mkS k (st ++ [e] ++ [nx]) (la ++ [nx] ++ [-1]) (nx + 1) fi (P.set (if l < 0 then e else l).toNat nx) Q:=by
 have hf:=mkS_from (e:=e) (l:=l) (nx:=nx) (fi:=fi) (P:=P) (Q:=Q) h1 h2
 have hp:=mkS_put (e:=e) (l:=l) (nx:=nx) (fi:=fi) (P:=P) (Q:=Q) (v:=nx) h1 h2
 have e1:(mkS k (st ++ [e]) (la ++ [l]) nx fi P Q).st.length - 1 = k:=by simp[mkS,h1]
 have e2:(mkS k (st ++ [e]) (la ++ [l]) nx fi P Q).nx = nx:=rfl
 unfold Tms.opn
 rw[hf,if_neg (by omega),e1,e2,hp]
 have e3:(la ++ [l]).set k nx = la ++ [nx]:=by rw[<-h2]; exact set_top
 simp only[mkS,e3]
theorem mkS_cls (h1:st.length = k) (h2:la.length = k):(mkS k (st ++ [e]) (la ++ [l]) nx fi P Q).cls = mkS k st la nx fi (P.set (if l < 0 then e else l).toNat e) Q:=by
 have e1:(mkS k (st ++ [e]) (la ++ [l]) nx fi P Q).st.length - 1 = k:=by simp[mkS,h1]
 have e2:gi (mkS k (st ++ [e]) (la ++ [l]) nx fi P Q).st k = e:=by rw[<-h1]; exact gi_top
 unfold Tms.cls
 rw[e1,e2,mkS_put h1 h2]
 have t1:(st ++ [e]).take k = st:=by rw[<-h1,List.take_left]
 have t2:(la ++ [l]).take k = la:=by rw[<-h2,List.take_left]
 simp only[mkS,t1,t2]
theorem run_app {s:Tms} {a b:List UInt8}:s.run (a ++ b) = (s.run a).run b:=by simp[Tms.run,List.foldl_append]
end
theorem fp_set {P:List Int} {i j:Nat} {v:Nat} (hj:j < P.length):fp (P.set j (v:Int)) i = if i = j then v else fp P i:=by
 unfold fp
 rw[gi_set]
 by_cases e:j = i
 ·rw[if_pos ⟨e,by omega⟩,if_pos e.symm]; simp
 ·rw[if_neg fun q=>e q.1,if_neg fun q=>e q.symm]
structure Rn (P Q P' Q':List Int) (F:Frs) (prev lst o:Nat):Prop where
 s:Stp P' Q' F prev lst o
 lP:P'.length = P.length
 lQ:Q'.length = Q.length
 fP:∀ i,i ≠ prev -> (i < o ∨ o + F.size <= i) -> gi P' i = gi P i
 fQ:∀ i,(i < o ∨ o + F.size <= i) -> gi Q' i = gi Q i
 nn:(∀ i:Nat,0 <= gi P i) -> (∀ i:Nat,0 <= gi Q i) -> (∀ i:Nat,0 <= gi P' i) /\ ∀ i:Nat,0 <= gi Q' i
theorem nn_set {P:List Int} {j v:Nat} (h:∀ i:Nat,0 <= gi P i) (i:Nat):0 <= gi (P.set j (v:Int)) i:=by
 rw[gi_set]; split
 ·omega
 ·exact h i
theorem run_frs:∀ {F:Frs} {k:Nat} {st la P Q:List Int} {o prev:Nat} {fi e l:Int},st.length = k -> la.length = k -> (if l < 0 then e else l) = (prev:Int) -> prev < o -> o + F.size <= 16 -> P.length = 16 -> Q.length = 16 ->
  ∃ (l':Int) (P' Q':List Int) (lst:Nat),(mkS k (st ++ [e]) (la ++ [l]) o fi P Q).run F.word = mkS k (st ++ [e]) (la ++ [l']) ((o + F.size:Nat):Int) fi P' Q' /\ (if l' < 0 then e else l') = (lst:Int) /\ Rn P Q P' Q' F prev lst o
 | .nil,k,st,la,P,Q,o,prev,fi,e,l,h1,h2,hf,hp,hs,hP,hQ=>⟨l,P,Q,prev,rfl,hf,rfl,rfl,rfl,fun _ _ _=>rfl,fun _ _=>rfl,fun a c=>⟨a,c⟩⟩
 | .cons A B,k,st,la,P,Q,o,prev,fi,e,l,h1,h2,hf,hp,hs,hP,hQ=>by
  simp only[Frs.size] at hs
  have o1:=mkS_opn (k:=k) (st:=st) (la:=la) (P:=P) (Q:=Q) (nx:=(o:Int)) (fi:=fi) (e:=e) (l:=l) h1 h2 (by omega)
  rw[hf,Int.toNat_natCast] at o1
  -- the first edge's vertex
  obtain ⟨l1,Q1,P1,lst1,r1,f1,R1⟩:=run_frs (F:=A) (k:=k + 1) (st:=st ++ [e]) (la:=la ++ [(o:Int)]) (P:=Q) (Q:=P.set prev (o:Int)) (o:=o + 1) (prev:=o) (fi:=fi) (e:=(o:Int)) (l:=-1) (by simp[h1]) (by simp[h2]) (by simp) (by omega) (by omega) hQ (by simp[hP])
  have c1:=mkS_cls (k:=k + 1) (st:=st ++ [e]) (la:=la ++ [(o:Int)]) (P:=Q1) (Q:=P1) (nx:=((o + 1 + A.size:Nat):Int)) (fi:=fi) (e:=(o:Int)) (l:=l1) (by simp[h1]) (by simp[h2])
  rw[f1,Int.toNat_natCast] at c1
  have hl1:=R1.s.lst
  have lQ1:Q1.length = 16:=by rw[R1.lP,hQ]
  have lP1:P1.length = 16:=by rw[R1.lQ]; simp[hP]
  -- the rest
  obtain ⟨l2,P2,Q2,lst2,r2,f2,R2⟩:=run_frs (F:=B) (k:=k) (st:=st) (la:=la) (P:=P1) (Q:=Q1.set lst1 (o:Int)) (o:=o + 1 + A.size) (prev:=o) (fi:=fi) (e:=e) (l:=(o:Int)) h1 h2 (by rw[if_neg (by omega)]) (by omega) (by omega) lP1 (by simp[lQ1])
  refine ⟨l2,P2,Q2,lst2,?_,f2,?_,by rw[R2.lP,lP1,hP],by rw[R2.lQ]; simp[lQ1,hQ],fun i hi hi'=>?_,fun i hi=>?_,fun a c=>?_⟩
  ·have w1:(Frs.cons A B).word = [40] ++ A.word ++ ([41] ++ B.word):=by simp[Frs.word]
   rw[w1,run_app,run_app,run_app]
   have s1:(mkS k (st ++ [e]) (la ++ [l]) o fi P Q).run [40] = (mkS k (st ++ [e]) (la ++ [l]) o fi P Q).opn:=rfl
   rw[s1,o1,<-mkS_up]
   have cast:((o:Int) + 1) = ((o + 1:Nat):Int):=by omega
   rw[cast,r1]
   have s2:∀ s:Tms,s.run [41] = s.cls:=fun s=>rfl
   rw[s2,c1,mkS_up,r2]
   congr 1
   simp only[Frs.size]
   omega
  ·-- pointers
   have hl2:=R2.s.lst
   have pQ:∀ i,i < o + 1 + A.size -> gi Q2 i = gi (Q1.set lst1 (o:Int)) i:=fun i hi=>R2.fQ i (.inl hi)
   have pP:∀ i,i ≠ o -> i < o + 1 + A.size -> gi P2 i = gi P1 i:=fun i hi hi'=>R2.fP i hi (.inl hi')
   have cl:Stf (Q1.set lst1 (o:Int)) P1 A o o (o + 1):=R1.s.close (by omega) (by rw[fp_set (by omega),if_pos rfl]) fun i hi=>by rw[fp_set (by omega),if_neg hi]
   refine ⟨?_,cl.congr (by unfold fp; rw[pQ o (by omega)]) fun i hi hi'=>⟨by unfold fp; rw[pQ i (by omega)],by unfold fp; rw[pP i (by omega) (by omega)]⟩,R2.s⟩
   unfold fp
   rw[pP prev (by omega) (by omega),R1.fQ prev (.inl (by omega)),gi_set,if_pos ⟨rfl,by omega⟩]; simp
  ·simp only[Frs.size] at hi'
   by_cases q:i = o
   ·omega
   ·rw[R2.fP i q (by omega),R1.fQ i (by omega),gi_set,if_neg fun z=>hi z.1.symm]
  ·simp only[Frs.size] at hi
   have hl1:=R1.s.lst
   rw[R2.fQ i (by omega),gi_set,if_neg (by omega),R1.fP i (by omega) (by omega)]
  ·obtain ⟨u1,u2⟩:=R1.nn c (nn_set a)
   exact R2.nn u2 (nn_set u1)
theorem made_ok {A B:Frs} (hs:A.size + B.size + 1 <= 16):Mkd ((A.size + B.size + 1:Nat):Int) (tms0.run (Frs.cons A B).word).fin.B (tms0.run (Frs.cons A B).word).fin.W A B /\ (tms0.run (Frs.cons A B).word).fi = 0 /\ (tms0.run (Frs.cons A B).word).st = [-1]:=by
 have o1:tms0.opn = mkS 0 ([-1] ++ [0]) ([0] ++ [-1]) 1 0 (List.replicate 16 0) (List.replicate 16 0):=rfl
 obtain ⟨l1,Q1,P1,lst1,r1,f1,R1⟩:=run_frs (F:=A) (k:=1) (st:=[-1]) (la:=[0]) (P:=List.replicate 16 0) (Q:=List.replicate 16 0) (o:=1) (prev:=0) (fi:=0) (e:=0) (l:=-1) rfl rfl (by simp) (by omega) (by omega) (by simp) (by simp)
 have c1:=mkS_cls (k:=1) (st:=[-1]) (la:=[0]) (P:=Q1) (Q:=P1) (nx:=((1 + A.size:Nat):Int)) (fi:=0) (e:=0) (l:=l1) rfl rfl
 rw[f1,Int.toNat_natCast] at c1
 have hl1:=R1.s.lst
 have lQ1:Q1.length = 16:=by rw[R1.lP]; simp
 have lP1:P1.length = 16:=by rw[R1.lQ]; simp
 obtain ⟨l2,P2,Q2,lst2,r2,f2,R2⟩:=run_frs (F:=B) (k:=0) (st:=[]) (la:=[]) (P:=P1) (Q:=Q1.set lst1 0) (o:=1 + A.size) (prev:=0) (fi:=0) (e:=-1) (l:=0) rfl rfl (by simp) (by omega) (by omega) lP1 (by simp[lQ1])
 have run:tms0.run (Frs.cons A B).word = mkS 0 [-1] [l2] ((1 + A.size + B.size:Nat):Int) 0 P2 Q2:=by
  have w1:(Frs.cons A B).word = [40] ++ A.word ++ ([41] ++ B.word):=by simp[Frs.word]
  rw[w1,run_app,run_app,run_app]
  have s1:tms0.run [40] = tms0.opn:=rfl
  have s2:∀ s:Tms,s.run [41] = s.cls:=fun s=>rfl
  rw[s1,o1,<-mkS_up]
  have r1':(mkS (0 + 1) ([-1] ++ [0]) ([0] ++ [-1]) 1 0 (List.replicate 16 0) (List.replicate 16 0)).run A.word = _:=r1
  rw[r1',s2]
  have c1':(mkS 1 ([-1] ++ [0]) ([0] ++ [l1]) ((1 + A.size:Nat):Int) 0 Q1 P1).cls = _:=c1
  rw[c1',show (1:Nat) = 0 + 1 from rfl,mkS_up]
  exact r2
 have lP2:P2.length = 16:=by rw[R2.lP,lP1]
 have lQ2:Q2.length = 16:=by rw[R2.lQ]; simp[lQ1]
 have hl2:=R2.s.lst
 have el:l2 = (lst2:Int):=by
  by_cases q:l2 < 0
  ·rw[if_pos q] at f2; omega
  ·rw[if_neg q] at f2; exact f2
 have fB:(tms0.run (Frs.cons A B).word).fin.B = P2.set lst2 ((0:Nat):Int):=by
  rw[run]
  show P2.set (gi [l2] 0).toNat 0 = _
  have:gi [l2] 0 = l2:=rfl
  rw[this,el,Int.toNat_natCast]; rfl
 have fW:(tms0.run (Frs.cons A B).word).fin.W = Q2:=by rw[run]; rfl
 have cl:Stf (P2.set lst2 ((0:Nat):Int)) Q2 B 0 0 (1 + A.size):=R2.s.close (by omega) (by rw[fp_set (by omega),if_pos rfl]) fun i hi=>by rw[fp_set (by omega),if_neg hi]
 have clA:Stf (Q1.set lst1 ((0:Nat):Int)) P1 A 0 0 1:=R1.s.close (by omega) (by rw[fp_set (by omega),if_pos rfl]) fun i hi=>by rw[fp_set (by omega),if_neg hi]
 have q0:((0:Nat):Int) = 0:=rfl
 have pQ:∀ i,i < 1 + A.size -> gi Q2 i = gi (Q1.set lst1 0) i:=fun i hi=>R2.fQ i (.inl hi)
 have pP:∀ i,i ≠ 0 -> i < 1 + A.size -> gi P2 i = gi P1 i:=fun i hi hi'=>R2.fP i hi (.inl hi')
 have nl:∀ i,1 <= i -> i < 1 + A.size -> i ≠ lst2:=fun i a c=>by omega
 have A2:Stf Q2 (P2.set lst2 ((0:Nat):Int)) A 0 0 1:=clA.congr (by unfold fp; rw[pQ 0 (by omega),q0]) fun i hi hi'=>⟨by unfold fp; rw[pQ i (by omega),q0],by rw[fp_set (by omega),if_neg (nl i hi hi')]; unfold fp; rw[pP i (by omega) (by omega)]⟩
 have vA:=A2.vals
 have vB:=cl.vals
 have outB:∀ j:Nat,A.size + B.size + 1 <= j -> gi (P2.set lst2 ((0:Nat):Int)) j = 0:=fun j hj=>by
  rw[gi_set,if_neg (by omega),R2.fP j (by omega) (.inr (by omega)),R1.fQ j (.inr (by omega)),gi_rep]; split <;> rfl
 have outW:∀ j:Nat,A.size + B.size + 1 <= j -> gi Q2 j = 0:=fun j hj=>by
  rw[R2.fQ j (.inr (by omega)),gi_set,if_neg (by omega),R1.fP j (by omega) (.inr (by omega)),gi_rep]; split <;> rfl
 refine ⟨?_,by rw[run]; rfl,by rw[run]; rfl⟩
 rw[fB,fW]
 have z0:∀ i:Nat,0 <= gi (List.replicate 16 (0:Int)) i:=fun i=>by rw[gi_rep]; split <;> omega
 obtain ⟨u1,u2⟩:=R1.nn z0 z0
 obtain ⟨u3,u4⟩:=R2.nn u2 (nn_set (v:=0) u1)
 have u5:∀ i:Nat,0 <= gi (P2.set lst2 ((0:Nat):Int)) i:=nn_set u3
 have eB:∀ i:Nat,gi (P2.set lst2 ((0:Nat):Int)) i = (fp (P2.set lst2 ((0:Nat):Int)) i:Int):=fun i=>by have:=u5 i; unfold fp; omega
 have eW:∀ i:Nat,gi Q2 i = (fp Q2 i:Int):=fun i=>by have:=u4 i; unfold fp; omega
 refine ⟨⟨by simp[lP2],fun i hi=>?_⟩,⟨lQ2,fun i hi=>?_⟩,fun j hj=>outB j (by omega),fun j hj=>outW j (by omega),by omega,by omega,A2,cl⟩
 ·by_cases q:A.size + B.size + 1 <= i
  ·rw[outB i q]; omega
  ·rw[eB]
   by_cases q0:i = 0
   ·subst q0; have:=vB.1; omega
   ·by_cases q2:i < 1 + A.size
    ·have:=(vA.2 i (by omega) q2).2; omega
    ·have:=(vB.2 i (by omega) (by omega)).1; omega
 ·by_cases q:A.size + B.size + 1 <= i
  ·rw[outW i q]; omega
  ·rw[eW]
   by_cases q0:i = 0
   ·subst q0; have:=vA.1; omega
   ·by_cases q2:i < 1 + A.size
    ·have:=(vA.2 i (by omega) q2).1; omega
    ·have:=(vB.2 i (by omega) (by omega)).2; omega
theorem mkd_ex (A B:Frs) (hs:A.size + B.size + 1 <= 16):∃ b w,Mkd ((A.size + B.size + 1:Nat):Int) b w A B:=⟨_,_,(made_ok hs).1⟩
end
section
set_option maxHeartbeats 1000000
def hl:Frs -> Nat -> List Nat
 | .nil,_=>[]
 | .cons A B,o=>o :: hl B (o + 1 + A.size)
theorem hl_lt:∀ {F:Frs} {o t:Nat},t ∈ hl F o -> o <= t /\ t < o + F.size
 | .cons A B,o,t,h=>by
  simp only[Frs.size]
  rcases List.mem_cons.1 h with rfl | h
  ·omega
  ·have:=hl_lt h; omega
theorem hl_nd:∀ {F:Frs} {o:Nat},(hl F o).Nodup
 | .nil,o=>List.nodup_nil
 | .cons A B,o=>List.nodup_cons.2 ⟨fun h=>by have:=hl_lt h; omega,hl_nd⟩
def Stw (P Q:List Int):Frs -> Nat -> Prop
 | .nil,_=>True
 | .cons A B,o=>Stf Q P A o o (o + 1) /\ Stw P Q B (o + 1 + A.size)
def Chn (P:List Int):Nat -> List Nat -> Prop
 | _,[]=>True
 | x,y :: l=>fp P x = y /\ Chn P y l
section
variable {P Q P' Q':List Int} {F A B:Frs} {prev fin o:Nat}
theorem Stw.congr:∀ {F:Frs} {P Q P' Q':List Int} {o:Nat},Stw P Q F o -> (∀ i,o <= i -> i < o + F.size -> i ∉ hl F o -> fp P' i = fp P i) -> (∀ i,o <= i -> i < o + F.size -> fp Q' i = fp Q i) -> Stw P' Q' F o
 | .nil,_,_,_,_,_,_,_,_=>trivial
 | .cons A B,P,Q,P',Q',o,h,e1,e2=>by
  obtain ⟨h1,h2⟩:=h
  simp only[Frs.size] at e1 e2
  have no:∀ i,o + 1 <= i -> i < o + 1 + A.size -> i ∉ hl (.cons A B) o:=fun i a c hm=>by
   rcases List.mem_cons.1 hm with e | hm
   ·omega
   ·have:=hl_lt hm; omega
  refine ⟨h1.congr (e2 o (by omega) (by omega)) fun i hi hi'=>⟨e2 i (by omega) (by omega),e1 i (by omega) (by omega) (no i hi hi')⟩,h2.congr (fun i hi hi' hn=>e1 i (by omega) (by omega) fun hm=>?_) fun i hi hi'=>e2 i (by omega) (by omega)⟩
  rcases List.mem_cons.1 hm with e | hm
  ·omega
  ·exact hn hm
theorem Stw.stf:∀ {F:Frs} {P Q:List Int} {prev fin o:Nat},Stw P Q F o -> Chn P prev (hl F o ++ [fin]) -> Stf P Q F prev fin o
 | .nil,P,Q,prev,fin,o,_,h=>h.1
 | .cons A B,P,Q,prev,fin,o,h,hc=>⟨hc.1,h.1,h.2.stf hc.2⟩
end
def lvE (P:List Int) (E:List Int):Nat -> List Int
 | 0=>P
 | s + 1=>(lvE P E s).set (gi E s).toNat (gi E ((s + 1) % E.length))
theorem lvE_len {P E:List Int}:∀ s,(lvE P E s).length = P.length
 | 0=>rfl
 | s + 1=>by simp[lvE,lvE_len s]
theorem lvE_out {P E:List Int} {i:Nat}:∀ s,s <= E.length -> (∀ j,j < E.length -> (gi E j).toNat ≠ i) -> gi (lvE P E s) i = gi P i
 | 0,_,_=>rfl
 | s + 1,hs,h=>by
  simp only[lvE]
  rw[gi_set,if_neg fun q=>h s (by omega) q.1,lvE_out s (by omega) h]
theorem lvE_at {P E:List Int} (hP:P.length = 16) (nd:∀ i j,i < E.length -> j < E.length -> (gi E i).toNat = (gi E j).toNat -> i = j) (h16:∀ j,j < E.length -> 0 <= gi E j /\ gi E j < 16) {j:Nat} (hj:j < E.length):∀ s,s <= E.length -> gi (lvE P E s) (gi E j).toNat = if j < s then gi E ((j + 1) % E.length) else gi P (gi E j).toNat
 | 0,_=>by simp[lvE]
 | s + 1,hs=>by
  have ih:=lvE_at hP nd h16 hj s (by omega)
  simp only[lvE]
  rw[gi_set,lvE_len,ih]
  by_cases e:s = j
  ·subst e
   rw[if_pos ⟨rfl,by have:=h16 s hj; omega⟩,if_pos (by omega)]
  ·rw[if_neg fun q=>e (nd s j (by omega) hj q.1)]
   by_cases q:j < s
   ·rw[if_pos q,if_pos (by omega)]
   ·rw[if_neg q,if_neg (by omega)]
theorem chn_of {P:List Int}:∀ {l:List Nat} {x fin:Nat},(∀ j,j < l.length + 1 -> fp P ((x :: l).getD j 0) = (l ++ [fin]).getD j 0) -> Chn P x (l ++ [fin])
 | [],x,fin,h=>⟨h 0 (by simp),trivial⟩
 | y :: l,x,fin,h=>⟨h 0 (by simp),chn_of fun j hj=>by
   have:=h (j + 1) (by simp at hj ⊢; omega)
   simpa using this⟩
theorem lvE_chn {P:List Int} {l:List Nat} {x:Nat} (hP:P.length = 16) (nd:(x :: l).Nodup) (h16:∀ t ∈ x :: l,t < 16):Chn (lvE P ((x :: l).map fun t:Nat=>(t:Int)) (l.length + 1)) x (l ++ [x]):=by
 have gE:∀ j,j < l.length + 1 -> gi ((x :: l).map fun t:Nat=>(t:Int)) j = (((x :: l).getD j 0:Nat):Int):=fun j hj=>by
  rw[gi_of (by simpa using hj)]
  simp only[List.getElem_map,List.getD,List.getElem?_eq_getElem (show j < (x :: l).length by simpa using hj),Option.getD_some]
 have gm:∀ j,j < l.length + 1 -> (x :: l).getD j 0 ∈ x :: l:=fun j hj=>by
  simp only[List.getD,List.getElem?_eq_getElem (show j < (x :: l).length by simpa using hj),Option.getD_some]
  exact List.getElem_mem _
 refine chn_of fun j hj=>?_
 have el:((x :: l).map fun t:Nat=>(t:Int)).length = l.length + 1:=by simp
 have:=lvE_at (E:=(x :: l).map fun t:Nat=>(t:Int)) hP (fun i k hi hk e=>by
  rw[el] at hi hk
  rw[gE i hi,gE k hk] at e
  have e2:(x :: l).getD i 0 = (x :: l).getD k 0:=by omega
  simp only[List.getD,List.getElem?_eq_getElem (show i < (x :: l).length by simpa using hi),List.getElem?_eq_getElem (show k < (x :: l).length by simpa using hk),Option.getD_some] at e2
  exact nodup_ix nd _ _ e2) (fun k hk=>by
  rw[el] at hk
  rw[gE k hk]
  have:=h16 _ (gm k hk); omega) (j:=j) (by rw[el]; exact hj) (l.length + 1) (by rw[el]; exact Nat.le_refl _)
 rw[if_pos hj,gE j hj,Int.toNat_natCast,el] at this
 unfold fp
 rw[this]
 by_cases q:j = l.length
 ·subst q
  rw[Nat.mod_self,gE 0 (by omega)]
  simp
 ·rw[Nat.mod_eq_of_lt (by omega),gE (j + 1) (by omega)]
  simp only[List.getD_cons_succ,Int.toNat_natCast]
  rw[getN_l (by omega)]
end
end Go.Proofs.YtbjbpmicnmjbfaaGreat.Sep

/- Texts put together: C109, C94, C110, C111, C40, C112, C113, C114, C115, C116, C117, C118, C119, C120, C121, C122, C1231, C123, C124. -/
import Derived.Test.YtbjbpmicnmjbfaaGreatK4
import Derived.Lib.BytesEntry
import Derived.Lib.Bytealg
import Derived.Laws.Externs
import Derived.WalkKit
import Derived.Deep.RegionWith
namespace Go.Proofs.YtbjbpmicnmjbfaaGreat.Sep
open Go.RowKit
set_option linter.unusedVariables false
set_option linter.unusedSimpArgs false
set_option maxRecDepth 20000
section
set_option maxHeartbeats 8000000
theorem c_revS {l:List Int} {n:Nat} {a b:Int} (hn:l.length = n) (h0:0 <= a /\ a <= 1000) (hb:0 <= b /\ b <= n) (hl:n <= 1000):PSpecM Tryz.prog 137 [.rf 0 0 n,.int .i64 a,.int .i64 b] [(0,2,1)] [vi .i64 l] fun v c=>v = .tup [] /\ ∃ m,c = [vi .i64 m] /\ Sw a b l m:=by
 refine slices_reverseRangeOrdered_int64_f.m rfl rfl ?_
 dsimp only [slices_reverseRangeOrdered_int64_F,pcal_B,pcalp_B,pcala_B,pcond_B,pgk_B,JN_B,LP_B]
 (refine bni ?_; repeat (refine bnk ?_; (try simp (disch:=first | omega | (simp only [LN]; omega)) only [↓EC,EW,seval,↓reduceIte,↓EBD,EBE])))
 refine LPx_of (σ:=List Int × Int × Int) 100000 [(0,2,1)] (fun s=>[.int .i64 s.2.1,.int .i64 s.2.2]) (fun s=>[vi .i64 s.1])
  (fun s=>Sw a b l s.1 /\ a <= s.2.1 /\ s.2.2 <= b - 1 /\ -1 <= s.2.2 /\ s.2.1 <= 1001) (fun s=>(s.2.2 + 1).toNat) (l,a,b - 1) (by simp [frameOk,names,lpz,sclp,scv,scvs,nrfs,nrf,FRB]) ⟨.refl _,by simp only; omega⟩ ?_ ?_
 ·(refine bni ?_; repeat (refine bnk ?_; simp (disch:=first | omega | (simp only [LN]; omega)) only [↓EC,EW,seval,↓reduceIte,↓EBD,EBE,ColV_def]))
 ·rintro ⟨m,i,j⟩ ⟨hs,h2,h3,h4,h5⟩
  simp only at hs h2 h3 h4 h5
  have h1:m.length = n:=by rw [hs.len,hn]
  (refine bni ?_; repeat (refine bnk ?_; simp (disch:=first | omega | (simp only [LN]; omega)) only [↓EC,EW,seval,↓reduceIte,↓EBD,EBE,ColV_def,lheap_def]))
  (refine Split.mkB (fun h=>?_) (fun h=>?_) <;> (try simp only [SD] at h))
  ·(refine bni ?_; repeat (refine bnk ?_; (try simp (disch:=first | omega | (simp only [LN]; omega)) only [↓EC,EW,seval,↓reduceIte,↓EBD,EBE])))
   exact ⟨(swL m i.toNat j.toNat,i + 1,j - 1),rfl,rfl,⟨.step hs (by omega) (by omega) (by omega) (by omega),by simp only; omega⟩,by simp only; omega⟩
  ·(refine bni ?_; repeat (refine bnk ?_; (try simp (disch:=first | omega | (simp only [LN]; omega)) only [↓EC,EW,seval,↓reduceIte,↓EBD,EBE])))
   exact ⟨m,rfl,hs⟩
theorem c_parS {l:List Int} {n:Nat} {a b:Int} (hn:l.length = n) (h0:0 <= a) (hab:a + 13 <= b) (hb:b <= n) (hl:n <= 16):PSpec Tryz.prog 138 [.sl n (vi .i64 l),.int .i64 a,.int .i64 b] fun v=>∃ r,v = .bool r /\ (r = true -> Srt a b l):=by
 refine slices_partialInsertionSortOrdered_int64_f.f ?_
 dsimp only [slices_partialInsertionSortOrdered_int64_F,pcal_B,pcalp_B,pcala_B,pcond_B,pgk_B,JN_B,LP_B]
 (refine bni ?_; repeat (refine bnk ?_; (try simp (disch:=first | omega | (simp only [LN]; omega)) only [↓EC,EW,seval,↓reduceIte,↓EBD,EBE])))
 refine LPx_of (σ:=Unit) 100000 [] (fun s=>[.int .i64 (a + 1),.int .i64 0]) (fun s=>[]) (fun s=>True) (fun s=>0) () (by simp [frameOk,names,lpz,sclp,scv,scvs,nrfs,nrf,FRB]) trivial ?_ ?_
 ·(refine bni ?_; repeat (refine bnk ?_; simp (disch:=first | omega | (simp only [LN]; omega)) only [↓EC,EW,seval,↓reduceIte,↓EBD,EBE,ColV_def]))
 ·intro _ _
  (refine bni ?_; repeat (refine bnk ?_; simp (disch:=first | omega | (simp only [LN]; omega)) only [↓EC,EW,seval,↓reduceIte,↓EBD,EBE,ColV_def,lheap_def]))
  (refine bni ?_; repeat (refine bnk ?_; (try simp (disch:=first | omega | (simp only [LN]; omega)) only [↓EC,EW,seval,↓reduceIte,↓EBD,EBE])))
  refine JNx_un ?_
  (refine bni ?_; repeat (refine bnk ?_; (try simp (disch:=first | omega | (simp only [LN]; omega)) only [↓EC,EW,seval,↓reduceIte,↓EBD,EBE])))
  refine LPx_of (σ:=Int) 200000 [] (fun s=>[.int .i64 s]) (fun s=>[]) (fun s=>(a + 1 <= s /\ s <= b) /\ ∀ t:Nat,a < t -> (t:Int) < s -> gi l (t - 1) <= gi l t) (fun s=>(b - s).toNat) (a + 1) (by simp [frameOk,names,lpz,sclp,scv,scvs,nrfs,nrf,FRB]) ⟨by omega,fun t h1 h2=>by omega⟩ ?_ ?_
  ·(refine bni ?_; repeat (refine bnk ?_; simp (disch:=first | omega | (simp only [LN]; omega)) only [↓EC,EW,seval,↓reduceIte,↓EBD,EBE,ColV_def]))
  ·rintro i ⟨⟨h1,h2⟩,h3⟩
   (refine bni ?_; repeat (refine bnk ?_; simp (disch:=first | omega | (simp only [LN]; omega)) only [↓EC,EW,seval,↓reduceIte,↓EBD,EBE,ColV_def,lheap_def]))
   (refine Split.mkB (fun h=>?_) (fun h=>?_) <;> (try simp only [SD] at h))
   ·(refine bni ?_; repeat (refine bnk ?_; (try simp (disch:=first | omega | (simp only [LN]; omega)) only [↓EC,EW,seval,↓reduceIte,↓EBD,EBE])))
    refine pcd_v c_less ?_
    (refine bni ?_; repeat (refine bnk ?_; (try simp (disch:=first | omega | (simp only [LN]; omega)) only [↓EC,EW,seval,↓reduceIte,↓EBD,EBE])))
    have e1:(i - 1).toNat = i.toNat - 1:=by omega
    (refine Split.mkB (fun h=>?_) (fun h=>?_) <;> (try simp only [SD] at h))
    ·(refine bni ?_; repeat (refine bnk ?_; (try simp (disch:=first | omega | (simp only [LN]; omega)) only [↓EC,EW,seval,↓reduceIte,↓EBD,EBE])))
     refine ⟨i + 1,rfl,⟨by omega,fun t p1 p2=>?_⟩,by omega⟩
     by_cases e:(t:Int) < i
     ·exact h3 t p1 e
     ·rw [show t = i.toNat by omega]; grind
    ·(refine bni ?_; repeat (refine bnk ?_; (try simp (disch:=first | omega | (simp only [LN]; omega)) only [↓EC,EW,seval,↓reduceIte,↓EBD,EBE])))
     (refine Split.mkB (fun h=>?_) (fun h=>?_) <;> (try simp only [SD] at h))
     ·omega
     ·(refine bni ?_; repeat (refine bnk ?_; (try simp (disch:=first | omega | (simp only [LN]; omega)) only [↓EC,EW,seval,↓reduceIte,↓EBD,EBE])))
      (refine Split.mkB (fun h=>?_) (fun h=>?_) <;> (try simp only [SD] at h))
      ·(refine bni ?_; repeat (refine bnk ?_; (try simp (disch:=first | omega | (simp only [LN]; omega)) only [↓EC,EW,seval,↓reduceIte,↓EBD,EBE])))
       exact ⟨_,rfl,fun q=>by cases q⟩
      ·omega
   ·(refine bni ?_; repeat (refine bnk ?_; (try simp (disch:=first | omega | (simp only [LN]; omega)) only [↓EC,EW,seval,↓reduceIte,↓EBD,EBE])))
    (refine Split.mkB (fun h=>?_) (fun h=>?_) <;> (try simp only [SD] at h))
    ·(refine bni ?_; repeat (refine bnk ?_; (try simp (disch:=first | omega | (simp only [LN]; omega)) only [↓EC,EW,seval,↓reduceIte,↓EBD,EBE])))
     exact ⟨_,rfl,fun _=>Srt.adj (fun t p1 p2=>h3 t p1 (by omega)) h0⟩
    ·omega
theorem c_brkS {l:List Int} {n:Nat} {a b:Int} (hn:l.length = n) (h0:0 <= a) (hab:a + 13 <= b) (hb:b <= n) (hl:n <= 16):PSpecM Tryz.prog 135 [.rf 0 0 n,.int .i64 a,.int .i64 b] [(0,2,1)] [vi .i64 l] fun v c=>v = .tup [] /\ ∃ m,c = [vi .i64 m] /\ Sw a b l m:=by
 refine slices_breakPatternsOrdered_int64_f.m rfl rfl ?_
 dsimp only [slices_breakPatternsOrdered_int64_F,pcal_B,pcalp_B,pcala_B,pcond_B,pgk_B,JN_B,LP_B]
 (refine bni ?_; repeat (refine bnk ?_; (try simp (disch:=first | omega | (simp only [LN]; omega)) only [↓EC,EW,seval,↓reduceIte,↓EBD,EBE])))
 have hd:(b - a).tdiv 4 * 2 = 6 ∨ (b - a).tdiv 4 * 2 = 8:=by
  have h3:=Int.mul_tdiv_add_tmod (b - a) 4
  have h4:=Int.tmod_nonneg 4 (show 0 <= b - a by omega)
  have h5:=Int.tmod_lt_of_pos (b - a) (show (0:Int) < 4 by omega)
  omega
 have hd':3 <= (b - a).tdiv 4 /\ (b - a).tdiv 4 <= 4:=by omega
 obtain ⟨d,hdd⟩:∃ d,(b - a).tdiv 4 = d:=⟨_,rfl⟩
 rw [hdd] at hd hd'
 (refine Split.mkB (fun h=>?_) (fun h=>?_) <;> (try simp only [SD] at h))
 rotate_left
 ·omega
 (refine bni ?_; repeat (refine bnk ?_; (try simp (disch:=first | omega | (simp only [LN]; omega)) only [↓EC,EW,seval,↓reduceIte,↓EBD,EBE])))
 obtain ⟨k,hk⟩:∃ k:Nat,b - a = (k:Int):=⟨(b - a).toNat,by omega⟩
 have hk2:13 <= k /\ k <= 16:=by omega
 have hdk:(k:Int).tdiv 4 = d:=by rw [<-hk,hdd]
 rw [hk]
 refine pcd_r (c_nextPow (k:=k) (by omega) (by omega)) ?_
 rintro _ (⟨hk1,rfl⟩ | ⟨hk1,rfl⟩)
 ·(refine bni ?_; repeat (refine bnk ?_; (try simp (disch:=first | omega | (simp only [LN]; omega)) only [↓EC,EW,seval,↓reduceIte,↓EBD,EBE,hdk])))
  refine LPx_of (σ:=(List Int × Int) × Int) 100000 [(0,2,1),(71,148,1)] (fun s=>[.int .i64 s.2]) (fun s=>[vi .i64 s.1.1,[.int .u64 s.1.2]])
   (fun s=>Sw a b l s.1.1 /\ a <= s.2) (fun s=>(a + d * 2 + 2 - s.2).toNat) ((l,k),a + d * 2 - 1) (by simp [frameOk,names,lpz,sclp,scv,scvs,nrfs,nrf,FRB]) ⟨.refl _,by simp only; omega⟩ ?_ ?_
  ·(refine bni ?_; repeat (refine bnk ?_; simp (disch:=first | omega | (simp only [LN]; omega)) only [↓EC,EW,seval,↓reduceIte,↓EBD,EBE,ColV_def]))
  ·rintro ⟨⟨m,h⟩,i⟩ ⟨hs,h2⟩
   simp only at hs h2
   have h1:m.length = n:=by rw [hs.len,hn]
   (refine bni ?_; repeat (refine bnk ?_; simp (disch:=first | omega | (simp only [LN]; omega)) only [↓EC,EW,seval,↓reduceIte,↓EBD,EBE,ColV_def,lheap_def,hdk]))
   (refine Split.mkB (fun h=>?_) (fun h=>?_) <;> (try simp only [SD] at h))
   ·(refine bni ?_; repeat (refine bnk ?_; (try simp (disch:=first | omega | (simp only [LN]; omega)) only [↓EC,EW,seval,↓reduceIte,↓EBD,EBE])))
    refine pcm [71] rfl ?_
    (refine bni ?_; repeat (refine bnk ?_; (try simp (disch:=first | omega | (simp only [LN]; omega)) only [↓EC,EW,seval,↓reduceIte,↓EBD,EBE])))
    refine callM_d c_Next ?_
    rintro _ _ ⟨r,h',rfl,rfl⟩
    (refine bni ?_; repeat (refine bnk ?_; (try simp (disch:=first | omega | (simp only [LN]; omega)) only [↓EC,EW,seval,↓reduceIte,↓EBD,EBE])))
    obtain ⟨q,hq,e⟩:=and15 (BitVec.ofInt IntKind.u64.bits r)
    rw [e]
    refine JNx_un ?_
    (refine bni ?_; repeat (refine bnk ?_; (try simp (disch:=first | omega | (simp only [LN]; omega)) only [↓EC,EW,seval,↓reduceIte,↓EBD,EBE])))
    (refine Split.mkB (fun h=>?_) (fun h=>?_) <;> (try simp only [SD] at h))
    ·(refine bni ?_; repeat (refine bnk ?_; (try simp (disch:=first | omega | (simp only [LN]; omega)) only [↓EC,EW,seval,↓reduceIte,↓EBD,EBE])))
     exact ⟨((swL m _ _,h'),i + 1),rfl,rfl,⟨.step hs (by omega) (by omega) (by omega) (by omega),by simp only; omega⟩,by simp only; omega⟩
    ·(refine bni ?_; repeat (refine bnk ?_; (try simp (disch:=first | omega | (simp only [LN]; omega)) only [↓EC,EW,seval,↓reduceIte,↓EBD,EBE])))
     exact ⟨((swL m _ _,h'),i + 1),rfl,rfl,⟨.step hs (by omega) (by omega) (by omega) (by omega),by simp only; omega⟩,by simp only; omega⟩
   ·(refine bni ?_; repeat (refine bnk ?_; (try simp (disch:=first | omega | (simp only [LN]; omega)) only [↓EC,EW,seval,↓reduceIte,↓EBD,EBE])))
    exact ⟨m,rfl,hs⟩
 ·(refine bni ?_; repeat (refine bnk ?_; (try simp (disch:=first | omega | (simp only [LN]; omega)) only [↓EC,EW,seval,↓reduceIte,↓EBD,EBE,hdk])))
  refine LPx_of (σ:=(List Int × Int) × Int) 100000 [(0,2,1),(71,148,1)] (fun s=>[.int .i64 s.2]) (fun s=>[vi .i64 s.1.1,[.int .u64 s.1.2]])
   (fun s=>Sw a b l s.1.1 /\ a <= s.2) (fun s=>(a + d * 2 + 2 - s.2).toNat) ((l,k),a + d * 2 - 1) (by simp [frameOk,names,lpz,sclp,scv,scvs,nrfs,nrf,FRB]) ⟨.refl _,by simp only; omega⟩ ?_ ?_
  ·(refine bni ?_; repeat (refine bnk ?_; simp (disch:=first | omega | (simp only [LN]; omega)) only [↓EC,EW,seval,↓reduceIte,↓EBD,EBE,ColV_def]))
  ·rintro ⟨⟨m,h⟩,i⟩ ⟨hs,h2⟩
   simp only at hs h2
   have h1:m.length = n:=by rw [hs.len,hn]
   (refine bni ?_; repeat (refine bnk ?_; simp (disch:=first | omega | (simp only [LN]; omega)) only [↓EC,EW,seval,↓reduceIte,↓EBD,EBE,ColV_def,lheap_def,hdk]))
   (refine Split.mkB (fun h=>?_) (fun h=>?_) <;> (try simp only [SD] at h))
   ·(refine bni ?_; repeat (refine bnk ?_; (try simp (disch:=first | omega | (simp only [LN]; omega)) only [↓EC,EW,seval,↓reduceIte,↓EBD,EBE])))
    refine pcm [71] rfl ?_
    (refine bni ?_; repeat (refine bnk ?_; (try simp (disch:=first | omega | (simp only [LN]; omega)) only [↓EC,EW,seval,↓reduceIte,↓EBD,EBE])))
    refine callM_d c_Next ?_
    rintro _ _ ⟨r,h',rfl,rfl⟩
    (refine bni ?_; repeat (refine bnk ?_; (try simp (disch:=first | omega | (simp only [LN]; omega)) only [↓EC,EW,seval,↓reduceIte,↓EBD,EBE])))
    obtain ⟨q,hq,e⟩:=and31 (BitVec.ofInt IntKind.u64.bits r)
    rw [e]
    refine JNx_un ?_
    (refine bni ?_; repeat (refine bnk ?_; (try simp (disch:=first | omega | (simp only [LN]; omega)) only [↓EC,EW,seval,↓reduceIte,↓EBD,EBE])))
    (refine Split.mkB (fun h=>?_) (fun h=>?_) <;> (try simp only [SD] at h))
    ·(refine bni ?_; repeat (refine bnk ?_; (try simp (disch:=first | omega | (simp only [LN]; omega)) only [↓EC,EW,seval,↓reduceIte,↓EBD,EBE])))
     exact ⟨((swL m _ _,h'),i + 1),rfl,rfl,⟨.step hs (by omega) (by omega) (by omega) (by omega),by simp only; omega⟩,by simp only; omega⟩
    ·(refine bni ?_; repeat (refine bnk ?_; (try simp (disch:=first | omega | (simp only [LN]; omega)) only [↓EC,EW,seval,↓reduceIte,↓EBD,EBE])))
     exact ⟨((swL m _ _,h'),i + 1),rfl,rfl,⟨.step hs (by omega) (by omega) (by omega) (by omega),by simp only; omega⟩,by simp only; omega⟩
   ·(refine bni ?_; repeat (refine bnk ?_; (try simp (disch:=first | omega | (simp only [LN]; omega)) only [↓EC,EW,seval,↓reduceIte,↓EBD,EBE])))
    exact ⟨m,rfl,hs⟩
structure Pt (R1 R2:Int -> Prop) (l:List Int) (a b pv:Int) (m:List Int) (i j:Int):Prop where
 sw:Sw a b l m
 pv:gi m a.toNat = pv
 lo:∀ t:Nat,a < t -> (t:Int) < i -> R1 (gi m t)
 hi:∀ t:Nat,j < t -> (t:Int) < b -> R2 (gi m t)
section
variable {R1 R2:Int -> Prop} {l m:List Int} {a b pv i j:Int}
theorem Pt.up (h:Pt R1 R2 l a b pv m i j) (hr:R1 (gi m i.toNat)) (h0:0 <= a /\ a < i):Pt R1 R2 l a b pv m (i + 1) j :=
 ⟨h.sw,h.pv,fun t p1 p2=>by
  by_cases e:(t:Int) < i
  ·exact h.lo t p1 e
  ·rw [show t = i.toNat by omega]; exact hr,h.hi⟩
theorem Pt.dn (h:Pt R1 R2 l a b pv m i j) (hr:R2 (gi m j.toNat)) (h0:0 <= j):Pt R1 R2 l a b pv m i (j - 1) :=
 ⟨h.sw,h.pv,h.lo,fun t p1 p2=>by
  by_cases e:j < (t:Int)
  ·exact h.hi t e p2
  ·rw [show t = j.toNat by omega]; exact hr⟩
theorem Pt.swp (h:Pt R1 R2 l a b pv m i j) (h2:R2 (gi m i.toNat)) (h1:R1 (gi m j.toNat)) (h0:0 <= a /\ a < i /\ i < j /\ j < b) (hm:b <= m.length):Pt R1 R2 l a b pv (swL m i.toNat j.toNat) (i + 1) (j - 1):=by
 have q1:i.toNat < m.length:=by omega
 have q2:j.toNat < m.length:=by omega
 refine ⟨.step h.sw (by omega) (by omega) q1 q2,?_,fun t p1 p2=>?_,fun t p1 p2=>?_⟩
 ·rw [swL_at q1 q2,if_neg (by omega),if_neg (by omega),h.pv]
 ·rw [swL_at q1 q2,if_neg (by omega)]
  split
  ·exact h1
  ·exact h.lo t p1 (by omega)
 ·rw [swL_at q1 q2]
  split
  ·exact h2
  ·rw [if_neg (by omega)]
   exact h.hi t (by omega) p2
theorem Pt.ini {p:Int} (h0:0 <= a) (hp:a <= p /\ p < b) (hm:b <= l.length):Pt R1 R2 l a b (gi l p.toNat) (swL l a.toNat p.toNat) (a + 1) (b - 1):=by
 have q1:a.toNat < l.length:=by omega
 have q2:p.toNat < l.length:=by omega
 refine ⟨.step (.refl _) (by omega) (by omega) q1 q2,?_,fun t p1 p2=>by omega,fun t p1 p2=>by omega⟩
 rw [swL_at q1 q2]
 split
 ·rename_i h; rw [h]
 ·rw [if_pos rfl]
theorem Pt.fin (h:Pt (· < pv) (pv <= ·) l a b pv m i j) (h0:0 <= a /\ a <= j /\ j < b) (hij:i = j + 1) (hm:b <= m.length) :
  Sw a b l (swL m j.toNat a.toNat) /\ (∀ t:Nat,a <= t -> (t:Int) < j -> gi (swL m j.toNat a.toNat) t <= gi (swL m j.toNat a.toNat) j.toNat) /\ ∀ t:Nat,j < t -> (t:Int) < b -> gi (swL m j.toNat a.toNat) j.toNat <= gi (swL m j.toNat a.toNat) t:=by
 have q1:j.toNat < m.length:=by omega
 have q2:a.toNat < m.length:=by omega
 have e:gi (swL m j.toNat a.toNat) j.toNat = pv:=by
  rw [swL_at q1 q2]
  split
  ·rename_i e; rw [e]; exact h.pv
  ·rw [if_pos rfl]; exact h.pv
 refine ⟨.step h.sw (by omega) (by omega) q1 q2,fun t p1 p2=>?_,fun t p1 p2=>?_⟩
 ·rw [e,swL_at q1 q2]
  split
  ·have:=h.lo j.toNat (by omega) (by omega); omega
  ·rw [if_neg (by omega)]
   have:=h.lo t (by omega) (by omega); omega
 ·rw [e,swL_at q1 q2,if_neg (by omega),if_neg (by omega)]
  exact h.hi t p1 p2
end
theorem c_pteS {l:List Int} {n:Nat} {a b p:Int} (hn:l.length = n) (h0:0 <= a) (hab:a + 1 <= b) (hb:b <= n) (hp:a <= p /\ p < b) (hl:n <= 1000):PSpecM Tryz.prog 140 [.rf 0 0 n,.int .i64 a,.int .i64 b,.int .i64 p] [(0,2,1)] [vi .i64 l] fun v c =>
  ∃ x m,v = .int .i64 x /\ c = [vi .i64 m] /\ Sw a b l m /\ a < x /\ x <= b /\ (∀ t:Nat,a <= t -> (t:Int) < x -> gi m t <= gi l p.toNat) /\ ∀ t:Nat,x <= t -> (t:Int) < b -> gi l p.toNat < gi m t:=by
 refine slices_partitionEqualOrdered_int64_f.m rfl rfl ?_
 dsimp only [slices_partitionEqualOrdered_int64_F,pcal_B,pcalp_B,pcala_B,pcond_B,pgk_B,JN_B,LP_B]
 (refine bni ?_; repeat (refine bnk ?_; (try simp (disch:=first | omega | (simp only [LN]; omega)) only [↓EC,EW,seval,↓reduceIte,↓EBD,EBE])))
 have hP0:=Pt.ini (R1:=(· <= gi l p.toNat)) (R2:=(gi l p.toNat < ·)) (l:=l) h0 hp (by omega)
 generalize hM:(l.set a.toNat (gi l p.toNat)).set p.toNat (gi l a.toNat) = m
 have hM':swL l a.toNat p.toNat = m:=hM
 rw [hM'] at hP0
 obtain ⟨pv,hpv⟩:∃ pv,gi l p.toNat = pv:=⟨_,rfl⟩
 rw [hpv] at hP0
 have hP:=hP0
 have h1:m.length = n:=by rw [<-hM]; simp [hn]
 refine LPx_of (σ:=List Int × Int × Int) 100000 [(0,2,1)] (fun s=>[.int .i64 s.2.1,.int .i64 s.2.2]) (fun s=>[vi .i64 s.1])
  (fun s=>Pt (· <= pv) (pv < ·) l a b pv s.1 s.2.1 s.2.2 /\ a + 1 <= s.2.1 /\ s.2.1 <= s.2.2 + 1 /\ s.2.2 <= b - 1 /\ s.2.1 <= b /\ a <= s.2.2) (fun s=>(s.2.2 + 2 - s.2.1).toNat) (m,a + 1,b - 1) (by simp [frameOk,names,lpz,sclp,scv,scvs,nrfs,nrf,FRB]) ⟨hP,by simp only; omega⟩ ?_ ?_
 ·(refine bni ?_; repeat (refine bnk ?_; simp (disch:=first | omega | (simp only [LN]; omega)) only [↓EC,EW,seval,↓reduceIte,↓EBD,EBE,ColV_def]))
 ·rintro ⟨m,i,j⟩ ⟨hP,h2,h3,h4,h9,h10⟩
  simp only at hP h2 h3 h4 h9 h10
  have h1:m.length = n:=by rw [hP.sw.len,hn]
  (refine bni ?_; repeat (refine bnk ?_; simp (disch:=first | omega | (simp only [LN]; omega)) only [↓EC,EW,seval,↓reduceIte,↓EBD,EBE,ColV_def,lheap_def]))
  (refine bni ?_; repeat (refine bnk ?_; (try simp (disch:=first | omega | (simp only [LN]; omega)) only [↓EC,EW,seval,↓reduceIte,↓EBD,EBE])))
  refine LPx_of (σ:=Int) 200000 [(0,2,1)] (fun s=>[.int .i64 s]) (fun s=>[vi .i64 m]) (fun s=>(i <= s /\ s <= j + 1) /\ Pt (· <= pv) (pv < ·) l a b pv m s (j)) (fun s=>(j + 1 - s).toNat) (i) (by simp [frameOk,names,lpz,sclp,scv,scvs,nrfs,nrf,FRB]) ⟨by omega,hP⟩ ?_ ?_
  ·(refine bni ?_; repeat (refine bnk ?_; simp (disch:=first | omega | (simp only [LN]; omega)) only [↓EC,EW,seval,↓reduceIte,↓EBD,EBE,ColV_def]))
  ·rintro i' ⟨⟨h5,h6⟩,hP'⟩
   (refine bni ?_; repeat (refine bnk ?_; simp (disch:=first | omega | (simp only [LN]; omega)) only [↓EC,EW,seval,↓reduceIte,↓EBD,EBE,ColV_def,lheap_def]))
   (refine Split.mkB (fun h=>?_) (fun h=>?_) <;> (try simp only [SD] at h))
   ·(refine bni ?_; repeat (refine bnk ?_; (try simp (disch:=first | omega | (simp only [LN]; omega)) only [↓EC,EW,seval,↓reduceIte,↓EBD,EBE])))
    refine pcd_v c_less ?_
    (refine bni ?_; repeat (refine bnk ?_; (try simp (disch:=first | omega | (simp only [LN]; omega)) only [↓EC,EW,seval,↓reduceIte,↓EBD,EBE])))
    (refine Split.mkB (fun h=>?_) (fun h=>?_) <;> (try simp only [SD] at h))
    ·(refine bni ?_; repeat (refine bnk ?_; (try simp (disch:=first | omega | (simp only [LN]; omega)) only [↓EC,EW,seval,↓reduceIte,↓EBD,EBE])))
     have hr:gi m i'.toNat <= pv:=by have:=hP'.pv; grind
     exact ⟨i' + 1,rfl,⟨by omega,hP'.up hr (by omega)⟩,by omega⟩
    ·(refine bni ?_; repeat (refine bnk ?_; (try simp (disch:=first | omega | (simp only [LN]; omega)) only [↓EC,EW,seval,↓reduceIte,↓EBD,EBE])))
     have hq:pv < gi m i'.toNat:=by have:=hP'.pv; grind
     refine LPx_of (σ:=Int) 300000 [(0,2,1)] (fun s=>[.int .i64 s]) (fun s=>[vi .i64 m]) (fun s=>(s <= j /\ (i' <= s + 1)) /\ Pt (· <= pv) (pv < ·) l a b pv m i' s) (fun s=>(s + 1 - i').toNat) (j) (by simp [frameOk,names,lpz,sclp,scv,scvs,nrfs,nrf,FRB]) ⟨by omega,hP'⟩ ?_ ?_
     ·(refine bni ?_; repeat (refine bnk ?_; simp (disch:=first | omega | (simp only [LN]; omega)) only [↓EC,EW,seval,↓reduceIte,↓EBD,EBE,ColV_def]))
     ·rintro j' ⟨⟨h7,h8⟩,hP''⟩
      (refine bni ?_; repeat (refine bnk ?_; simp (disch:=first | omega | (simp only [LN]; omega)) only [↓EC,EW,seval,↓reduceIte,↓EBD,EBE,ColV_def,lheap_def]))
      (refine Split.mkB (fun h=>?_) (fun h=>?_) <;> (try simp only [SD] at h))
      ·(refine bni ?_; repeat (refine bnk ?_; (try simp (disch:=first | omega | (simp only [LN]; omega)) only [↓EC,EW,seval,↓reduceIte,↓EBD,EBE])))
       refine pcd_v c_less ?_
       (refine bni ?_; repeat (refine bnk ?_; (try simp (disch:=first | omega | (simp only [LN]; omega)) only [↓EC,EW,seval,↓reduceIte,↓EBD,EBE])))
       (refine Split.mkB (fun h=>?_) (fun h=>?_) <;> (try simp only [SD] at h))
       ·(refine bni ?_; repeat (refine bnk ?_; (try simp (disch:=first | omega | (simp only [LN]; omega)) only [↓EC,EW,seval,↓reduceIte,↓EBD,EBE])))
        have hr:pv < gi m j'.toNat:=by have:=hP''.pv; grind
        exact ⟨j' - 1,rfl,⟨by omega,hP''.dn hr (by omega)⟩,by omega⟩
       ·(refine bni ?_; repeat (refine bnk ?_; (try simp (disch:=first | omega | (simp only [LN]; omega)) only [↓EC,EW,seval,↓reduceIte,↓EBD,EBE])))
        (refine Split.mkB (fun h=>?_) (fun h=>?_) <;> (try simp only [SD] at h))
        ·omega
        ·(refine bni ?_; repeat (refine bnk ?_; (try simp (disch:=first | omega | (simp only [LN]; omega)) only [↓EC,EW,seval,↓reduceIte,↓EBD,EBE])))
         have hr:gi m j'.toNat <= pv:=by have:=hP''.pv; grind
         have hne:i' ≠ j':=by rintro rfl; omega
         exact ⟨(swL m i'.toNat j'.toNat,i' + 1,j' - 1),rfl,rfl,⟨hP''.swp hq hr (by omega) (by omega),by simp only; omega⟩,by simp only; omega⟩
      ·(refine bni ?_; repeat (refine bnk ?_; (try simp (disch:=first | omega | (simp only [LN]; omega)) only [↓EC,EW,seval,↓reduceIte,↓EBD,EBE])))
       (refine Split.mkB (fun h=>?_) (fun h=>?_) <;> (try simp only [SD] at h))
       ·(refine bni ?_; repeat (refine bnk ?_; (try simp (disch:=first | omega | (simp only [LN]; omega)) only [↓EC,EW,seval,↓reduceIte,↓EBD,EBE])))
        refine ⟨_,m,rfl,rfl,hP''.sw,by omega,by omega,fun t p1 p2=>?_,fun t p1 p2=>?_⟩
        ·rw [hpv]
         by_cases e:(t:Int) = a
         ·have:=hP''.pv
          rw [show t = a.toNat by omega,this]; exact Int.le_refl _
         ·exact hP''.lo t (by omega) p2
        ·rw [hpv]; exact hP''.hi t (by omega) p2
       ·omega
   ·(refine bni ?_; repeat (refine bnk ?_; (try simp (disch:=first | omega | (simp only [LN]; omega)) only [↓EC,EW,seval,↓reduceIte,↓EBD,EBE])))
    refine LPx_of (σ:=Int) 300000 [(0,2,1)] (fun s=>[.int .i64 s]) (fun s=>[vi .i64 m]) (fun s=>(s <= j /\ (i' <= s + 1)) /\ Pt (· <= pv) (pv < ·) l a b pv m i' s) (fun s=>(s + 1 - i').toNat) (j) (by simp [frameOk,names,lpz,sclp,scv,scvs,nrfs,nrf,FRB]) ⟨by omega,hP'⟩ ?_ ?_
    ·(refine bni ?_; repeat (refine bnk ?_; simp (disch:=first | omega | (simp only [LN]; omega)) only [↓EC,EW,seval,↓reduceIte,↓EBD,EBE,ColV_def]))
    ·rintro j' ⟨⟨h7,h8⟩,hP''⟩
     (refine bni ?_; repeat (refine bnk ?_; simp (disch:=first | omega | (simp only [LN]; omega)) only [↓EC,EW,seval,↓reduceIte,↓EBD,EBE,ColV_def,lheap_def]))
     (refine Split.mkB (fun h=>?_) (fun h=>?_) <;> (try simp only [SD] at h))
     ·(refine bni ?_; repeat (refine bnk ?_; (try simp (disch:=first | omega | (simp only [LN]; omega)) only [↓EC,EW,seval,↓reduceIte,↓EBD,EBE])))
      refine pcd_v c_less ?_
      (refine bni ?_; repeat (refine bnk ?_; (try simp (disch:=first | omega | (simp only [LN]; omega)) only [↓EC,EW,seval,↓reduceIte,↓EBD,EBE])))
      (refine Split.mkB (fun h=>?_) (fun h=>?_) <;> (try simp only [SD] at h))
      ·(refine bni ?_; repeat (refine bnk ?_; (try simp (disch:=first | omega | (simp only [LN]; omega)) only [↓EC,EW,seval,↓reduceIte,↓EBD,EBE])))
       have hr:pv < gi m j'.toNat:=by have:=hP''.pv; grind
       exact ⟨j' - 1,rfl,⟨by omega,hP''.dn hr (by omega)⟩,by omega⟩
      ·(refine bni ?_; repeat (refine bnk ?_; (try simp (disch:=first | omega | (simp only [LN]; omega)) only [↓EC,EW,seval,↓reduceIte,↓EBD,EBE])))
       (refine Split.mkB (fun h=>?_) (fun h=>?_) <;> (try simp only [SD] at h))
       ·omega
       ·(refine bni ?_; repeat (refine bnk ?_; (try simp (disch:=first | omega | (simp only [LN]; omega)) only [↓EC,EW,seval,↓reduceIte,↓EBD,EBE])))
        have hr:gi m j'.toNat <= pv:=by have:=hP''.pv; grind
        omega
     ·(refine bni ?_; repeat (refine bnk ?_; (try simp (disch:=first | omega | (simp only [LN]; omega)) only [↓EC,EW,seval,↓reduceIte,↓EBD,EBE])))
      (refine Split.mkB (fun h=>?_) (fun h=>?_) <;> (try simp only [SD] at h))
      ·(refine bni ?_; repeat (refine bnk ?_; (try simp (disch:=first | omega | (simp only [LN]; omega)) only [↓EC,EW,seval,↓reduceIte,↓EBD,EBE])))
       refine ⟨_,m,rfl,rfl,hP''.sw,by omega,by omega,fun t p1 p2=>?_,fun t p1 p2=>?_⟩
       ·rw [hpv]
        by_cases e:(t:Int) = a
        ·have:=hP''.pv
         rw [show t = a.toNat by omega,this]; exact Int.le_refl _
        ·exact hP''.lo t (by omega) p2
       ·rw [hpv]; exact hP''.hi t (by omega) p2
      ·omega
theorem c_ptS {l:List Int} {n:Nat} {a b p:Int} (hn:l.length = n) (h0:0 <= a) (hab:a + 1 <= b) (hb:b <= n) (hp:a <= p /\ p < b) (hl:n <= 1000):PSpecM Tryz.prog 141 [.rf 0 0 n,.int .i64 a,.int .i64 b,.int .i64 p] [(0,2,1)] [vi .i64 l] fun v c =>
  ∃ x r m,v = .tup [.int .i64 x,.bool r] /\ c = [vi .i64 m] /\ Sw a b l m /\ a <= x /\ x < b /\ (∀ t:Nat,a <= t -> (t:Int) < x -> gi m t <= gi m x.toNat) /\ ∀ t:Nat,x < t -> (t:Int) < b -> gi m x.toNat <= gi m t:=by
 refine slices_partitionOrdered_int64_f.m rfl rfl ?_
 dsimp only [slices_partitionOrdered_int64_F,pcal_B,pcalp_B,pcala_B,pcond_B,pgk_B,JN_B,LP_B]
 (refine bni ?_; repeat (refine bnk ?_; (try simp (disch:=first | omega | (simp only [LN]; omega)) only [↓EC,EW,seval,↓reduceIte,↓EBD,EBE])))
 have hP0:=Pt.ini (R1:=(· < gi l p.toNat)) (R2:=(gi l p.toNat <= ·)) (l:=l) h0 hp (by omega)
 generalize hM:(l.set a.toNat (gi l p.toNat)).set p.toNat (gi l a.toNat) = m
 have hM':swL l a.toNat p.toNat = m:=hM
 rw [hM'] at hP0
 obtain ⟨pv,hpv⟩:∃ pv,gi l p.toNat = pv:=⟨_,rfl⟩
 rw [hpv] at hP0
 have hP:=hP0
 have h1:m.length = n:=by rw [<-hM]; simp [hn]
 refine LPx_of (σ:=Int) 200000 [(0,2,1)] (fun s=>[.int .i64 s]) (fun s=>[vi .i64 m]) (fun s=>(a + 1 <= s /\ s <= b - 1 + 1) /\ Pt (· < pv) (pv <= ·) l a b pv m s (b - 1)) (fun s=>(b - 1 + 1 - s).toNat) (a + 1) (by simp [frameOk,names,lpz,sclp,scv,scvs,nrfs,nrf,FRB]) ⟨by omega,hP⟩ ?_ ?_
 ·(refine bni ?_; repeat (refine bnk ?_; simp (disch:=first | omega | (simp only [LN]; omega)) only [↓EC,EW,seval,↓reduceIte,↓EBD,EBE,ColV_def]))
 ·rintro i' ⟨⟨h5,h6⟩,hP'⟩
  (refine bni ?_; repeat (refine bnk ?_; simp (disch:=first | omega | (simp only [LN]; omega)) only [↓EC,EW,seval,↓reduceIte,↓EBD,EBE,ColV_def,lheap_def]))
  (refine Split.mkB (fun h=>?_) (fun h=>?_) <;> (try simp only [SD] at h))
  ·(refine bni ?_; repeat (refine bnk ?_; (try simp (disch:=first | omega | (simp only [LN]; omega)) only [↓EC,EW,seval,↓reduceIte,↓EBD,EBE])))
   refine pcd_v c_less ?_
   (refine bni ?_; repeat (refine bnk ?_; (try simp (disch:=first | omega | (simp only [LN]; omega)) only [↓EC,EW,seval,↓reduceIte,↓EBD,EBE])))
   (refine Split.mkB (fun h=>?_) (fun h=>?_) <;> (try simp only [SD] at h))
   ·(refine bni ?_; repeat (refine bnk ?_; (try simp (disch:=first | omega | (simp only [LN]; omega)) only [↓EC,EW,seval,↓reduceIte,↓EBD,EBE])))
    have hr:gi m i'.toNat < pv:=by have:=hP'.pv; grind
    exact ⟨i' + 1,rfl,⟨by omega,hP'.up hr (by omega)⟩,by omega⟩
   ·(refine bni ?_; repeat (refine bnk ?_; (try simp (disch:=first | omega | (simp only [LN]; omega)) only [↓EC,EW,seval,↓reduceIte,↓EBD,EBE])))
    have hq:pv <= gi m i'.toNat:=by have:=hP'.pv; grind
    refine LPx_of (σ:=Int) 300000 [(0,2,1)] (fun s=>[.int .i64 s]) (fun s=>[vi .i64 m]) (fun s=>(s <= b - 1 /\ (i' <= s + 1)) /\ Pt (· < pv) (pv <= ·) l a b pv m i' s) (fun s=>(s + 1 - i').toNat) (b - 1) (by simp [frameOk,names,lpz,sclp,scv,scvs,nrfs,nrf,FRB]) ⟨by omega,hP'⟩ ?_ ?_
    ·(refine bni ?_; repeat (refine bnk ?_; simp (disch:=first | omega | (simp only [LN]; omega)) only [↓EC,EW,seval,↓reduceIte,↓EBD,EBE,ColV_def]))
    ·rintro j' ⟨⟨h7,h8⟩,hP''⟩
     (refine bni ?_; repeat (refine bnk ?_; simp (disch:=first | omega | (simp only [LN]; omega)) only [↓EC,EW,seval,↓reduceIte,↓EBD,EBE,ColV_def,lheap_def]))
     (refine Split.mkB (fun h=>?_) (fun h=>?_) <;> (try simp only [SD] at h))
     ·(refine bni ?_; repeat (refine bnk ?_; (try simp (disch:=first | omega | (simp only [LN]; omega)) only [↓EC,EW,seval,↓reduceIte,↓EBD,EBE])))
      refine pcd_v c_less ?_
      (refine bni ?_; repeat (refine bnk ?_; (try simp (disch:=first | omega | (simp only [LN]; omega)) only [↓EC,EW,seval,↓reduceIte,↓EBD,EBE])))
      (refine Split.mkB (fun h=>?_) (fun h=>?_) <;> (try simp only [SD] at h))
      ·(refine bni ?_; repeat (refine bnk ?_; (try simp (disch:=first | omega | (simp only [LN]; omega)) only [↓EC,EW,seval,↓reduceIte,↓EBD,EBE])))
       have hr:pv <= gi m j'.toNat:=by have:=hP''.pv; grind
       exact ⟨j' - 1,rfl,⟨by omega,hP''.dn hr (by omega)⟩,by omega⟩
      ·(refine bni ?_; repeat (refine bnk ?_; (try simp (disch:=first | omega | (simp only [LN]; omega)) only [↓EC,EW,seval,↓reduceIte,↓EBD,EBE])))
       (refine Split.mkB (fun h=>?_) (fun h=>?_) <;> (try simp only [SD] at h))
       ·omega
       ·(refine bni ?_; repeat (refine bnk ?_; (try simp (disch:=first | omega | (simp only [LN]; omega)) only [↓EC,EW,seval,↓reduceIte,↓EBD,EBE])))
        have hr:gi m j'.toNat < pv:=by have:=hP''.pv; grind
        have hne:i' ≠ j':=by rintro rfl; omega
        refine LPx_of (σ:=List Int × Int × Int) 500000 [(0,2,1)] (fun s=>[.int .i64 s.2.1,.int .i64 s.2.2]) (fun s=>[vi .i64 s.1])
         (fun s=>Pt (· < pv) (pv <= ·) l a b pv s.1 s.2.1 s.2.2 /\ a + 1 <= s.2.1 /\ s.2.1 <= s.2.2 + 1 /\ s.2.2 <= b - 1 /\ s.2.1 <= b /\ a <= s.2.2) (fun s=>(s.2.2 + 2 - s.2.1).toNat) (swL m i'.toNat j'.toNat,i' + 1,j' - 1) (by simp [frameOk,names,lpz,sclp,scv,scvs,nrfs,nrf,FRB]) ⟨hP''.swp hq hr (by omega) (by omega),by simp only; omega⟩ ?_ ?_
        ·(refine bni ?_; repeat (refine bnk ?_; simp (disch:=first | omega | (simp only [LN]; omega)) only [↓EC,EW,seval,↓reduceIte,↓EBD,EBE,ColV_def]))
         rfl
        ·rintro ⟨m,i,j⟩ ⟨hP,h2,h3,h4,h9,h10⟩
         simp only at hP h2 h3 h4 h9 h10
         have h1:m.length = n:=by rw [hP.sw.len,hn]
         (refine bni ?_; repeat (refine bnk ?_; simp (disch:=first | omega | (simp only [LN]; omega)) only [↓EC,EW,seval,↓reduceIte,↓EBD,EBE,ColV_def,lheap_def]))
         (refine bni ?_; repeat (refine bnk ?_; (try simp (disch:=first | omega | (simp only [LN]; omega)) only [↓EC,EW,seval,↓reduceIte,↓EBD,EBE])))
         refine LPx_of (σ:=Int) 600000 [(0,2,1)] (fun s=>[.int .i64 s]) (fun s=>[vi .i64 m]) (fun s=>(i <= s /\ s <= j + 1) /\ Pt (· < pv) (pv <= ·) l a b pv m s (j)) (fun s=>(j + 1 - s).toNat) (i) (by simp [frameOk,names,lpz,sclp,scv,scvs,nrfs,nrf,FRB]) ⟨by omega,hP⟩ ?_ ?_
         ·(refine bni ?_; repeat (refine bnk ?_; simp (disch:=first | omega | (simp only [LN]; omega)) only [↓EC,EW,seval,↓reduceIte,↓EBD,EBE,ColV_def]))
         ·rintro i' ⟨⟨h5,h6⟩,hP'⟩
          (refine bni ?_; repeat (refine bnk ?_; simp (disch:=first | omega | (simp only [LN]; omega)) only [↓EC,EW,seval,↓reduceIte,↓EBD,EBE,ColV_def,lheap_def]))
          (refine Split.mkB (fun h=>?_) (fun h=>?_) <;> (try simp only [SD] at h))
          ·(refine bni ?_; repeat (refine bnk ?_; (try simp (disch:=first | omega | (simp only [LN]; omega)) only [↓EC,EW,seval,↓reduceIte,↓EBD,EBE])))
           refine pcd_v c_less ?_
           (refine bni ?_; repeat (refine bnk ?_; (try simp (disch:=first | omega | (simp only [LN]; omega)) only [↓EC,EW,seval,↓reduceIte,↓EBD,EBE])))
           (refine Split.mkB (fun h=>?_) (fun h=>?_) <;> (try simp only [SD] at h))
           ·(refine bni ?_; repeat (refine bnk ?_; (try simp (disch:=first | omega | (simp only [LN]; omega)) only [↓EC,EW,seval,↓reduceIte,↓EBD,EBE])))
            have hr:gi m i'.toNat < pv:=by have:=hP'.pv; grind
            exact ⟨i' + 1,rfl,⟨by omega,hP'.up hr (by omega)⟩,by omega⟩
           ·(refine bni ?_; repeat (refine bnk ?_; (try simp (disch:=first | omega | (simp only [LN]; omega)) only [↓EC,EW,seval,↓reduceIte,↓EBD,EBE])))
            have hq:pv <= gi m i'.toNat:=by have:=hP'.pv; grind
            refine LPx_of (σ:=Int) 700000 [(0,2,1)] (fun s=>[.int .i64 s]) (fun s=>[vi .i64 m]) (fun s=>(s <= j /\ (i' <= s + 1)) /\ Pt (· < pv) (pv <= ·) l a b pv m i' s) (fun s=>(s + 1 - i').toNat) (j) (by simp [frameOk,names,lpz,sclp,scv,scvs,nrfs,nrf,FRB]) ⟨by omega,hP'⟩ ?_ ?_
            ·(refine bni ?_; repeat (refine bnk ?_; simp (disch:=first | omega | (simp only [LN]; omega)) only [↓EC,EW,seval,↓reduceIte,↓EBD,EBE,ColV_def]))
            ·rintro j' ⟨⟨h7,h8⟩,hP''⟩
             (refine bni ?_; repeat (refine bnk ?_; simp (disch:=first | omega | (simp only [LN]; omega)) only [↓EC,EW,seval,↓reduceIte,↓EBD,EBE,ColV_def,lheap_def]))
             (refine Split.mkB (fun h=>?_) (fun h=>?_) <;> (try simp only [SD] at h))
             ·(refine bni ?_; repeat (refine bnk ?_; (try simp (disch:=first | omega | (simp only [LN]; omega)) only [↓EC,EW,seval,↓reduceIte,↓EBD,EBE])))
              refine pcd_v c_less ?_
              (refine bni ?_; repeat (refine bnk ?_; (try simp (disch:=first | omega | (simp only [LN]; omega)) only [↓EC,EW,seval,↓reduceIte,↓EBD,EBE])))
              (refine Split.mkB (fun h=>?_) (fun h=>?_) <;> (try simp only [SD] at h))
              ·(refine bni ?_; repeat (refine bnk ?_; (try simp (disch:=first | omega | (simp only [LN]; omega)) only [↓EC,EW,seval,↓reduceIte,↓EBD,EBE])))
               have hr:pv <= gi m j'.toNat:=by have:=hP''.pv; grind
               exact ⟨j' - 1,rfl,⟨by omega,hP''.dn hr (by omega)⟩,by omega⟩
              ·(refine bni ?_; repeat (refine bnk ?_; (try simp (disch:=first | omega | (simp only [LN]; omega)) only [↓EC,EW,seval,↓reduceIte,↓EBD,EBE])))
               (refine Split.mkB (fun h=>?_) (fun h=>?_) <;> (try simp only [SD] at h))
               ·omega
               ·(refine bni ?_; repeat (refine bnk ?_; (try simp (disch:=first | omega | (simp only [LN]; omega)) only [↓EC,EW,seval,↓reduceIte,↓EBD,EBE])))
                have hr:gi m j'.toNat < pv:=by have:=hP''.pv; grind
                have hne:i' ≠ j':=by rintro rfl; omega
                exact ⟨(swL m i'.toNat j'.toNat,i' + 1,j' - 1),rfl,rfl,⟨hP''.swp hq hr (by omega) (by omega),by simp only; omega⟩,by simp only; omega⟩
             ·(refine bni ?_; repeat (refine bnk ?_; (try simp (disch:=first | omega | (simp only [LN]; omega)) only [↓EC,EW,seval,↓reduceIte,↓EBD,EBE])))
              (refine Split.mkB (fun h=>?_) (fun h=>?_) <;> (try simp only [SD] at h))
              ·(refine bni ?_; repeat (refine bnk ?_; (try simp (disch:=first | omega | (simp only [LN]; omega)) only [↓EC,EW,seval,↓reduceIte,↓EBD,EBE])))
               obtain ⟨g1,g2,g3⟩:=hP''.fin (by omega) (by omega) (by omega)
               exact ⟨_,_,swL m j'.toNat a.toNat,rfl,rfl,g1,by omega,by omega,g2,g3⟩
              ·omega
          ·(refine bni ?_; repeat (refine bnk ?_; (try simp (disch:=first | omega | (simp only [LN]; omega)) only [↓EC,EW,seval,↓reduceIte,↓EBD,EBE])))
           refine LPx_of (σ:=Int) 700000 [(0,2,1)] (fun s=>[.int .i64 s]) (fun s=>[vi .i64 m]) (fun s=>(s <= j /\ (i' <= s + 1)) /\ Pt (· < pv) (pv <= ·) l a b pv m i' s) (fun s=>(s + 1 - i').toNat) (j) (by simp [frameOk,names,lpz,sclp,scv,scvs,nrfs,nrf,FRB]) ⟨by omega,hP'⟩ ?_ ?_
           ·(refine bni ?_; repeat (refine bnk ?_; simp (disch:=first | omega | (simp only [LN]; omega)) only [↓EC,EW,seval,↓reduceIte,↓EBD,EBE,ColV_def]))
           ·rintro j' ⟨⟨h7,h8⟩,hP''⟩
            (refine bni ?_; repeat (refine bnk ?_; simp (disch:=first | omega | (simp only [LN]; omega)) only [↓EC,EW,seval,↓reduceIte,↓EBD,EBE,ColV_def,lheap_def]))
            (refine Split.mkB (fun h=>?_) (fun h=>?_) <;> (try simp only [SD] at h))
            ·(refine bni ?_; repeat (refine bnk ?_; (try simp (disch:=first | omega | (simp only [LN]; omega)) only [↓EC,EW,seval,↓reduceIte,↓EBD,EBE])))
             refine pcd_v c_less ?_
             (refine bni ?_; repeat (refine bnk ?_; (try simp (disch:=first | omega | (simp only [LN]; omega)) only [↓EC,EW,seval,↓reduceIte,↓EBD,EBE])))
             (refine Split.mkB (fun h=>?_) (fun h=>?_) <;> (try simp only [SD] at h))
             ·(refine bni ?_; repeat (refine bnk ?_; (try simp (disch:=first | omega | (simp only [LN]; omega)) only [↓EC,EW,seval,↓reduceIte,↓EBD,EBE])))
              have hr:pv <= gi m j'.toNat:=by have:=hP''.pv; grind
              exact ⟨j' - 1,rfl,⟨by omega,hP''.dn hr (by omega)⟩,by omega⟩
             ·(refine bni ?_; repeat (refine bnk ?_; (try simp (disch:=first | omega | (simp only [LN]; omega)) only [↓EC,EW,seval,↓reduceIte,↓EBD,EBE])))
              (refine Split.mkB (fun h=>?_) (fun h=>?_) <;> (try simp only [SD] at h))
              ·omega
              ·(refine bni ?_; repeat (refine bnk ?_; (try simp (disch:=first | omega | (simp only [LN]; omega)) only [↓EC,EW,seval,↓reduceIte,↓EBD,EBE])))
               have hr:gi m j'.toNat < pv:=by have:=hP''.pv; grind
               omega
            ·(refine bni ?_; repeat (refine bnk ?_; (try simp (disch:=first | omega | (simp only [LN]; omega)) only [↓EC,EW,seval,↓reduceIte,↓EBD,EBE])))
             (refine Split.mkB (fun h=>?_) (fun h=>?_) <;> (try simp only [SD] at h))
             ·(refine bni ?_; repeat (refine bnk ?_; (try simp (disch:=first | omega | (simp only [LN]; omega)) only [↓EC,EW,seval,↓reduceIte,↓EBD,EBE])))
              obtain ⟨g1,g2,g3⟩:=hP''.fin (by omega) (by omega) (by omega)
              exact ⟨_,_,swL m j'.toNat a.toNat,rfl,rfl,g1,by omega,by omega,g2,g3⟩
             ·omega
     ·(refine bni ?_; repeat (refine bnk ?_; (try simp (disch:=first | omega | (simp only [LN]; omega)) only [↓EC,EW,seval,↓reduceIte,↓EBD,EBE])))
      (refine Split.mkB (fun h=>?_) (fun h=>?_) <;> (try simp only [SD] at h))
      ·(refine bni ?_; repeat (refine bnk ?_; (try simp (disch:=first | omega | (simp only [LN]; omega)) only [↓EC,EW,seval,↓reduceIte,↓EBD,EBE])))
       obtain ⟨g1,g2,g3⟩:=hP''.fin (by omega) (by omega) (by omega)
       exact ⟨_,_,swL m j'.toNat a.toNat,rfl,rfl,g1,by omega,by omega,g2,g3⟩
      ·omega
  ·(refine bni ?_; repeat (refine bnk ?_; (try simp (disch:=first | omega | (simp only [LN]; omega)) only [↓EC,EW,seval,↓reduceIte,↓EBD,EBE])))
   refine LPx_of (σ:=Int) 300000 [(0,2,1)] (fun s=>[.int .i64 s]) (fun s=>[vi .i64 m]) (fun s=>(s <= b - 1 /\ (i' <= s + 1)) /\ Pt (· < pv) (pv <= ·) l a b pv m i' s) (fun s=>(s + 1 - i').toNat) (b - 1) (by simp [frameOk,names,lpz,sclp,scv,scvs,nrfs,nrf,FRB]) ⟨by omega,hP'⟩ ?_ ?_
   ·(refine bni ?_; repeat (refine bnk ?_; simp (disch:=first | omega | (simp only [LN]; omega)) only [↓EC,EW,seval,↓reduceIte,↓EBD,EBE,ColV_def]))
   ·rintro j' ⟨⟨h7,h8⟩,hP''⟩
    (refine bni ?_; repeat (refine bnk ?_; simp (disch:=first | omega | (simp only [LN]; omega)) only [↓EC,EW,seval,↓reduceIte,↓EBD,EBE,ColV_def,lheap_def]))
    (refine Split.mkB (fun h=>?_) (fun h=>?_) <;> (try simp only [SD] at h))
    ·(refine bni ?_; repeat (refine bnk ?_; (try simp (disch:=first | omega | (simp only [LN]; omega)) only [↓EC,EW,seval,↓reduceIte,↓EBD,EBE])))
     refine pcd_v c_less ?_
     (refine bni ?_; repeat (refine bnk ?_; (try simp (disch:=first | omega | (simp only [LN]; omega)) only [↓EC,EW,seval,↓reduceIte,↓EBD,EBE])))
     (refine Split.mkB (fun h=>?_) (fun h=>?_) <;> (try simp only [SD] at h))
     ·(refine bni ?_; repeat (refine bnk ?_; (try simp (disch:=first | omega | (simp only [LN]; omega)) only [↓EC,EW,seval,↓reduceIte,↓EBD,EBE])))
      have hr:pv <= gi m j'.toNat:=by have:=hP''.pv; grind
      exact ⟨j' - 1,rfl,⟨by omega,hP''.dn hr (by omega)⟩,by omega⟩
     ·(refine bni ?_; repeat (refine bnk ?_; (try simp (disch:=first | omega | (simp only [LN]; omega)) only [↓EC,EW,seval,↓reduceIte,↓EBD,EBE])))
      (refine Split.mkB (fun h=>?_) (fun h=>?_) <;> (try simp only [SD] at h))
      ·omega
      ·(refine bni ?_; repeat (refine bnk ?_; (try simp (disch:=first | omega | (simp only [LN]; omega)) only [↓EC,EW,seval,↓reduceIte,↓EBD,EBE])))
       have hr:gi m j'.toNat < pv:=by have:=hP''.pv; grind
       omega
    ·(refine bni ?_; repeat (refine bnk ?_; (try simp (disch:=first | omega | (simp only [LN]; omega)) only [↓EC,EW,seval,↓reduceIte,↓EBD,EBE])))
     (refine Split.mkB (fun h=>?_) (fun h=>?_) <;> (try simp only [SD] at h))
     ·(refine bni ?_; repeat (refine bnk ?_; (try simp (disch:=first | omega | (simp only [LN]; omega)) only [↓EC,EW,seval,↓reduceIte,↓EBD,EBE])))
      obtain ⟨g1,g2,g3⟩:=hP''.fin (by omega) (by omega) (by omega)
      exact ⟨_,_,swL m j'.toNat a.toNat,rfl,rfl,g1,by omega,by omega,g2,g3⟩
     ·omega
end
section
set_option maxHeartbeats 4000000
theorem callMR_qs {P:Program} {f:FuncId} {h:Hp} {K:V -> Hp -> Prop} {bs:List Nat} {bx:List (Nat × TypeId × Nat)} {cells:List (List V)} {ws:List V} {Φ:Nat -> Nat -> Nat -> List (List V) -> Prop}
  (hs:PSpecMR P f ws bx cells Φ) (hK:∀ j o n cs,Φ j o n cs -> ∀ b,bs[j]? = some b -> K (.rf b o n) (hputs2 h bs bx cs)):CallMR P f h K bs bx cells ws:=⟨Φ,hs,hK⟩
theorem pcd_rq {P:Program} {f:FuncId} {d:Nat} {h:Hp} {K:V -> Hp -> Prop} {ws o:List V} {m:Bool} {Φ:V -> Prop} (hs:PSpec P f ws Φ) (hK:∀ v,Φ v -> Rq (allFree h (mat v d).2.1) (K (mat v d).1 (hputs h (mat v d).2.1))):pcd P f d h K ws m o :=
 .inl (.inl ⟨_,hs,.inr hK⟩)
theorem c_SortN {l:List Int} {n:Nat} (hn:l.length = n) (hl:n <= 16):PSpecM Tryz.prog 124 [.rf 0 0 n] [(0,2,1)] [vi .i64 l] fun v c=>v = .tup [] /\ kp n c:=by
 refine slices_Sort_int64_int64_i_f.m rfl rfl ?_
 dsimp only [slices_Sort_int64_int64_i_F,pcal_B,pcalp_B,pcala_B,pcond_B,pgk_B,JN_B,LP_B]
 (refine bni ?_; repeat (refine bnk ?_; (try simp (disch:=first | omega | (simp only [LN]; omega)) only [↓EC,EW,seval,↓reduceIte,↓EBD,EBE])))
 refine pcd_r (c_LenN (k:=n) (by omega)) ?_
 rintro _ ⟨r,rfl,h1,h2,_⟩
 (refine bni ?_; repeat (refine bnk ?_; (try simp (disch:=first | omega | (simp only [LN]; omega)) only [↓EC,EW,seval,↓reduceIte,↓EBD,EBE])))
 refine pcm [0] rfl ?_; (refine bni ?_; repeat (refine bnk ?_; (try simp (disch:=first | omega | (simp only [LN]; omega)) only [↓EC,EW,seval,↓reduceIte,↓EBD,EBE])))
 refine callM_d (c_pdqsortN hl _ (a:=0) (b:=n) (k:=r) rfl hn (by omega) (by omega) (by omega) ⟨h1,h2⟩) ?_
 rintro _ _ ⟨rfl,m,rfl,hm⟩
 (refine bni ?_; repeat (refine bnk ?_; (try simp (disch:=first | omega | (simp only [LN]; omega)) only [↓EC,EW,seval,↓reduceIte,↓EBD,EBE])))
 exact ⟨m,rfl,hm⟩
theorem c_ReverseN {l:List Int} {n:Nat} (hn:l.length = n) (hl:n <= 1000):PSpecM Tryz.prog 125 [.rf 0 0 n] [(0,2,1)] [vi .i64 l] fun v c=>v = .tup [] /\ kp n c:=by
 refine slices_Reverse_int64_int64_i_f.m rfl rfl ?_
 dsimp only [slices_Reverse_int64_int64_i_F,pcal_B,pcalp_B,pcala_B,pcond_B,pgk_B,JN_B,LP_B]
 (refine bni ?_; repeat (refine bnk ?_; (try simp (disch:=first | omega | (simp only [LN]; omega)) only [↓EC,EW,seval,↓reduceIte,↓EBD,EBE])))
 refine LPx_of (σ:=List Int × Int × Int) 100000 [(0,2,1)] (fun s=>[.int .i64 s.2.1,.int .i64 s.2.2]) (fun s=>[vi .i64 s.1])
  (fun s=>s.1.length = n /\ 0 <= s.2.1 /\ s.2.2 <= (n:Int) - 1 /\ -1 <= s.2.2 /\ s.2.1 <= 1001) (fun s=>(s.2.2 + 1).toNat) (l,0,(n:Int) - 1) (by simp [frameOk,names,lpz,sclp,scv,scvs,nrfs,nrf,FRB]) ⟨hn,by simp only; omega⟩ ?_ ?_
 ·(refine bni ?_; repeat (refine bnk ?_; simp (disch:=first | omega | (simp only [LN]; omega)) only [↓EC,EW,seval,↓reduceIte,↓EBD,EBE,ColV_def]))
 ·rintro ⟨m,i,j⟩ ⟨h1,h2,h3,h4,h5⟩
  simp only at h1 h2 h3 h4 h5
  (refine bni ?_; repeat (refine bnk ?_; simp (disch:=first | omega | (simp only [LN]; omega)) only [↓EC,EW,seval,↓reduceIte,↓EBD,EBE,ColV_def,lheap_def]))
  (refine Split.mkB (fun h=>?_) (fun h=>?_) <;> (try simp only [SD] at h))
  ·(refine bni ?_; repeat (refine bnk ?_; (try simp (disch:=first | omega | (simp only [LN]; omega)) only [↓EC,EW,seval,↓reduceIte,↓EBD,EBE])))
   exact ⟨(_,i + 1,j - 1),rfl,rfl,⟨by simp [h1],by simp only; omega⟩,by simp only; omega⟩
  ·(refine bni ?_; repeat (refine bnk ?_; (try simp (disch:=first | omega | (simp only [LN]; omega)) only [↓EC,EW,seval,↓reduceIte,↓EBD,EBE])))
   exact ⟨m,rfl,h1⟩
theorem c_descendingN {l:List Int} {n:Nat} (hn:l.length = n) (hl:n <= 16):PSpecMR Tryz.prog 110 [.rf 0 0 n] [(0,2,1)] [vi .i64 l] fun j o k c=>j = 0 /\ o = 0 /\ k = n /\ kp n c:=by
 refine impl_descending_f.mr rfl rfl ?_
 dsimp only [impl_descending_F,pcal_B,pcalp_B,pcala_B,pcond_B,pgk_B,JN_B,LP_B]
 (refine bni ?_; repeat (refine bnk ?_; (try simp (disch:=first | omega | (simp only [LN]; omega)) only [↓EC,EW,seval,↓reduceIte,↓EBD,EBE])))
 refine pcm [0] rfl ?_; (refine bni ?_; repeat (refine bnk ?_; (try simp (disch:=first | omega | (simp only [LN]; omega)) only [↓EC,EW,seval,↓reduceIte,↓EBD,EBE])))
 refine callM_d (c_SortN hn hl) ?_
 rintro _ _ ⟨rfl,m,rfl,hm⟩
 (refine bni ?_; repeat (refine bnk ?_; (try simp (disch:=first | omega | (simp only [LN]; omega)) only [↓EC,EW,seval,↓reduceIte,↓EBD,EBE])))
 refine pcm [0] rfl ?_; (refine bni ?_; repeat (refine bnk ?_; (try simp (disch:=first | omega | (simp only [LN]; omega)) only [↓EC,EW,seval,↓reduceIte,↓EBD,EBE])))
 refine callM_d (c_ReverseN hm (by omega)) ?_
 rintro _ _ ⟨rfl,m',rfl,hm'⟩
 (refine bni ?_; repeat (refine bnk ?_; (try simp (disch:=first | omega | (simp only [LN]; omega)) only [↓EC,EW,seval,↓reduceIte,↓EBD,EBE])))
 exact ⟨rfl,m',rfl,hm'⟩
def lnT (A:List (List Int)):Nat -> List Int
 | 0=>[]
 | s + 1=>lnT A s ++ [((gl A s).length:Int)]
theorem lnT_len {A:List (List Int)}:∀ s,(lnT A s).length = s
 | 0=>rfl
 | s + 1=>by simp [lnT,lnT_len s]
theorem c_impl_typeOf {p:List Int} {n:Int} (hp:lo16 p) (hn:1 <= n /\ n <= 16):PSpec Tryz.prog 106 [.agg (vi .u8 p),.int .i64 n] fun v=>∃ l:List Int,v = .own 2 1 l.length (vi .i64 l) /\ l.length = (cyc p n).length:=by
 have hpl:=hp.1
 have hcl:(cyc p n).length <= 16:=by have:=(cycO_len (p:=p) n.toNat).2; unfold cyc; omega
 refine impl_typeOf_f.f ?_
 dsimp only [impl_typeOf_F,pcal_B,pcalp_B,pcala_B,pcond_B,pgk_B,JN_B,LP_B]
 (refine bni ?_; repeat (refine bnk ?_; (try simp (disch:=first | omega | (simp only [LN]; omega)) only [↓EC,EW,seval,↓reduceIte,↓EBD,EBE])))
 refine pcd_v (c_impl_cycles hp hn) ?_
 (refine bni ?_; repeat (refine bnk ?_; (try simp (disch:=first | omega | (simp only [LN]; omega)) only [↓EC,EW,seval,↓reduceIte,↓EBD,EBE])))
 generalize cyc p n = A at *
 refine LPx_ofE (σ:=Nat) [1,1] 100000 [] (fun s=>[.own 2 1 s (vi .i64 (lnT A s)),.int .i64 s]) (fun s=>[]) (fun s=>s <= A.length) (fun s=>A.length - s) 0 (by simp [frameOk,names,lpz,sclp,scv,scvs,nrfs,nrf,FRB]) (Nat.zero_le _) ?_ ?_
 ·(refine bni ?_; repeat (refine bnk ?_; simp (disch:=first | omega | (simp only [LN]; omega)) only [↓EC,EW,seval,↓reduceIte,↓EBD,EBE,ColV_def]))
  exact ⟨fun _=>trivial,rfl⟩
 ·intro s hs
  have hls:=lnT_len (A:=A) s
  (refine bni ?_; repeat (refine bnk ?_; simp (disch:=first | omega | (simp only [LN]; omega)) only [↓EC,EW,seval,↓reduceIte,↓EBD,EBE,ColV_def,lheap_def]))
  (refine Split.mkB (fun h=>?_) (fun h=>?_) <;> (try simp only [SD] at h))
  ·(refine bni ?_; repeat (refine bnk ?_; (try simp (disch:=first | omega | (simp only [LN]; omega)) only [↓EC,EW,seval,↓reduceIte,↓EBD,EBE])))
   exact ⟨s + 1,rfl,by omega,by omega⟩
  ·obtain rfl:s = A.length:=by omega
   (refine bni ?_; repeat (refine bnk ?_; (try simp (disch:=first | omega | (simp only [LN]; omega)) only [↓EC,EW,seval,↓reduceIte,↓EBD,EBE])))
   refine pcmr [100000] rfl ?_
   (refine bni ?_; repeat (refine bnk ?_; (try simp (disch:=first | omega | (simp only [LN]; omega)) only [↓EC,EW,seval,↓reduceIte,↓EBD,EBE])))
   refine callMR_qs (c_descendingN hls (by omega)) ?_
   rintro j o k c ⟨rfl,rfl,rfl,m,rfl,hm⟩ b hb
   simp at hb
   subst hb
   (refine bni ?_; repeat (refine bnk ?_; (try simp (disch:=first | omega | (simp only [LN]; omega)) only [↓EC,EW,seval,↓reduceIte,↓EBD,EBE])))
   exact ⟨m,by rw [hm],hm⟩
theorem c_impl_eulerOfN {a b c:List Int} {n:Int} (ha:a.length <= 1000) (hb:b.length <= 1000) (hc:c.length <= 1000) (hn:0 <= n /\ n <= 1000):PSpec Tryz.prog 77 [.sl 3 (vl [a,b,c]),.int .i64 n] fun v=>v = .int .i64 (a.length + b.length + c.length - n):=by
 have ga:gl [a,b,c] 0 = a:=rfl
 have gb:gl [a,b,c] 1 = b:=rfl
 have gc:gl [a,b,c] 2 = c:=rfl
 refine impl_eulerOf_f.f ?_
 simp (disch:=first | omega | (simp only [LN]; omega)) only [↓EC,EW,seval,↓reduceIte,impl_eulerOf_F,ga,gb,gc]
theorem c_impl_passport {n:Int} {b w:List Int} (hb:lo16 b) (hw:lo16 w) (hn:1 <= n /\ n <= 16):PSpec Tryz.prog 78 [vD n b w] fun v=>∃ x y z:List Int,v = .own 52 1 3 (vo 2 [x,y,z]) /\ x.length = (cyc b n).length /\ y.length = (cyc w n).length /\ z.length = (cyc (faceP b w n) n).length:=by
 have hbl:=hb.1
 have hwl:=hw.1
 have hfl:lo16 (faceP b w n):=backP_lo hn
 have hfl2:=hfl.1
 refine impl_passport_f.f ?_
 unfold vD
 dsimp only [impl_passport_F,pcal_B,pcalp_B,pcala_B,pcond_B,pgk_B,JN_B,LP_B]
 (refine bni ?_; repeat (refine bnk ?_; (try simp (disch:=first | omega | (simp only [LN]; omega)) only [↓EC,EW,seval,↓reduceIte,↓EBD,EBE])))
 refine pcd_rq (c_impl_typeOf (p:=b) hb hn) ?_
 rintro _ ⟨x,rfl,hx⟩
 (refine bni ?_; repeat (refine bnk ?_; (try simp (disch:=first | omega | (simp only [LN]; omega)) only [↓EC,EW,seval,↓reduceIte,↓EBD,EBE])))
 refine pcd_rq (c_impl_typeOf (p:=w) hw hn) ?_
 rintro _ ⟨y,rfl,hy⟩
 (refine bni ?_; repeat (refine bnk ?_; (try simp (disch:=first | omega | (simp only [LN]; omega)) only [↓EC,EW,seval,↓reduceIte,↓EBD,EBE])))
 refine pcd_v (c_impl_face hb hw hn) ?_
 (refine bni ?_; repeat (refine bnk ?_; (try simp (disch:=first | omega | (simp only [LN]; omega)) only [↓EC,EW,seval,↓reduceIte,↓EBD,EBE])))
 refine pcd_rq (c_impl_typeOf hfl hn) ?_
 rintro _ ⟨z,rfl,hz⟩
 (refine bni ?_; repeat (refine bnk ?_; (try simp (disch:=first | omega | (simp only [LN]; omega)) only [↓EC,EW,seval,↓reduceIte,↓EBD,EBE])))
 exact ⟨x,y,z,rfl,hx,hy,hz⟩
def eulN (n:Int) (b w:List Int):Int:=(cyc b n).length + (cyc w n).length + (cyc (faceP b w n) n).length - n
theorem c_impl_EulerOf {n:Int} {b w:List Int} (hb:okP b) (hw:okP w) (hd:isDB n b w = true):PSpec Tryz.prog 28 [vD n b w] fun v=>v = .tup [.int .i64 (eulN n b w),.int .i64 0]:=by
 have hbl:=hb.1
 have hwl:=hw.1
 have h1:=isDB_iff.1 hd
 have lb:=h1.pb.lo hb
 have lw:=h1.pw.lo hw
 have hn:=h1.pb.1
 have c1:(cyc b n).length <= 16:=by have:=(cycO_len (p:=b) n.toNat).2; unfold cyc; omega
 have c2:(cyc w n).length <= 16:=by have:=(cycO_len (p:=w) n.toNat).2; unfold cyc; omega
 have c3:(cyc (faceP b w n) n).length <= 16:=by have:=(cycO_len (p:=faceP b w n) n.toNat).2; unfold cyc; omega
 refine impl_EulerOf_f.f ?_
 unfold vD
 dsimp only [impl_EulerOf_F,pcal_B,pcalp_B,pcala_B,pcond_B,pgk_B,JN_B,LP_B]
 (refine bni ?_; repeat (refine bnk ?_; (try simp (disch:=first | omega | (simp only [LN]; omega)) only [↓EC,EW,seval,↓reduceIte,↓EBD,EBE])))
 refine pcd_v (c_impl_IsDessin (n:=n) hb hw) ?_
 (refine bni ?_; repeat (refine bnk ?_; (try simp (disch:=first | omega | (simp only [LN]; omega)) only [↓EC,EW,seval,↓reduceIte,↓EBD,EBE,hd])))
 refine pcd_r (c_impl_passport (n:=n) lb lw hn) ?_
 rintro _ ⟨x,y,z,rfl,hx,hy,hz⟩
 (refine bni ?_; repeat (refine bnk ?_; (try simp (disch:=first | omega | (simp only [LN]; omega)) only [↓EC,EW,seval,↓reduceIte,↓EBD,EBE])))
 refine pcd_v (c_impl_eulerOfN (a:=x) (b:=y) (c:=z) (n:=n) (by omega) (by omega) (by omega) (by omega)) ?_
 (refine bni ?_; repeat (refine bnk ?_; (try simp (disch:=first | omega | (simp only [LN]; omega)) only [↓EC,EW,seval,↓reduceIte,↓EBD,EBE])))
 rw [hx,hy,hz]; rfl
end
section
set_option maxHeartbeats 8000000
structure Pq (l:List Int) (n:Nat) (m:List Int) (a b:Int):Prop where
 sw:Sw 0 n l m
 lo:Srt 0 a m
 hi:Srt b n m
 lx:∀ s t:Nat,(s:Int) < a -> a <= t -> t < n -> gi m s <= gi m t
 hx:∀ s t:Nat,(s:Int) < b -> b <= t -> t < n -> gi m s <= gi m t
section
variable {l m m':List Int} {n:Nat} {a b x:Int}
theorem Pq.len (h:Pq l n m a b) (hn:l.length = n):m.length = n:=by rw [h.sw.len,hn]
theorem Pq.mid (h:Pq l n m a b) (hs:Sw a b m m') (h0:0 <= a /\ b <= n):Pq l n m' a b:=by
 refine ⟨h.sw.trans (hs.wide h0.1 h0.2),fun i j h1 h2 h3=>?_,fun i j h1 h2 h3=>?_,fun s t h1 h2 h3=>?_,fun s t h1 h2 h3=>?_⟩
 ·rw [hs.out (t:=i) (by omega),hs.out (t:=j) (by omega)]; exact h.lo i j h1 h2 h3
 ·rw [hs.out (t:=i) (by omega),hs.out (t:=j) (by omega)]; exact h.hi i j h1 h2 h3
 ·rw [hs.out (t:=s) (by omega)]
  by_cases ht:(t:Int) < b
  ·exact hs.all (Q:=fun y=>gi m s <= y) (fun t p1 p2=>h.lx s t h1 p1 (by omega)) t h2 ht
  ·rw [hs.out (t:=t) (by omega)]; exact h.lx s t h1 h2 h3
 ·rw [hs.out (t:=t) (by omega)]
  by_cases hsa:(s:Int) < a
  ·rw [hs.out (t:=s) (by omega)]; exact h.hx s t h1 h2 h3
  ·exact hs.all (Q:=fun y=>y <= gi m t) (fun s p1 p2=>h.hx s t p2 h2 h3) s (by omega) h1
theorem Pq.fin (h:Pq l n m a b) (hs:Srt a b m):Srt 0 n m:=fun i j h1 h2 h3=>by
 by_cases ia:(i:Int) < a
 ·by_cases ja:(j:Int) < a
  ·exact h.lo i j h1 h2 ja
  ·exact h.lx i j ia (by omega) (by omega)
 ·by_cases jb:(j:Int) < b
  ·exact hs i j (by omega) h2 jb
  ·by_cases ib:(i:Int) < b
   ·exact h.hx i j ib (by omega) (by omega)
   ·exact h.hi i j (by omega) h2 h3
theorem Pq.left (h:Pq l n m a b) (hs:Srt a x m) (h1:∀ t:Nat,a <= t -> (t:Int) < x -> gi m t <= gi m x.toNat) (h2:∀ t:Nat,x < t -> (t:Int) < b -> gi m x.toNat <= gi m t) (h0:0 <= a /\ a <= x /\ x < b /\ b <= n):Pq l n m (x + 1) b:=by
 refine ⟨h.sw,fun i j p1 p2 p3=>?_,h.hi,fun s t p1 p2 p3=>?_,h.hx⟩
 ·by_cases ia:(i:Int) < a
  ·by_cases ja:(j:Int) < a
   ·exact h.lo i j p1 p2 ja
   ·exact h.lx i j ia (by omega) (by omega)
  ·by_cases jx:(j:Int) < x
   ·exact hs i j (by omega) p2 jx
   ·have ej:j = x.toNat:=by omega
    by_cases ix:(i:Int) < x
    ·rw [ej]; exact h1 i (by omega) ix
    ·rw [show i = j by omega]; exact Int.le_refl _
 ·by_cases sa:(s:Int) < a
  ·exact h.lx s t sa (by omega) p3
  ·have q:gi m s <= gi m x.toNat:=by
    by_cases sx:(s:Int) < x
    ·exact h1 s (by omega) sx
    ·rw [show s = x.toNat by omega]; exact Int.le_refl _
   by_cases tb:(t:Int) < b
   ·have:=h2 t (by omega) tb; omega
   ·have:=h.hx x.toNat t (by omega) (by omega) p3; omega
theorem Pq.right (h:Pq l n m a b) (hs:Srt (x + 1) b m) (h1:∀ t:Nat,a <= t -> (t:Int) < x -> gi m t <= gi m x.toNat) (h2:∀ t:Nat,x < t -> (t:Int) < b -> gi m x.toNat <= gi m t) (h0:0 <= a /\ a <= x /\ x < b /\ b <= n):Pq l n m a x:=by
 refine ⟨h.sw,h.lo,fun i j p1 p2 p3=>?_,h.lx,fun s t p1 p2 p3=>?_⟩
 ·by_cases ib:(i:Int) < b
  ·by_cases jb:(j:Int) < b
   ·by_cases ix:(i:Int) = x
    ·by_cases jx:(j:Int) = x
     ·rw [show i = j by omega]; exact Int.le_refl _
     ·rw [show i = x.toNat by omega]; exact h2 j (by omega) jb
    ·exact hs i j (by omega) p2 jb
   ·exact h.hx i j ib (by omega) (by omega)
  ·exact h.hi i j (by omega) p2 p3
 ·by_cases sa:(s:Int) < a
  ·exact h.lx s t sa (by omega) p3
  ·have q:=h1 s (by omega) p1
   by_cases tb:(t:Int) < b
   ·by_cases tx:(t:Int) = x
    ·rw [show t = x.toNat by omega]; exact q
    ·have:=h2 t (by omega) tb; omega
   ·exact h.hx s t (by omega) (by omega) p3
theorem Pq.equal (h:Pq l n m a b) (hs:Sw a b m m') {pv:Int} (hp:gi m (a - 1).toNat >= pv) (h1:∀ t:Nat,a <= t -> (t:Int) < x -> gi m' t <= pv) (h2:∀ t:Nat,x <= t -> (t:Int) < b -> pv < gi m' t) (h0:0 < a /\ a < x /\ x <= b /\ b <= n):Pq l n m' x b:=by
 have h':=h.mid hs ⟨by omega,by omega⟩
 have hge:∀ t:Nat,a <= t -> (t:Int) < b -> pv <= gi m' t:=hs.all (Q:=fun y=>pv <= y) fun t p1 p2=>by
  have:=h.lx (a - 1).toNat t (by omega) p1 (by omega); omega
 refine ⟨h'.sw,fun i j p1 p2 p3=>?_,h'.hi,fun s t p1 p2 p3=>?_,h'.hx⟩
 ·by_cases ia:(i:Int) < a
  ·by_cases ja:(j:Int) < a
   ·exact h'.lo i j p1 p2 ja
   ·exact h'.lx i j ia (by omega) (by omega)
  ·have q1:=h1 i (by omega) (by omega)
   have q2:=hge j (by omega) (by omega)
   omega
 ·by_cases sa:(s:Int) < a
  ·exact h'.lx s t sa (by omega) p3
  ·have q1:=h1 s (by omega) p1
   by_cases tb:(t:Int) < b
   ·have q2:=h2 t p2 tb; omega
   ·exact h'.hx s t (by omega) (by omega) p3
end
theorem c_pdq12 {l:List Int} {n:Nat} {a b k:Int} (hn:l.length = n) (h0:0 <= a /\ a <= 1000) (hab:b - a <= 12 /\ -100 <= b - a) (hb:b <= n) (hl:n <= 1000):PSpecM Tryz.prog 130 [.rf 0 0 n,.int .i64 a,.int .i64 b,.int .i64 k] [(0,2,1)] [vi .i64 l] fun v c=>v = .tup [] /\ ∃ m,c = [vi .i64 m] /\ Sw a b l m /\ Srt a b m:=by
 refine slices_pdqsortOrdered_int64_f.m rfl rfl ?_
 dsimp only [slices_pdqsortOrdered_int64_F,pcal_B,pcalp_B,pcala_B,pcond_B,pgk_B,JN_B,LP_B]
 (refine bni ?_; repeat (refine bnk ?_; (try simp (disch:=first | omega | (simp only [LN]; omega)) only [↓EC,EW,seval,↓reduceIte,↓EBD,EBE])))
 refine LPx_of (σ:=Unit) 100000 [(0,2,1)] (fun s=>[.int .i64 a,.int .i64 b,.int .i64 k,.bool true,.bool true]) (fun s=>[vi .i64 l]) (fun s=>True) (fun s=>0) () (by simp [frameOk,names,lpz,sclp,scv,scvs,nrfs,nrf,FRB]) trivial ?_ ?_
 ·(refine bni ?_; repeat (refine bnk ?_; simp (disch:=first | omega | (simp only [LN]; omega)) only [↓EC,EW,seval,↓reduceIte,↓EBD,EBE,ColV_def]))
 ·rintro _ _
  (refine bni ?_; repeat (refine bnk ?_; simp (disch:=first | omega | (simp only [LN]; omega)) only [↓EC,EW,seval,↓reduceIte,↓EBD,EBE,ColV_def,lheap_def]))
  (refine Split.mkB (fun h=>?_) (fun h=>?_) <;> (try simp only [SD] at h))
  ·(refine bni ?_; repeat (refine bnk ?_; (try simp (disch:=first | omega | (simp only [LN]; omega)) only [↓EC,EW,seval,↓reduceIte,↓EBD,EBE])))
   refine pcm [0] rfl ?_; (refine bni ?_; repeat (refine bnk ?_; (try simp (disch:=first | omega | (simp only [LN]; omega)) only [↓EC,EW,seval,↓reduceIte,↓EBD,EBE])))
   refine callM_d (c_insS (a:=a) (b:=b) hn h0 hb hl) ?_
   rintro _ _ ⟨rfl,m',rfl,hm'⟩
   (refine bni ?_; repeat (refine bnk ?_; (try simp (disch:=first | omega | (simp only [LN]; omega)) only [↓EC,EW,seval,↓reduceIte,↓EBD,EBE])))
   exact ⟨m',rfl,hm'⟩
  ·omega
theorem c_pdqS {l:List Int} {n:Nat} {k0:Int} (hl:n <= 16) (hn:l.length = n) (hk:0 <= k0 /\ k0 <= 5 /\ (n <= 12 ∨ (n:Int) - 12 < k0)) :
  PSpecM Tryz.prog 130 [.rf 0 0 n,.int .i64 0,.int .i64 n,.int .i64 k0] [(0,2,1)] [vi .i64 l] fun v c=>v = .tup [] /\ ∃ m,c = [vi .i64 m] /\ Sw 0 n l m /\ Srt 0 n m:=by
 refine slices_pdqsortOrdered_int64_f.m rfl rfl ?_
 dsimp only [slices_pdqsortOrdered_int64_F,pcal_B,pcalp_B,pcala_B,pcond_B,pgk_B,JN_B,LP_B]
 (refine bni ?_; repeat (refine bnk ?_; (try simp (disch:=first | omega | (simp only [LN]; omega)) only [↓EC,EW,seval,↓reduceIte,↓EBD,EBE])))
 refine LPx_of (σ:=List Int × (Int × Int × Int) × Bool × Bool) 100000 [(0,2,1)] (fun s=>[.int .i64 s.2.1.1,.int .i64 s.2.1.2.1,.int .i64 s.2.1.2.2,.bool s.2.2.1,.bool s.2.2.2]) (fun s=>[vi .i64 s.1])
  (fun s=>Pq l n s.1 s.2.1.1 s.2.1.2.1 /\ 0 <= s.2.1.1 /\ s.2.1.1 <= s.2.1.2.1 /\ s.2.1.2.1 <= n /\ 0 <= s.2.1.2.2 /\ s.2.1.2.2 <= 5 /\ (s.2.1.2.1 - s.2.1.1 <= 12 ∨ s.2.1.2.1 - s.2.1.1 - 12 < s.2.1.2.2)) (fun s=>(s.2.1.2.1 - s.2.1.1).toNat) (l,(0,n,k0),true,true) (by simp [frameOk,names,lpz,sclp,scv,scvs,nrfs,nrf,FRB])
   ⟨⟨.refl _,fun i j h1 h2 h3=>by simp only at h3; omega,fun i j h1 h2 h3=>by simp only at h1; omega,fun s t h1 h2 h3=>by simp only at h1; omega,fun s t h1 h2 h3=>by simp only at h2; omega⟩,by simp only; omega⟩ ?_ ?_
 ·(refine bni ?_; repeat (refine bnk ?_; simp (disch:=first | omega | (simp only [LN]; omega)) only [↓EC,EW,seval,↓reduceIte,↓EBD,EBE,ColV_def]))
 ·rintro ⟨m,⟨a,b,k⟩,w,p⟩ ⟨hq,h2,h3,h4,h6,h7,h8⟩
  simp only at hq h2 h3 h4 h6 h7 h8
  have h1:=hq.len hn
  (refine bni ?_; repeat (refine bnk ?_; simp (disch:=first | omega | (simp only [LN]; omega)) only [↓EC,EW,seval,↓reduceIte,↓EBD,EBE,ColV_def,lheap_def]))
  (refine Split.mkB (fun h=>?_) (fun h=>?_) <;> (try simp only [SD] at h))
  ·(refine bni ?_; repeat (refine bnk ?_; (try simp (disch:=first | omega | (simp only [LN]; omega)) only [↓EC,EW,seval,↓reduceIte,↓EBD,EBE])))
   refine pcm [0] rfl ?_; (refine bni ?_; repeat (refine bnk ?_; (try simp (disch:=first | omega | (simp only [LN]; omega)) only [↓EC,EW,seval,↓reduceIte,↓EBD,EBE])))
   refine callM_d (c_insS (a:=a) (b:=b) h1 (by omega) (by omega) (by omega)) ?_
   rintro _ _ ⟨rfl,m',rfl,hs,hst⟩
   (refine bni ?_; repeat (refine bnk ?_; (try simp (disch:=first | omega | (simp only [LN]; omega)) only [↓EC,EW,seval,↓reduceIte,↓EBD,EBE])))
   exact ⟨m',rfl,(hq.mid hs ⟨by omega,by omega⟩).sw,(hq.mid hs ⟨by omega,by omega⟩).fin hst⟩
  ·(refine bni ?_; repeat (refine bnk ?_; (try simp (disch:=first | omega | (simp only [LN]; omega)) only [↓EC,EW,seval,↓reduceIte,↓EBD,EBE])))
   (refine Split.mkB (fun h=>?_) (fun h=>?_) <;> (try simp only [SD] at h))
   ·omega
   ·(refine bni ?_; repeat (refine bnk ?_; (try simp (disch:=first | omega | (simp only [LN]; omega)) only [↓EC,EW,seval,↓reduceIte,↓EBD,EBE])))
    refine JNx_of (fun o h=>∃ (m:List Int) (k':Int) (h':Hp),o = [.rf 0 0 n,.int .i64 a,.int .i64 b,.int .i64 k',.bool w,.bool p,.int .i64 (b - a)] /\ h = hput h' 0 (.row 2 1 (vi .i64 m)) /\ Pq l n m a b /\ k - 1 <= k' /\ k' <= k) ?_ ?_
    ·intro K hK
     (refine bni ?_; repeat (refine bnk ?_; (try simp (disch:=first | omega | (simp only [LN]; omega)) only [↓EC,EW,seval,↓reduceIte,↓EBD,EBE])))
     (refine Split.mkB (fun h=>?_) (fun h=>?_) <;> (try simp only [SD] at h))
     ·(refine bni ?_; repeat (refine bnk ?_; (try simp (disch:=first | omega | (simp only [LN]; omega)) only [↓EC,EW,seval,↓reduceIte,↓EBD,EBE])))
      refine pcm [0] rfl ?_; (refine bni ?_; repeat (refine bnk ?_; (try simp (disch:=first | omega | (simp only [LN]; omega)) only [↓EC,EW,seval,↓reduceIte,↓EBD,EBE])))
      refine callM_d (c_brkS (a:=a) (b:=b) h1 (by omega) (by omega) (by omega) (by omega)) ?_
      rintro _ _ ⟨rfl,m',rfl,hm'⟩
      (refine bni ?_; repeat (refine bnk ?_; (try simp (disch:=first | omega | (simp only [LN]; omega)) only [↓EC,EW,seval,↓reduceIte,↓EBD,EBE])))
      exact hK _ _ ⟨m',k - 1,_,rfl,rfl,hq.mid hm' ⟨by omega,by omega⟩,by omega,by omega⟩
     ·(refine bni ?_; repeat (refine bnk ?_; (try simp (disch:=first | omega | (simp only [LN]; omega)) only [↓EC,EW,seval,↓reduceIte,↓EBD,EBE])))
      exact hK _ _ ⟨m,k,_,rfl,rfl,hq,by omega,by omega⟩
    ·rintro _ _ ⟨m,k',h',rfl,rfl,hq,h6',h7'⟩
     have h1:=hq.len hn
     have hlim:b - a - 12 < k:=by omega
     have hk':0 <= k' /\ k' <= 5 /\ b - a - 1 - 12 < k':=by omega
     clear h6 h7 h8 h6' h7' hlim
     (refine bni ?_; repeat (refine bnk ?_; (try simp (disch:=first | omega | (simp only [LN]; omega)) only [↓EC,EW,seval,↓reduceIte,↓EBD,EBE])))
     refine pcd_r (c_choosePivot (a:=a) (b:=b) h1 (by omega) (by omega) (by omega) (by omega)) ?_
     rintro _ ⟨x,y,rfl,hx,hx',hy,hy'⟩
     (refine bni ?_; repeat (refine bnk ?_; (try simp (disch:=first | omega | (simp only [LN]; omega)) only [↓EC,EW,seval,↓reduceIte,↓EBD,EBE])))
     refine JNx_of (fun o h=>∃ (m:List Int) (w p:Bool) (x y:Int) (h':Hp),o = [.rf 0 0 n,.int .i64 a,.int .i64 b,.int .i64 k',.bool w,.bool p,.int .i64 (b - a),.int .i64 x,.int .i64 y] /\ h = hput h' 0 (.row 2 1 (vi .i64 m)) /\ Pq l n m a b /\ a <= x /\ x < b) ?_ ?_
     ·intro K hK
      (refine bni ?_; repeat (refine bnk ?_; (try simp (disch:=first | omega | (simp only [LN]; omega)) only [↓EC,EW,seval,↓reduceIte,↓EBD,EBE])))
      (refine Split.mkB (fun h=>?_) (fun h=>?_) <;> (try simp only [SD] at h))
      ·(refine bni ?_; repeat (refine bnk ?_; (try simp (disch:=first | omega | (simp only [LN]; omega)) only [↓EC,EW,seval,↓reduceIte,↓EBD,EBE])))
       refine pcm [0] rfl ?_; (refine bni ?_; repeat (refine bnk ?_; (try simp (disch:=first | omega | (simp only [LN]; omega)) only [↓EC,EW,seval,↓reduceIte,↓EBD,EBE])))
       refine callM_d (c_revS (a:=a) (b:=b) h1 (by omega) (by omega) (by omega)) ?_
       rintro _ _ ⟨rfl,m',rfl,hm'⟩
       (refine bni ?_; repeat (refine bnk ?_; (try simp (disch:=first | omega | (simp only [LN]; omega)) only [↓EC,EW,seval,↓reduceIte,↓EBD,EBE])))
       exact hK _ _ ⟨m',w,p,_,_,_,rfl,rfl,hq.mid hm' ⟨by omega,by omega⟩,by omega,by omega⟩
      ·(refine bni ?_; repeat (refine bnk ?_; (try simp (disch:=first | omega | (simp only [LN]; omega)) only [↓EC,EW,seval,↓reduceIte,↓EBD,EBE])))
       exact hK _ _ ⟨m,w,p,_,_,_,rfl,rfl,hq,by omega,by omega⟩
     ·rintro _ _ ⟨m,w,p,x,y,h',rfl,rfl,hq,hx,hx'⟩
      have h1:=hq.len hn
      (refine bni ?_; repeat (refine bnk ?_; (try simp (disch:=first | omega | (simp only [LN]; omega)) only [↓EC,EW,seval,↓reduceIte,↓EBD,EBE])))
      refine JNx_of (fun o h=>∃ (m:List Int) (h':Hp),o = [.rf 0 0 n,.int .i64 a,.int .i64 b,.int .i64 k',.bool w,.bool p,.int .i64 (b - a),.int .i64 x] /\ h = hput h' 0 (.row 2 1 (vi .i64 m)) /\ Pq l n m a b) ?_ ?_
      ·intro K hK
       cases w
       ·(refine bni ?_; repeat (refine bnk ?_; (try simp (disch:=first | omega | (simp only [LN]; omega)) only [↓EC,EW,seval,↓reduceIte,↓EBD,EBE])))
        exact hK _ _ ⟨m,_,rfl,rfl,hq⟩
       ·cases p
        ·(refine bni ?_; repeat (refine bnk ?_; (try simp (disch:=first | omega | (simp only [LN]; omega)) only [↓EC,EW,seval,↓reduceIte,↓EBD,EBE])))
         exact hK _ _ ⟨m,_,rfl,rfl,hq⟩
        ·(refine bni ?_; repeat (refine bnk ?_; (try simp (disch:=first | omega | (simp only [LN]; omega)) only [↓EC,EW,seval,↓reduceIte,↓EBD,EBE])))
         (refine Split.mkB (fun h=>?_) (fun h=>?_) <;> (try simp only [SD] at h))
         ·(refine bni ?_; repeat (refine bnk ?_; (try simp (disch:=first | omega | (simp only [LN]; omega)) only [↓EC,EW,seval,↓reduceIte,↓EBD,EBE])))
          refine pcd_r (c_parS (a:=a) (b:=b) h1 (by omega) (by omega) (by omega) (by omega)) ?_
          rintro _ ⟨r,rfl,hr⟩
          cases r
          ·(refine bni ?_; repeat (refine bnk ?_; (try simp (disch:=first | omega | (simp only [LN]; omega)) only [↓EC,EW,seval,↓reduceIte,↓EBD,EBE])))
           exact hK _ _ ⟨m,_,rfl,rfl,hq⟩
          ·(refine bni ?_; repeat (refine bnk ?_; (try simp (disch:=first | omega | (simp only [LN]; omega)) only [↓EC,EW,seval,↓reduceIte,↓EBD,EBE])))
           exact ⟨m,rfl,hq.sw,hq.fin (hr rfl)⟩
         ·(refine bni ?_; repeat (refine bnk ?_; (try simp (disch:=first | omega | (simp only [LN]; omega)) only [↓EC,EW,seval,↓reduceIte,↓EBD,EBE])))
          exact hK _ _ ⟨m,_,rfl,rfl,hq⟩
      ·rintro _ _ ⟨m,h',rfl,rfl,hq⟩
       have h1:=hq.len hn
       (refine bni ?_; repeat (refine bnk ?_; (try simp (disch:=first | omega | (simp only [LN]; omega)) only [↓EC,EW,seval,↓reduceIte,↓EBD,EBE])))
       (refine Split.mkB (fun h=>?_) (fun h=>?_) <;> (try simp only [SD] at h))
       ·(refine bni ?_; repeat (refine bnk ?_; (try simp (disch:=first | omega | (simp only [LN]; omega)) only [↓EC,EW,seval,↓reduceIte,↓EBD,EBE])))
        refine pcd_v c_less ?_
        (refine bni ?_; repeat (refine bnk ?_; (try simp (disch:=first | omega | (simp only [LN]; omega)) only [↓EC,EW,seval,↓reduceIte,↓EBD,EBE])))
        (refine Split.mkB (fun h=>?_) (fun h=>?_) <;> (try simp only [SD] at h))
        ·(refine bni ?_; repeat (refine bnk ?_; (try simp (disch:=first | omega | (simp only [LN]; omega)) only [↓EC,EW,seval,↓reduceIte,↓EBD,EBE])))
         refine pcm [0] rfl ?_; (refine bni ?_; repeat (refine bnk ?_; (try simp (disch:=first | omega | (simp only [LN]; omega)) only [↓EC,EW,seval,↓reduceIte,↓EBD,EBE])))
         refine callM_d (c_pteS (a:=a) (b:=b) (p:=x) h1 (by omega) (by omega) (by omega) (by omega) (by omega)) ?_
         rintro _ _ ⟨x',m',rfl,rfl,hs',hy1,hy2,hlo,hhi⟩
         have hq':=hq.equal hs' (pv:=gi m x.toNat) (by grind) hlo hhi (by omega)
         (refine bni ?_; repeat (refine bnk ?_; (try simp (disch:=first | omega | (simp only [LN]; omega)) only [↓EC,EW,seval,↓reduceIte,↓EBD,EBE])))
         exact ⟨(m',(x',b,k'),w,p),rfl,rfl,⟨hq',by simp only; omega⟩,by simp only; omega⟩
        ·(refine bni ?_; repeat (refine bnk ?_; (try simp (disch:=first | omega | (simp only [LN]; omega)) only [↓EC,EW,seval,↓reduceIte,↓EBD,EBE])))
         refine pcm [0] rfl ?_; (refine bni ?_; repeat (refine bnk ?_; (try simp (disch:=first | omega | (simp only [LN]; omega)) only [↓EC,EW,seval,↓reduceIte,↓EBD,EBE])))
         refine callM_d (c_ptS (a:=a) (b:=b) (p:=x) h1 (by omega) (by omega) (by omega) (by omega) (by omega)) ?_
         rintro _ _ ⟨x',r,m',rfl,rfl,hs',hy1,hy2,hlo,hhi⟩
         have hq':=hq.mid hs' ⟨by omega,by omega⟩
         have h1':=hq'.len hn
         (refine bni ?_; repeat (refine bnk ?_; (try simp (disch:=first | omega | (simp only [LN]; omega)) only [↓EC,EW,seval,↓reduceIte,↓EBD,EBE])))
         (refine Split.mkB (fun h=>?_) (fun h=>?_) <;> (try simp only [SD] at h))
         ·(refine bni ?_; repeat (refine bnk ?_; (try simp (disch:=first | omega | (simp only [LN]; omega)) only [↓EC,EW,seval,↓reduceIte,↓EBD,EBE])))
          refine pcm [0] rfl ?_; (refine bni ?_; repeat (refine bnk ?_; (try simp (disch:=first | omega | (simp only [LN]; omega)) only [↓EC,EW,seval,↓reduceIte,↓EBD,EBE])))
          refine callM_d (c_pdq12 (l:=m') (a:=a) (b:=x') (k:=k') h1' (by omega) (by omega) (by omega) (by omega)) ?_
          rintro _ _ ⟨rfl,m'',rfl,hs'',hst⟩
          (refine bni ?_; repeat (refine bnk ?_; (try simp (disch:=first | omega | (simp only [LN]; omega)) only [↓EC,EW,seval,↓reduceIte,↓EBD,EBE])))
          have hq'':=(hq'.mid (hs''.wide (Int.le_refl _) (by omega)) ⟨by omega,by omega⟩).left hst (fun t p1 p2=>by
           rw [hs''.out (t:=x'.toNat) (by omega)]
           exact hs''.all (Q:=fun y=>y <= gi m' x'.toNat) hlo t p1 p2) (fun t p1 p2=>by
           rw [hs''.out (t:=x'.toNat) (by omega),hs''.out (t:=t) (by omega)]; exact hhi t p1 p2) (by omega)
          exact ⟨(m'',(x' + 1,b,k'),_,r),rfl,rfl,⟨hq'',by simp only; omega⟩,by simp only; omega⟩
         ·(refine bni ?_; repeat (refine bnk ?_; (try simp (disch:=first | omega | (simp only [LN]; omega)) only [↓EC,EW,seval,↓reduceIte,↓EBD,EBE])))
          refine pcm [0] rfl ?_; (refine bni ?_; repeat (refine bnk ?_; (try simp (disch:=first | omega | (simp only [LN]; omega)) only [↓EC,EW,seval,↓reduceIte,↓EBD,EBE])))
          refine callM_d (c_pdq12 (l:=m') (a:=x' + 1) (b:=b) (k:=k') h1' (by omega) (by omega) (by omega) (by omega)) ?_
          rintro _ _ ⟨rfl,m'',rfl,hs'',hst⟩
          (refine bni ?_; repeat (refine bnk ?_; (try simp (disch:=first | omega | (simp only [LN]; omega)) only [↓EC,EW,seval,↓reduceIte,↓EBD,EBE])))
          have hq'':=(hq'.mid (hs''.wide (by omega) (Int.le_refl _)) ⟨by omega,by omega⟩).right hst (fun t p1 p2=>by
           rw [hs''.out (t:=x'.toNat) (by omega),hs''.out (t:=t) (by omega)]; exact hlo t p1 p2) (fun t p1 p2=>by
           rw [hs''.out (t:=x'.toNat) (by omega)]
           exact hs''.all (Q:=fun y=>gi m' x'.toNat <= y) (fun t p1 p2=>hhi t (by omega) p2) t (by omega) p2) (by omega)
          exact ⟨(m'',(a,x',k'),_,r),rfl,rfl,⟨hq'',by simp only; omega⟩,by simp only; omega⟩
       ·(refine bni ?_; repeat (refine bnk ?_; (try simp (disch:=first | omega | (simp only [LN]; omega)) only [↓EC,EW,seval,↓reduceIte,↓EBD,EBE])))
        refine pcm [0] rfl ?_; (refine bni ?_; repeat (refine bnk ?_; (try simp (disch:=first | omega | (simp only [LN]; omega)) only [↓EC,EW,seval,↓reduceIte,↓EBD,EBE])))
        refine callM_d (c_ptS (a:=a) (b:=b) (p:=x) h1 (by omega) (by omega) (by omega) (by omega) (by omega)) ?_
        rintro _ _ ⟨x',r,m',rfl,rfl,hs',hy1,hy2,hlo,hhi⟩
        have hq':=hq.mid hs' ⟨by omega,by omega⟩
        have h1':=hq'.len hn
        (refine bni ?_; repeat (refine bnk ?_; (try simp (disch:=first | omega | (simp only [LN]; omega)) only [↓EC,EW,seval,↓reduceIte,↓EBD,EBE])))
        (refine Split.mkB (fun h=>?_) (fun h=>?_) <;> (try simp only [SD] at h))
        ·(refine bni ?_; repeat (refine bnk ?_; (try simp (disch:=first | omega | (simp only [LN]; omega)) only [↓EC,EW,seval,↓reduceIte,↓EBD,EBE])))
         refine pcm [0] rfl ?_; (refine bni ?_; repeat (refine bnk ?_; (try simp (disch:=first | omega | (simp only [LN]; omega)) only [↓EC,EW,seval,↓reduceIte,↓EBD,EBE])))
         refine callM_d (c_pdq12 (l:=m') (a:=a) (b:=x') (k:=k') h1' (by omega) (by omega) (by omega) (by omega)) ?_
         rintro _ _ ⟨rfl,m'',rfl,hs'',hst⟩
         (refine bni ?_; repeat (refine bnk ?_; (try simp (disch:=first | omega | (simp only [LN]; omega)) only [↓EC,EW,seval,↓reduceIte,↓EBD,EBE])))
         have hq'':=(hq'.mid (hs''.wide (Int.le_refl _) (by omega)) ⟨by omega,by omega⟩).left hst (fun t p1 p2=>by
          rw [hs''.out (t:=x'.toNat) (by omega)]
          exact hs''.all (Q:=fun y=>y <= gi m' x'.toNat) hlo t p1 p2) (fun t p1 p2=>by
          rw [hs''.out (t:=x'.toNat) (by omega),hs''.out (t:=t) (by omega)]; exact hhi t p1 p2) (by omega)
         exact ⟨(m'',(x' + 1,b,k'),_,r),rfl,rfl,⟨hq'',by simp only; omega⟩,by simp only; omega⟩
        ·(refine bni ?_; repeat (refine bnk ?_; (try simp (disch:=first | omega | (simp only [LN]; omega)) only [↓EC,EW,seval,↓reduceIte,↓EBD,EBE])))
         refine pcm [0] rfl ?_; (refine bni ?_; repeat (refine bnk ?_; (try simp (disch:=first | omega | (simp only [LN]; omega)) only [↓EC,EW,seval,↓reduceIte,↓EBD,EBE])))
         refine callM_d (c_pdq12 (l:=m') (a:=x' + 1) (b:=b) (k:=k') h1' (by omega) (by omega) (by omega) (by omega)) ?_
         rintro _ _ ⟨rfl,m'',rfl,hs'',hst⟩
         (refine bni ?_; repeat (refine bnk ?_; (try simp (disch:=first | omega | (simp only [LN]; omega)) only [↓EC,EW,seval,↓reduceIte,↓EBD,EBE])))
         have hq'':=(hq'.mid (hs''.wide (by omega) (Int.le_refl _)) ⟨by omega,by omega⟩).right hst (fun t p1 p2=>by
          rw [hs''.out (t:=x'.toNat) (by omega),hs''.out (t:=t) (by omega)]; exact hlo t p1 p2) (fun t p1 p2=>by
          rw [hs''.out (t:=x'.toNat) (by omega)]
          exact hs''.all (Q:=fun y=>gi m' x'.toNat <= y) (fun t p1 p2=>hhi t (by omega) p2) t (by omega) p2) (by omega)
         exact ⟨(m'',(a,x',k'),_,r),rfl,rfl,⟨hq'',by simp only; omega⟩,by simp only; omega⟩
theorem c_SortS {l:List Int} {n:Nat} (hn:l.length = n) (hl:n <= 16):PSpecM Tryz.prog 124 [.rf 0 0 n] [(0,2,1)] [vi .i64 l] fun v c=>v = .tup [] /\ ∃ m,c = [vi .i64 m] /\ Sw 0 n l m /\ Srt 0 n m:=by
 refine slices_Sort_int64_int64_i_f.m rfl rfl ?_
 dsimp only [slices_Sort_int64_int64_i_F,pcal_B,pcalp_B,pcala_B,pcond_B,pgk_B,JN_B,LP_B]
 (refine bni ?_; repeat (refine bnk ?_; (try simp (disch:=first | omega | (simp only [LN]; omega)) only [↓EC,EW,seval,↓reduceIte,↓EBD,EBE])))
 refine pcd_r (c_LenN (k:=n) (by omega)) ?_
 rintro _ ⟨r,rfl,h1,h2,h3⟩
 (refine bni ?_; repeat (refine bnk ?_; (try simp (disch:=first | omega | (simp only [LN]; omega)) only [↓EC,EW,seval,↓reduceIte,↓EBD,EBE])))
 refine pcm [0] rfl ?_; (refine bni ?_; repeat (refine bnk ?_; (try simp (disch:=first | omega | (simp only [LN]; omega)) only [↓EC,EW,seval,↓reduceIte,↓EBD,EBE])))
 refine callM_d (c_pdqS hl hn (k0:=r) ⟨h1,h2,by
  by_cases h8:8 <= n
  ·have:=h3 h8; omega
  ·omega⟩) ?_
 rintro _ _ ⟨rfl,m,rfl,hm⟩
 (refine bni ?_; repeat (refine bnk ?_; (try simp (disch:=first | omega | (simp only [LN]; omega)) only [↓EC,EW,seval,↓reduceIte,↓EBD,EBE])))
 exact ⟨m,rfl,hm⟩
end
section
set_option maxHeartbeats 1000000
def dsc (l:List Int):List Int:=l.mergeSort fun a b=>decide (b <= a)
theorem dsc_perm (l:List Int):(dsc l).Perm l:=List.mergeSort_perm l _
theorem dsc_pw (l:List Int):(dsc l).Pairwise fun a b=>b <= a:=by
 have:=List.pairwise_mergeSort (le:=fun a b:Int=>decide (b <= a)) (fun a b c h h'=>by simp only [decide_eq_true_eq] at *; omega) (fun a b=>by simp only [Bool.or_eq_true,decide_eq_true_eq]; omega) l
 exact this.imp fun h=>by simpa using h
theorem dsc_eq {l m:List Int} (h:m.Perm l) (hm:m.Pairwise fun a b=>b <= a):m = dsc l :=
 List.Perm.eq_of_pairwise (le:=fun a b=>b <= a) (fun a b _ _ h h'=>Int.le_antisymm h' h) hm (dsc_pw l) (h.trans (dsc_perm l).symm)
theorem dsc_len {l:List Int}:(dsc l).length = l.length:=(dsc_perm l).length_eq
theorem dsc_mem {l:List Int} {a:Int}:a ∈ dsc l ↔ a ∈ l:=(dsc_perm l).mem_iff
theorem dsc_of {l m:List Int} {n:Nat} (hn:l.length = n) (h:Sw 0 n l m) (hs:Srt 0 n m):m.reverse = dsc l:=by
 have hm:m.length = n:=by rw [h.len,hn]
 refine dsc_eq ((List.reverse_perm m).trans (List.perm_iff_count.2 fun c=>h.cnt c)) ?_
 rw [List.pairwise_reverse,List.pairwise_iff_getElem]
 intro i j hi hj hij
 have:=hs i j (by omega) (by omega) (by omega)
 rw [gi_of hi,gi_of hj] at this
 exact this
section
variable {p q σ:List Int} {n:Int} {N:Nat}
theorem Per.shift (hp:Pf p N) {r L:Nat} (hr:r < N) (h:Per p r L) (j:Nat):Per p (it p j r) L:=by
 refine ⟨h.pos,?_,fun i h0 hi e=>?_⟩
 ·rw [<-it_add,Nat.add_comm,it_add,h.ret]
 ·rw [<-it_add,Nat.add_comm,it_add] at e
  exact h.min i h0 hi (it_inj hp (it_lt hp hr i) hr j e)
def lenW (p:List Int) (n:Int) (x:Nat):Nat:=(gl (cyc p n) (wh p n x)).length
theorem Pd.per (h:Pd p n) {x:Nat} (hx:x < n.toNat):Per p x (lenW p n x):=by
 obtain ⟨r,L,hr,_,hL,e⟩:=cyc_orb h.pf h.nn (h.wh_lt (x:=x))
 have hm:=(h.wh_iff hx h.wh_lt).2 rfl
 rw [e] at hm
 obtain ⟨j,hj,ej⟩:=orb_mem.1 hm
 have hs:=Per.shift h.pf hr hL j
 have:lenW p n x = L:=by unfold lenW; rw [e,orb_len]
 rw [this,<-ej]; exact hs
def lens (p:List Int) (n:Int):List Int:=(cyc p n).map fun l=>(l.length:Int)
theorem lens_len:(lens p n).length = (cyc p n).length:=by simp [lens]
theorem smE_len {A:List (List Int)} {c:Nat}:∀ s,s <= A.length -> smE s (fun v=>if (gl A v).length = c then (c:Int) else 0) = c * (((A.take s).map fun l=>(l.length:Int)).count (c:Int):Int)
 | 0,_=>by simp [smE]
 | s + 1,hs=>by
  have ih:=smE_len (A:=A) (c:=c) s (by omega)
  have h1:s < A.length:=by omega
  simp only [smE]
  rw [ih,List.take_succ_eq_append_getElem h1,List.map_append,List.count_append,gl_of h1]
  simp only [List.map_cons,List.map_nil,List.count_cons,List.count_nil,Nat.zero_add]
  by_cases q:A[s].length = c
  ·rw [if_pos q,if_pos (by simp only [beq_iff_eq]; omega)]; simp; grind
  ·rw [if_neg q,if_neg (by simp only [beq_iff_eq]; omega)]; simp
theorem sumT_ones {l:List Int} (h:∀ y ∈ l,0 <= y /\ y < n):∀ s,s <= l.length -> sumT (tab n fun _=>1) l s = s
 | 0,_=>rfl
 | s + 1,hs=>by
  have:=h (gi l s) (by rw [gi_of (show s < l.length by omega)]; exact List.getElem_mem _)
  simp only [sumT]
  rw [sumT_ones h s (by omega),tab_at (by omega)]; simp
theorem Pd.lens_cnt (h:Pd p n) (c:Nat):(c:Int) * (((lens p n).count (c:Int):Nat):Int) = smE n.toNat fun x=>if lenW p n x = c then 1 else 0:=by
 rw [<-h.all]
 have:=smE_len (A:=cyc p n) (c:=c) _ (Nat.le_refl _)
 rw [List.take_length] at this
 unfold lens
 rw [<-this]
 refine smE_congr _ fun v hv=>?_
 have e1:(smE n.toNat fun e=>if (e:Int) ∈ gl (cyc p n) v then (if lenW p n e = c then 1 else 0) else 0) = if (gl (cyc p n) v).length = c then smE n.toNat (fun e=>if (e:Int) ∈ gl (cyc p n) v then gi (tab n fun _=>1) e else 0) else 0:=by
  by_cases q:(gl (cyc p n) v).length = c
  ·rw [if_pos q]
   refine smE_congr _ fun e he=>?_
   by_cases r:(e:Int) ∈ gl (cyc p n) v
   ·rw [if_pos r,if_pos r,tab_at he,if_pos]
    unfold lenW; rw [<-(h.wh_iff he hv).1 r]; exact q
   ·rw [if_neg r,if_neg r]
  ·rw [if_neg q]
   refine (smE_congr (g:=fun _=>0) _ fun e he=>?_).trans (smE_zero _)
   show (if (e:Int) ∈ gl (cyc p n) v then (if lenW p n e = c then (1:Int) else 0) else 0) = 0
   by_cases r:(e:Int) ∈ gl (cyc p n) v
   ·rw [if_pos r,if_neg]
    unfold lenW; rw [<-(h.wh_iff he hv).1 r]; exact q
   ·rw [if_neg r]
 rw [e1]
 by_cases q:(gl (cyc p n) v).length = c
 ·rw [if_pos q,if_pos q,<-h.sumT hv,sumT_ones (fun y hy=>(cyc_at h.lt h.hn _ (gl_mem hv)).1 y hy) _ (Nat.le_refl _),q]
 ·rw [if_neg q,if_neg q]
theorem Pd.len_pos (h:Pd p n) {a:Int} (ha:a ∈ lens p n):1 <= a:=by
 simp only [lens,List.mem_map] at ha
 obtain ⟨l,hl,rfl⟩:=ha
 obtain ⟨v,hv,rfl⟩:=List.getElem_of_mem hl
 obtain ⟨r,L,hr,_,hL,e⟩:=cyc_orb h.pf h.nn hv
 rw [gl_of hv] at e
 rw [e,orb_len]
 have:=hL.pos; omega
theorem lens_perm (hp:Pd p n) (hq:Pd q n) (s:Nat -> Nat) (hs:∀ g:Nat -> Int,smE n.toNat (fun x=>g (s x)) = smE n.toNat g) (h:∀ x,x < n.toNat -> lenW q n (s x) = lenW p n x):(lens p n).Perm (lens q n):=by
 refine List.perm_iff_count.2 fun c=>?_
 by_cases hc:1 <= c
 ·obtain ⟨k,rfl⟩:∃ k:Nat,c = k:=⟨c.toNat,by omega⟩
  have e1:=hp.lens_cnt k
  have e2:=hq.lens_cnt k
  rw [<-hs] at e2
  have e3:smE n.toNat (fun x=>if lenW q n (s x) = k then (1:Int) else 0) = smE n.toNat fun x=>if lenW p n x = k then 1 else 0:=smE_congr _ fun x hx=>by rw [h x hx]
  rw [e3,<-e1] at e2
  have:=Int.eq_of_mul_eq_mul_left (by omega) e2
  omega
 ·rw [List.count_eq_zero_of_not_mem fun h=>hc (hp.len_pos h),List.count_eq_zero_of_not_mem fun h=>hc (hq.len_pos h)]
theorem it_conj (hp:Pf p N) (h:∀ x,x < N -> fp q (fp σ x) = fp σ (fp p x)) {x:Nat} (hx:x < N):∀ k,it q k (fp σ x) = fp σ (it p k x)
 | 0=>rfl
 | k + 1=>by simp only [it]; rw [it_conj hp h hx k,h _ (it_lt hp hx k)]
theorem lens_conj (hp:Pd p n) (hq:Pd q n) (hσ:Pf σ n.toNat) (h:∀ x,x < n.toNat -> fp q (fp σ x) = fp σ (fp p x)):(lens p n).Perm (lens q n):=by
 refine lens_perm hp hq (fp σ) (fun g=>smE_perm hσ) fun x hx=>?_
 have h1:=hp.per hx
 refine (hq.per (hσ.lt x hx)).same ⟨h1.pos,?_,fun j h0 hj e=>?_⟩
 ·rw [it_conj hp.pf h hx,h1.ret]
 ·rw [it_conj hp.pf h hx] at e
  exact h1.min j h0 hj (hσ.inj _ _ (it_lt hp.pf hx j) hx e)
theorem it_back (hp:Pf p N) (h:∀ x,x < N -> fp q (fp p x) = x) {x:Nat} (hx:x < N):∀ k,it q k (it p k x) = x
 | 0=>rfl
 | k + 1=>by
  rw [it_succ]
  simp only [it]
  rw [h _ (it_lt hp hx k)]
  exact it_back hp h hx k
theorem lens_back (hp:Pd p n) (hq:Pd q n) (h:∀ x,x < n.toNat -> fp q (fp p x) = x) (h':∀ x,x < n.toNat -> fp p (fp q x) = x):(lens p n).Perm (lens q n):=by
 refine lens_perm hp hq (fun x=>x) (fun g=>rfl) fun x hx=>?_
 have h1:=hp.per hx
 refine (hq.per hx).same ⟨h1.pos,?_,fun j h0 hj e=>?_⟩
 ·have:=it_back hp.pf h hx (lenW p n x)
  rw [h1.ret] at this; exact this
 ·have:=it_back hq.pf h' hx j
  rw [e] at this
  exact h1.min j h0 hj this
def typ (p:List Int) (n:Int):List Int:=dsc (lens p n)
theorem typ_len:(typ p n).length = (cyc p n).length:=by unfold typ; rw [dsc_len,lens_len]
theorem Pd.pairs (h:Pd p n):(∀ a ∈ typ p n,a = 2) ↔ ∀ x,x < n.toNat -> fp p x ≠ x /\ fp p (fp p x) = x:=by
 constructor
 ·intro ha x hx
  have h1:=h.per hx
  have h2:lenW p n x = 2:=by
   have:=ha (lenW p n x) (by
    unfold typ; rw [dsc_mem]
    unfold lens lenW
    exact List.mem_map.2 ⟨_,gl_mem h.wh_lt,rfl⟩)
   omega
  rw [h2] at h1
  exact ⟨h1.min 1 (by omega) (by omega),h1.ret⟩
 ·intro hx a ha
  unfold typ at ha; rw [dsc_mem] at ha
  simp only [lens,List.mem_map] at ha
  obtain ⟨l,hl,rfl⟩:=ha
  obtain ⟨v,hv,rfl⟩:=List.getElem_of_mem hl
  obtain ⟨r,L,hr,_,hL,e⟩:=cyc_orb h.pf h.nn hv
  rw [gl_of hv] at e
  rw [e,orb_len]
  have:=(⟨by omega,(hx r hr).2,fun j h0 hj e=>by
   have:j = 1:=by omega
   subst this; exact (hx r hr).1 e⟩:Per p r 2).same hL
  omega
end
end
section
set_option maxHeartbeats 1000000
def srX (x:Int):Sr:=([x],(List.replicate 16 false).set x.toNat true)
theorem srX_ok {x:Int} (hx:0 <= x /\ x < 16):SrOk (srX x):=by
 refine ⟨by simp [srX],?_,fun j hj=>?_⟩
 ·have hl:x.toNat < (List.replicate 16 false).length:=by simp; omega
  simp only [srX]
  rw [List.count_set hl]
  simp
 ·have:j = 0:=by simp [srX] at hj; exact hj
  subst this; exact hx
theorem srRun_ok {p q:List Int} (hp:lo16 p) (hq:lo16 q):∀ (k i:Nat) {s:Sr},SrOk s -> SrOk (srRun p q k i s)
 | 0,i,s,h=>h
 | k + 1,i,s,h=>by
  simp only [srRun]
  split
  ·exact srRun_ok hp hq k (i + 1) (srStep_ok hp hq h (by assumption))
  ·exact h
def nmdL (p q:List Int) (x:Int):List Int:=(srRun p q 17 0 (srX x)).1
theorem nmdL_ok {p q:List Int} (hp:lo16 p) (hq:lo16 q) {x:Int} (hx:0 <= x /\ x < 16):(nmdL p q x).length <= 16 /\ ∀ j,j < (nmdL p q x).length -> 0 <= gi (nmdL p q x) j /\ gi (nmdL p q x) j < 16 :=
 ⟨(srRun_ok hp hq 17 0 (srX_ok hx)).le,(srRun_ok hp hq 17 0 (srX_ok hx)).lo⟩
def nameT (l:List Int):Nat -> List Int
 | 0=>List.replicate 16 0
 | s + 1=>(nameT l s).set (gi l s).toNat s
theorem nameT_len {l:List Int}:∀ s,(nameT l s).length = 16
 | 0=>by simp [nameT]
 | s + 1=>by simp [nameT,nameT_len s]
theorem nameT_lo {l:List Int}:∀ s,s <= 16 -> lo16 (nameT l s)
 | 0,_=>⟨by simp [nameT],fun i hi=>by simp only [nameT]; rw [gi_rep]; split <;> omega⟩
 | s + 1,h=>⟨by simp [nameT,nameT_len],fun i hi=>by
  simp only [nameT]
  rw [gi_set]
  split
  ·omega
  ·exact (nameT_lo s (by omega)).2 i hi⟩
def nmgP (p q:List Int) (x:Int):List Int:=nameT (nmdL p q x) (nmdL p q x).length
theorem nmgP_lo {p q:List Int} (hp:lo16 p) (hq:lo16 q) {x:Int} (hx:0 <= x /\ x < 16):lo16 (nmgP p q x):=nameT_lo _ (nmdL_ok hp hq hx).1
theorem visit_pre {y:Int} {s:Sr} {j:Nat} (hj:j < s.1.length):gi (visit y s).1 j = gi s.1 j:=by
 unfold visit; split
 ·rfl
 ·simp only [gi_app]; rw [if_pos hj]
theorem srStep_pre {p q:List Int} {i:Nat} {s:Sr} {j:Nat} (hj:j < s.1.length):gi (srStep p q i s).1 j = gi s.1 j:=by
 unfold srStep
 rw [visit_pre (Nat.lt_of_lt_of_le hj visit_len),visit_pre hj]
theorem sr_mid {p q:List Int} {i j:Nat} {s0 s:Sr} (hp:lo16 p) (hq:lo16 q) (h1:SrOk s0) (hi:i < s0.1.length) (h:s = if j = 0 then s0 else if j = 1 then visit (gi p (gi s0.1 i).toNat) s0 else srStep p q i s0) :
  SrOk s /\ (∀ k,k < s0.1.length -> gi s.1 k = gi s0.1 k) /\ s0.1.length <= s.1.length:=by
 have h0:=h1.lo i hi
 rw [h]
 split
 ·exact ⟨h1,fun _ _=>rfl,Nat.le_refl _⟩
 ·split
  ·exact ⟨visit_ok h1 (hp.2 _ (by omega)),fun k hk=>visit_pre hk,visit_len⟩
  ·exact ⟨srStep_ok hp hq h1 hi,fun k hk=>srStep_pre hk,srStep_len⟩
theorem c_impl_named {n:Int} {p q:List Int} {x:Int} (hp:lo16 p) (hq:lo16 q) (hx:0 <= x /\ x < 16):PSpec Tryz.prog 112 [vD n p q,.int .i64 x] fun v=>v = .own 5 1 (nmdL p q x).length (vi .u8 (nmdL p q x)):=by
 have hl:=hp.1
 have hk:=hq.1
 refine impl_named_f.f ?_
 unfold vD
 simp (disch:=first | omega | (simp only [LN]; omega)) only [↓EC,EW,seval,↓reduceIte,impl_named_F,hl,hk]
 refine LP_of (σ:=Sr × Nat) 100000 [(66,28,1),(69,120,1)] (fun s=>[.own 5 1 s.1.1.length (vi .u8 s.1.1),.int .i64 s.2]) (fun s=>[.int .i64 n :: vi .u8 (p ++ q),vb s.1.2])
  (fun s=>SrOk s.1 /\ s.2 <= s.1.1.length /\ srRun p q (17 - s.2) s.2 s.1 = srRun p q 17 0 (srX x)) (fun s=>17 - s.2) (srX x,0) (by simp [frameOk,names,lpz,sclp,scv,scvs,nrfs,nrf,FRB]) ⟨srX_ok hx,Nat.zero_le _,rfl⟩ ?_ ?_
 ·simp (disch:=first | omega | (simp only [LN]; omega)) only [↓EC,EW,seval,↓reduceIte,ColV_def]
  exact ⟨rfl,rfl⟩
 ·rintro ⟨⟨l,m⟩,i⟩ ⟨h1,h2,h3⟩
  simp only at h1 h2 h3
  have hm:=h1.len
  have hle:=h1.le
  simp only at hm hle
  simp (disch:=first | omega | (simp only [LN]; omega)) only [↓EC,EW,seval,↓reduceIte,ColV_def,lheap_def]
  (refine Split.mk (fun h=>?_) (fun h=>?_) <;> (try simp only [SD] at h))
  ·have hi:i < l.length:=by omega
   have hlo:=h1.lo i hi
   simp only at hlo
   have hy1:=hp.2 (gi l i).toNat (by omega)
   have hy2:=hq.2 (gi l i).toNat (by omega)
   (try simp (disch:=first | omega | (simp only [LN]; omega)) only [↓EC,EW,seval,↓reduceIte,hl,hk])
   refine LP_of (σ:=Sr × Nat) 200000 [(66,28,1),(69,120,1),(100,5,1)] (fun s=>[.own 5 1 s.1.1.length (vi .u8 s.1.1),.int .i64 s.2])
    (fun s=>[.int .i64 n :: vi .u8 (p ++ q),vb s.1.2,vi .u8 [gi p (gi l i).toNat,gi q (gi l i).toNat]])
    (fun s=>s.2 <= 2 /\ s.1 = if s.2 = 0 then (l,m) else if s.2 = 1 then visit (gi p (gi l i).toNat) (l,m) else srStep p q i (l,m)) (fun s=>2 - s.2) ((l,m),0) (by simp [frameOk,names,lpz,sclp,scv,scvs,nrfs,nrf,FRB]) ⟨Nat.zero_le 2,rfl⟩ ?_ ?_
   ·simp (disch:=first | omega | (simp only [LN]; omega)) only [↓EC,EW,seval,↓reduceIte,ColV_def]
    rfl
   ·rintro ⟨s,j⟩ ⟨g1,g2⟩
    simp only at g1 g2
    obtain ⟨hs,hpre,hil⟩:=sr_mid (s0:=(l,m)) hp hq h1 hi g2
    simp only at hil
    have hsm:=hs.len
    have hsl:=hs.le
    simp (disch:=first | omega | (simp only [LN]; omega)) only [↓EC,EW,seval,↓reduceIte,ColV_def,lheap_def]
    (refine Split.mk (fun h=>?_) (fun h=>?_) <;> (try simp only [SD] at h))
    ·have hj:j = 0 ∨ j = 1:=by omega
     rcases hj with rfl | rfl
     ·(try simp (disch:=first | omega | (simp only [LN]; omega)) only [↓EC,EW,seval,↓reduceIte,hl,hk])
      rw [if_pos rfl] at g2
      (refine Split.mk (fun h=>?_) (fun h=>?_) <;> (try simp only [SD] at h))
      ·exact ⟨(visit (gi p (gi l i).toNat) s,1),by rw [visit_no h]; simp,by rw [visit_no h],⟨by simp,by rw [g2]; rfl⟩,by simp⟩
      ·exact ⟨(visit (gi p (gi l i).toNat) s,1),by rw [visit_yes h]; simp,by rw [visit_yes h],⟨by simp,by rw [g2]; rfl⟩,by simp⟩
     ·(try simp (disch:=first | omega | (simp only [LN]; omega)) only [↓EC,EW,seval,↓reduceIte,hl,hk])
      rw [if_neg (by decide),if_pos rfl] at g2
      (refine Split.mk (fun h=>?_) (fun h=>?_) <;> (try simp only [SD] at h))
      ·exact ⟨(visit (gi q (gi l i).toNat) s,2),by rw [visit_no h]; simp,by rw [visit_no h],⟨by simp,by rw [g2]; rfl⟩,by simp⟩
      ·exact ⟨(visit (gi q (gi l i).toNat) s,2),by rw [visit_yes h]; simp,by rw [visit_yes h],⟨by simp,by rw [g2]; rfl⟩,by simp⟩
    ·(try simp (disch:=first | omega | (simp only [LN]; omega)) only [↓EC,EW,seval,↓reduceIte])
     rw [if_neg (by omega),if_neg (by omega)] at g2
     refine ⟨(s,i + 1),rfl,rfl,⟨hs,by simp only; omega,?_⟩,by simp only; omega⟩
     rw [show 17 - i = 16 - i + 1 from by omega] at h3
     simp only [srRun,if_pos hi] at h3
     try simp only
     rw [g2,show 17 - (i + 1) = 16 - i from by omega]
     exact h3
  ·(try simp (disch:=first | omega | (simp only [LN]; omega)) only [↓EC,EW,seval,↓reduceIte])
   unfold nmdL
   rw [<-h3,show 17 - i = 16 - i + 1 from by omega]
   simp only [srRun]
   rw [if_neg (by omega)]
theorem c_impl_naming {n:Int} {p q:List Int} {x:Int} (hp:lo16 p) (hq:lo16 q) (hx:0 <= x /\ x < 16):PSpec Tryz.prog 94 [vD n p q,.int .i64 x] fun v=>v = .agg (vi .u8 (nmgP p q x)):=by
 have hl:=hp.1
 have hk:=hq.1
 obtain ⟨n1,n2⟩:=nmdL_ok hp hq hx
 refine impl_naming_f.f ?_
 have h1:=c_impl_named (n:=n) hp hq hx
 unfold vD at h1 ⊢
 simp (disch:=first | omega | (simp only [LN]; omega)) only [↓EC,EW,seval,↓reduceIte,impl_naming_F,hl,hk]
 refine pcd_v h1 ?_
 unfold nmgP
 generalize nmdL p q x = L at *
 (try simp (disch:=first | omega | (simp only [LN]; omega)) only [↓EC,EW,seval,↓reduceIte,hl,hk])
 refine LP_of (σ:=Nat) 100000 [(66,28,1),(68,26,1),(69,26,1)] (fun s=>[.int .i64 s]) (fun s=>[.int .i64 n :: vi .u8 (p ++ q),vi .u8 (List.replicate 16 0),vi .u8 (nameT L s)])
  (fun s=>s <= L.length) (fun s=>L.length - s) 0 (by simp [frameOk,names,lpz,sclp,scv,scvs,nrfs,nrf,FRB]) (Nat.zero_le _) ?_ ?_
 ·simp (disch:=first | omega | (simp only [LN]; omega)) only [↓EC,EW,seval,↓reduceIte,ColV_def]
  rfl
 ·rintro s h1
  have hnl:=nameT_len (l:=L) s
  simp (disch:=first | omega | (simp only [LN]; omega)) only [↓EC,EW,seval,↓reduceIte,ColV_def,lheap_def]
  (refine Split.mk (fun h=>?_) (fun h=>?_) <;> (try simp only [SD] at h))
  ·have hb:=n2 s (by omega)
   (try simp (disch:=first | omega | (simp only [LN]; omega)) only [↓EC,EW,seval,↓reduceIte])
   (refine ⟨s + 1,?_⟩; repeat' (first | (refine And.intro ?_ ?_) | rfl | omega | trivial))
  ·have:s = L.length:=by omega
   subst this
   (try simp (disch:=first | omega | (simp only [LN]; omega)) only [↓EC,EW,seval,↓reduceIte,hnl])
def rnT (p b:List Int):Nat -> List Int
 | 0=>List.replicate 16 0
 | s + 1=>(rnT p b s).set (gi p s).toNat (gi p (gi b s).toNat)
theorem rnT_len {p b:List Int}:∀ s,(rnT p b s).length = 16
 | 0=>by simp [rnT]
 | s + 1=>by simp [rnT,rnT_len s]
theorem rnT_lo {p b:List Int} (hp:lo16 p) (hb:lo16 b):∀ s,s <= 16 -> lo16 (rnT p b s)
 | 0,_=>⟨by simp [rnT],fun i hi=>by simp only [rnT]; rw [gi_rep]; split <;> omega⟩
 | s + 1,h=>⟨by simp [rnT,rnT_len],fun i hi=>by
  have h1:=hb.2 s (by omega)
  simp only [rnT]
  rw [gi_set]
  split
  ·exact hp.2 _ (by omega)
  ·exact (rnT_lo hp hb s (by omega)).2 i hi⟩
theorem c_impl_rename {n:Int} {b w p:List Int} (hb:lo16 b) (hw:lo16 w) (hp:lo16 p) (hn:1 <= n /\ n <= 16):PSpec Tryz.prog 93 [vD n b w,.agg (vi .u8 p)] fun v=>v = vD n (rnT p b n.toNat) (rnT p w n.toNat):=by
 have hl:=hb.1
 have hk:=hw.1
 have hpl:=hp.1
 refine impl_rename_f.f ?_
 unfold vD
 simp (disch:=first | omega | (simp only [LN]; omega)) only [↓EC,EW,seval,↓reduceIte,impl_rename_F,hl,hk,hpl]
 refine LP_of (σ:=Nat) 100000 [(66,28,1),(67,26,1),(68,28,1),(69,28,1)] (fun s=>[.int .i64 s])
  (fun s=>[.int .i64 n :: vi .u8 (b ++ w),vi .u8 p,.int .i64 0 :: vi .u8 (List.replicate 32 0),.int .i64 n :: vi .u8 (rnT p b s ++ rnT p w s)])
  (fun s=>(s:Int) <= n) (fun s=>(n - s).toNat) 0 (by simp [frameOk,names,lpz,sclp,scv,scvs,nrfs,nrf,FRB]) (by simp only [Int.natCast_zero]; omega) ?_ ?_
 ·simp (disch:=first | omega | (simp only [LN]; omega)) only [↓EC,EW,seval,↓reduceIte,ColV_def]
  rfl
 ·rintro s h1
  have q1:=rnT_len (p:=p) (b:=b) s
  have q2:=rnT_len (p:=p) (b:=w) s
  simp (disch:=first | omega | (simp only [LN]; omega)) only [↓EC,EW,seval,↓reduceIte,ColV_def,lheap_def]
  (refine Split.mk (fun h=>?_) (fun h=>?_) <;> (try simp only [SD] at h))
  ·have a1:=hp.2 s (by omega)
   have a2:=hb.2 s (by omega)
   have a3:=hw.2 s (by omega)
   have a4:=hp.2 (gi b s).toNat (by omega)
   have a5:=hp.2 (gi w s).toNat (by omega)
   (try simp (disch:=first | omega | (simp only [LN]; omega)) only [↓EC,EW,seval,↓reduceIte,hl,hk,hpl,q1,q2])
   exact ⟨s + 1,rfl,rfl,by omega,by omega⟩
  ·have:s = n.toNat:=by omega
   subst this
   (try simp (disch:=first | omega | (simp only [LN]; omega)) only [↓EC,EW,seval,↓reduceIte,hl,hk,q1,q2])
end
section
set_option maxHeartbeats 1000000
theorem fp_nn {p:List Int} (hp:lo16 p) (x:Nat):gi p x = (fp p x:Int):=by have:=lo16_nn hp x; unfold fp; omega
theorem gi_ext16 {l m:List Int} (hl:l.length = 16) (hm:m.length = 16) (h:∀ i,i < 16 -> gi l i = gi m i):l = m:=gi_ext (by omega) fun i hi=>h i (by omega)
section
variable {b w:List Int} {n:Int}
theorem visit_sub {y:Int} {s:Sr} {z:Int} (h:z ∈ s.1):z ∈ (visit y s).1:=by
 unfold visit; split
 ·exact h
 ·exact List.mem_append_left _ h
theorem visit_has {y:Int} {s:Sr} (h:Q.Sx n s) (hn:n <= 16) (hy:0 <= y /\ y < n):y ∈ (visit y s).1:=by
 unfold visit; split
 ·rename_i hv
  have:=(h.has y.toNat (by omega)).1 hv
  rw [show ((y.toNat:Nat):Int) = y by omega] at this; exact this
 ·exact List.mem_append_right _ (List.mem_singleton.2 rfl)
theorem Sx_len {s:Sr} (h:Q.Sx n s):s.1.length <= n.toNat:=by
 have:=nodup_len n.toNat (s.1.map Int.toNat) (List.pairwise_map.2 (List.Pairwise.imp_of_mem (fun {a c} ha hc hne ee=>by
  have:=h.lt a ha
  have:=h.lt c hc
  omega) h.nd)) fun z hz=>by
  obtain ⟨u,hu,rfl⟩:=List.mem_map.1 hz
  have:=h.lt u hu
  omega
 simpa using this
theorem Sx_step (hn:1 <= n /\ n <= 16) (hb:ltP b n) (hw:ltP w n) {s:Sr} (h:Q.Sx n s) {k:Nat} (hk:k < s.1.length):Q.Sx n (srStep b w k s):=by
 have hm:gi s.1 k ∈ s.1:=by rw [gi_of hk]; exact List.getElem_mem hk
 have hz:=h.lt _ hm
 exact Q.Sx.visit hn (Q.Sx.visit hn h (hb (gi s.1 k).toNat (by omega))) (hw (gi s.1 k).toNat (by omega))
theorem srRun_cl (hn:1 <= n /\ n <= 16) (hb:ltP b n) (hw:ltP w n):∀ (m i:Nat) {s:Sr},i + m = 17 -> Q.Sx n s -> i <= s.1.length -> (∀ j,j < i -> gi b (gi s.1 j).toNat ∈ s.1 /\ gi w (gi s.1 j).toNat ∈ s.1) ->
  Q.Sx n (srRun b w m i s) /\ (∀ z ∈ s.1,z ∈ (srRun b w m i s).1) /\ ∀ z ∈ (srRun b w m i s).1,gi b z.toNat ∈ (srRun b w m i s).1 /\ gi w z.toNat ∈ (srRun b w m i s).1
 | 0,i,s,e,h,hi,hc=>by
  have:=Sx_len h
  omega
 | m + 1,i,s,e,h,hi,hc=>by
  simp only [srRun]
  split
  ·rename_i hlt
   have h':=Sx_step hn hb hw h hlt
   have hm:gi s.1 i ∈ s.1:=by rw [gi_of hlt]; exact List.getElem_mem hlt
   have hz:=h.lt _ hm
   have by_:=hb (gi s.1 i).toNat (by omega)
   have wy_:=hw (gi s.1 i).toNat (by omega)
   have sub:∀ z ∈ s.1,z ∈ (srStep b w i s).1:=fun z hz=>visit_sub (visit_sub hz)
   obtain ⟨c1,c2,c3⟩:=srRun_cl hn hb hw m (i + 1) (s:=srStep b w i s) (by omega) h' (Nat.le_trans hlt srStep_len) fun j hj=>by
    rw [srStep_pre (show j < s.1.length by omega)]
    by_cases q:j = i
    ·subst q
     exact ⟨visit_sub (visit_has h hn.2 by_),visit_has (Q.Sx.visit hn h by_) hn.2 wy_⟩
    ·exact ⟨sub _ (hc j (by omega)).1,sub _ (hc j (by omega)).2⟩
   exact ⟨c1,fun z hz=>c2 z (sub z hz),c3⟩
  ·refine ⟨h,fun z hz=>hz,fun z hz=>?_⟩
   obtain ⟨j,hj,rfl⟩:=List.getElem_of_mem hz
   have:=hc j (by omega)
   rw [gi_of hj] at this; exact this
theorem srRun_ind (hb:ltP b n) (hw:ltP w n) {S:Nat -> Prop} (hB:∀ x,x < n.toNat -> S x -> S (fp b x)) (hW:∀ x,x < n.toNat -> S x -> S (fp w x)):∀ (m i:Nat) {s:Sr},(∀ z ∈ s.1,(0 <= z /\ z < n) /\ S z.toNat) -> ∀ z ∈ (srRun b w m i s).1,S z.toNat
 | 0,i,s,h=>fun z hz=>(h z hz).2
 | m + 1,i,s,h=>by
  simp only [srRun]
  split
  ·rename_i hlt
   have hm:gi s.1 i ∈ s.1:=by rw [gi_of hlt]; exact List.getElem_mem hlt
   obtain ⟨hz,hS⟩:=h _ hm
   have by_:=hb (gi s.1 i).toNat (by omega)
   have wy_:=hw (gi s.1 i).toNat (by omega)
   have hv:∀ (y:Int) (s:Sr),(∀ z ∈ s.1,(0 <= z /\ z < n) /\ S z.toNat) -> ((0 <= y /\ y < n) /\ S y.toNat) -> ∀ z ∈ (visit y s).1,(0 <= z /\ z < n) /\ S z.toNat:=fun y s hs hy z hz=>by
    unfold visit at hz
    split at hz
    ·exact hs z hz
    ·rcases List.mem_append.1 hz with hz | hz
     ·exact hs z hz
     ·rw [List.mem_singleton.1 hz]; exact hy
   exact srRun_ind hb hw hB hW m (i + 1) (hv _ _ (hv _ _ h ⟨by_,hB _ (by omega) hS⟩) ⟨wy_,hW _ (by omega) hS⟩)
  ·exact fun z hz=>(h z hz).2
theorem full_len {L:List Int} (hn:0 <= n) (h:∀ x:Nat,x < n.toNat -> (x:Int) ∈ L):n.toNat <= L.length:=by
 have:=List.Nodup.length_le_of_subset (l₁:=(List.range n.toNat).map fun x:Nat=>(x:Int)) (l₂:=L) (List.pairwise_map.2 (List.Pairwise.imp (fun {a c} h e=>h (by omega)) List.nodup_range)) fun z hz=>by
  obtain ⟨x,hx,rfl⟩:=List.mem_map.1 hz
  exact h x (List.mem_range.1 hx)
 simpa using this
theorem full_mem {L:List Int} (nd:L.Nodup) (lt:∀ y ∈ L,0 <= y /\ y < n) (hl:n.toNat <= L.length) {x:Nat} (hx:x < n.toNat):(x:Int) ∈ L:=by
 refine Classical.byContradiction fun hno=>?_
 have hnd:(x :: L.map Int.toNat).Nodup:=by
  refine List.nodup_cons.2 ⟨fun hm=>?_,List.pairwise_map.2 (List.Pairwise.imp_of_mem ?_ nd)⟩
  ·obtain ⟨z,hz,ez⟩:=List.mem_map.1 hm
   have:=lt z hz
   rw [show z = (x:Int) from by omega] at hz
   exact hno hz
  ·intro a c ha hc hne ee
   have:=lt a ha
   have:=lt c hc
   omega
 have:=nodup_len n.toNat _ hnd fun z hz=>by
  rcases List.mem_cons.1 hz with rfl | hz
  ·omega
  ·obtain ⟨u,hu,rfl⟩:=List.mem_map.1 hz
   have:=lt u hu
   omega
 simp at this
 omega
theorem cnt_of (hn:1 <= n /\ n <= 16) (hb:ltP b n) (hw:ltP w n) (hall:∀ S:Nat -> Prop,S 0 -> (∀ x,x < n.toNat -> S x -> S (fp b x)) -> (∀ x,x < n.toNat -> S x -> S (fp w x)) -> ∀ x,x < n.toNat -> S x):(cntR b w:Int) = n:=by
 obtain ⟨c1,c2,c3⟩:=srRun_cl hn hb hw 17 0 rfl (Q.Sx.zero hn) (Nat.zero_le _) fun j hj=>absurd hj (Nat.not_lt_zero j)
 have fin:=hall (fun x=>(x:Int) ∈ (srRun b w 17 0 sr0).1) (c2 0 (by simp [sr0])) (fun x hx h=>by
  have:=(c3 _ h).1
  have bx:=hb x (by omega)
  rw [Int.toNat_natCast] at this
  unfold fp; rw [show (((gi b x).toNat:Nat):Int) = gi b x by omega]; exact this) (fun x hx h=>by
  have:=(c3 _ h).2
  have wx:=hw x (by omega)
  rw [Int.toNat_natCast] at this
  unfold fp; rw [show (((gi w x).toNat:Nat):Int) = gi w x by omega]; exact this)
 have h1:=full_len (by omega) fin
 have h2:=Sx_len c1
 unfold cntR
 omega
theorem Dz.alls (h:Dz n b w) {S:Nat -> Prop} (h0:S 0) (hB:∀ x,x < n.toNat -> S x -> S (fp b x)) (hW:∀ x,x < n.toNat -> S x -> S (fp w x)):∀ x,x < n.toNat -> S x:=fun x hx=>by
 have hn:=h.B.hn
 obtain ⟨c1,c2,c3⟩:=srRun_cl hn h.B.lt h.W.lt 17 0 rfl (Q.Sx.zero hn) (Nat.zero_le _) fun j hj=>absurd hj (Nat.not_lt_zero j)
 have hc:=h.D.cn
 unfold cntR at hc
 have hm:=full_mem c1.nd c1.lt (by omega) hx
 have:=srRun_ind h.B.lt h.W.lt hB hW 17 0 (s:=sr0) (fun z hz=>by
  have:z = 0:=by simpa [sr0] using hz
  subst this; exact ⟨by omega,h0⟩) _ hm
 simpa using this
theorem cl_back {p:List Int} {N:Nat} (hp:Pf p N) {S:Nat -> Prop} (hS:∀ x,x < N -> S x -> S (fp p x)) {x:Nat} (hx:x < N) (h:S (fp p x)):S x:=by
 obtain ⟨K,h1,h2⟩:=it_ret hp hx
 obtain ⟨k,rfl⟩:∃ k,K = k + 1:=⟨K - 1,by omega⟩
 rw [it_succ] at h2
 rw [<-h2]
 have:∀ k,S (it p k (fp p x)):=fun k=>by
  induction k with
  | zero=>exact h
  | succ k ih=>exact hS _ (it_lt hp (hp.lt x hx) k) ih
 exact this k
theorem Dz.alls_from (h:Dz n b w) {S:Nat -> Prop} {x0:Nat} (hx0:x0 < n.toNat) (h0:S x0) (hB:∀ x,x < n.toNat -> S x -> S (fp b x)) (hW:∀ x,x < n.toNat -> S x -> S (fp w x)):∀ x,x < n.toNat -> S x:=by
 refine h.alls (Classical.byContradiction fun hno=>?_) hB hW
 exact h.alls (S:=fun y=>¬ S y) hno (fun x hx hs q=>hs (cl_back h.B.pf hB hx q)) (fun x hx hs q=>hs (cl_back h.W.pf hW hx q)) x0 hx0 h0
theorem srX_Sx (hn:1 <= n /\ n <= 16) {x:Nat} (hx:x < n.toNat):Q.Sx n (srX x):=by
 refine ⟨by simp [srX],by simp [srX],fun y hy=>?_,fun y hy=>?_⟩
 ·simp only [srX,List.mem_singleton]
  rw [gb_set,gb_rep]
  simp
  omega
 ·simp only [srX,List.mem_singleton] at hy; omega
structure Nm (n:Int) (L:List Int):Prop where
 nd:L.Nodup
 lt:∀ y ∈ L,0 <= y /\ y < n
 len:L.length = n.toNat
 all:∀ x:Nat,x < n.toNat -> (x:Int) ∈ L
theorem Dz.nm (h:Dz n b w) {x:Nat} (hx:x < n.toNat):Nm n (nmdL b w x):=by
 have hn:=h.B.hn
 obtain ⟨c1,c2,c3⟩:=srRun_cl hn h.B.lt h.W.lt 17 0 rfl (srX_Sx hn hx) (Nat.zero_le _) fun j hj=>absurd hj (Nat.not_lt_zero j)
 have fin:=h.alls_from (S:=fun y=>(y:Int) ∈ nmdL b w x) hx (c2 x (by simp [srX])) (fun y hy hm=>by
  have:=(c3 _ hm).1
  have bx:=h.B.lt y (by omega)
  rw [Int.toNat_natCast] at this
  unfold fp; rw [show (((gi b y).toNat:Nat):Int) = gi b y by omega]; exact this) (fun y hy hm=>by
  have:=(c3 _ hm).2
  have wx:=h.W.lt y (by omega)
  rw [Int.toNat_natCast] at this
  unfold fp; rw [show (((gi w y).toNat:Nat):Int) = gi w y by omega]; exact this)
 refine ⟨c1.nd,c1.lt,?_,fin⟩
 have h1:=full_len (by omega) fin
 have h2:=Sx_len c1
 unfold nmdL at *
 omega
theorem nameT_at {L:List Int} (nd:L.Nodup) (lt:∀ y ∈ L,0 <= y /\ y < 16):∀ s,s <= L.length -> ∀ j,j < s -> gi (nameT L s) (gi L j).toNat = j
 | 0,_,j,hj=>absurd hj (Nat.not_lt_zero j)
 | s + 1,hs,j,hj=>by
  simp only [nameT]
  have m1:gi L j ∈ L:=by rw [gi_of (show j < L.length by omega)]; exact List.getElem_mem _
  have m2:gi L s ∈ L:=by rw [gi_of (show s < L.length by omega)]; exact List.getElem_mem _
  have l1:=lt _ m1
  have l2:=lt _ m2
  rw [gi_set,nameT_len]
  by_cases e:j = s
  ·subst e; rw [if_pos ⟨rfl,by omega⟩]
  ·rw [if_neg,nameT_at nd lt s (by omega) j (by omega)]
   rintro ⟨q,_⟩
   have q:gi L s = gi L j:=by omega
   rw [gi_of (show s < L.length by omega),gi_of (show j < L.length by omega)] at q
   exact e ((List.getElem_inj nd).1 q).symm
theorem nmx_at (hn:n <= 16) {L:List Int} (h:Nm n L) {j:Nat} (hj:j < n.toNat):fp (nameT L L.length) (gi L j).toNat = j:=by
 unfold fp
 rw [nameT_at h.nd (fun y hy=>by have:=h.lt y hy; omega) _ (Nat.le_refl _) j (by rw [h.len]; exact hj)]; simp
theorem nm_ex {L:List Int} (h:Nm n L) {y:Nat} (hy:y < n.toNat):∃ j,j < n.toNat /\ (gi L j).toNat = y:=by
 obtain ⟨j,hj,e⟩:=List.getElem_of_mem (h.all y hy)
 exact ⟨j,by rw [<-h.len]; exact hj,by rw [gi_of hj,e]; simp⟩
theorem nm_pf (hn:1 <= n /\ n <= 16) {L:List Int} (h:Nm n L):Pf (nameT L L.length) n.toNat:=by
 refine ⟨fun y hy=>?_,fun y z hy hz e=>?_,by omega⟩
 ·obtain ⟨j,hj,rfl⟩:=nm_ex h hy
  rw [nmx_at hn.2 h hj]; exact hj
 ·obtain ⟨j,hj,rfl⟩:=nm_ex h hy
  obtain ⟨k,hk,rfl⟩:=nm_ex h hz
  rw [nmx_at hn.2 h hj,nmx_at hn.2 h hk] at e
  rw [e]
theorem rnT_at {p c:List Int} {N:Nat} (hp:Pf p N):∀ s,s <= N -> ∀ i,i < s -> gi (rnT p c s) (fp p i) = gi p (gi c i).toNat
 | 0,_,i,hi=>absurd hi (Nat.not_lt_zero i)
 | s + 1,hs,i,hi=>by
  have hN:=hp.le
  have l1:=hp.lt s (by omega)
  simp only [rnT]
  rw [gi_set,rnT_len]
  by_cases e:i = s
  ·subst e; rw [if_pos ⟨rfl,by unfold fp at *; omega⟩]
  ·rw [if_neg,rnT_at hp s (by omega) i (by omega)]
   rintro ⟨q,_⟩
   exact e (hp.inj _ _ (by omega) (by omega) q.symm)
theorem rnT_out {p c:List Int} {y:Nat}:∀ s,(∀ i,i < s -> fp p i ≠ y) -> gi (rnT p c s) y = 0
 | 0,_=>by simp only [rnT]; rw [gi_rep]; split <;> rfl
 | s + 1,h=>by
  simp only [rnT]
  rw [gi_set,if_neg fun q=>h s (by omega) q.1,rnT_out s fun i hi=>h i (by omega)]
theorem rnT_fp {p c:List Int} (hp:Pf p n.toNat) {i:Nat} (hi:i < n.toNat):fp (rnT p c n.toNat) (fp p i) = fp p (fp c i):=by
 conv=>lhs; unfold fp
 have:=rnT_at (c:=c) hp _ (Nat.le_refl _) i hi
 unfold fp at this ⊢
 rw [this]
structure Iso (n:Int) (b w b' w' σ:List Int):Prop where
 pf:Pf σ n.toNat
 eb:∀ x,x < n.toNat -> fp b' (fp σ x) = fp σ (fp b x)
 ew:∀ x,x < n.toNat -> fp w' (fp σ x) = fp σ (fp w x)
variable {b' w' σ:List Int}
theorem Iso.symm (hn:1 <= n /\ n <= 16) (i:Iso n b w b' w' σ) (hb:Pf b n.toNat) (hw:Pf w n.toNat):Iso n b' w' b w (backP σ n):=by
 refine ⟨back_pf hn i.pf,fun x hx=>?_,fun x hx=>?_⟩
 ·obtain ⟨y,hy,rfl⟩:=i.pf.onto hx
  rw [back_fp i.pf hy,i.eb y hy,back_fp i.pf (hb.lt y hy)]
 ·obtain ⟨y,hy,rfl⟩:=i.pf.onto hx
  rw [back_fp i.pf hy,i.ew y hy,back_fp i.pf (hw.lt y hy)]
theorem Iso.trans (hn:1 <= n /\ n <= 16) {b'' w'' τ:List Int} (i:Iso n b w b' w' σ) (j:Iso n b' w' b'' w'' τ) (hb:Pf b n.toNat) (hw:Pf w n.toNat):Iso n b w b'' w'' (thenP σ τ n):=by
 refine ⟨then_pf hn i.pf j.pf,fun x hx=>?_,fun x hx=>?_⟩
 ·rw [then_fp hn hx,j.eb _ (i.pf.lt x hx),i.eb x hx,then_fp hn (hb.lt x hx)]
 ·rw [then_fp hn hx,j.ew _ (i.pf.lt x hx),i.ew x hx,then_fp hn (hw.lt x hx)]
theorem Iso.face (h:Dz n b w) (h':Dz n b' w') (i:Iso n b w b' w' σ) {x:Nat} (hx:x < n.toNat):fp (faceP b' w' n) (fp σ x) = fp σ (fp (faceP b w n) x):=by
 have hf:=h.F.pf.lt x hx
 have h1:=h'.face (i.pf.lt _ hf)
 rw [i.eb _ hf,i.ew _ (h.B.pf.lt _ hf),h.face' hx] at h1
 exact h1
theorem Iso.dz (h:Dz n b w) (i:Iso n b w b' w' σ) (hb:Pd b' n) (hw:Pd w' n) (pb:isPm b' n) (pw:isPm w' n):isD n b' w':=by
 refine ⟨pb,pw,cnt_of hb.hn hb.lt hw.lt fun S h0 hB hW x hx=>?_⟩
 obtain ⟨y,hy,rfl⟩:=i.pf.onto hx
 obtain ⟨z,hz,ez⟩:=i.pf.onto (show 0 < n.toNat by have:=hb.hn; omega)
 exact h.alls_from (S:=fun y=>S (fp σ y)) hz (by rw [ez]; exact h0) (fun y hy hs=>by rw [<-i.eb y hy]; exact hB _ (i.pf.lt y hy) hs) (fun y hy hs=>by rw [<-i.ew y hy]; exact hW _ (i.pf.lt y hy) hs) y hy
structure SrSim (n:Int) (σ:List Int) (s s':Sr):Prop where
 sa:Q.Sx n s
 sb:Q.Sx n s'
 e:s'.1 = s.1.map fun y=>(fp σ y.toNat:Int)
theorem SrSim.gb {s s':Sr} (h:SrSim n σ s s') (hn:n <= 16) (hσ:Pf σ n.toNat) {y:Nat} (hy:y < n.toNat):gb s'.2 (fp σ y) = gb s.2 y:=by
 have h1:=h.sa.has y (by omega)
 have h2:=h.sb.has (fp σ y) (by have:=hσ.lt y hy; omega)
 rw [h.e] at h2
 have h3:((fp σ y:Nat):Int) ∈ s.1.map (fun y=>(fp σ y.toNat:Int)) ↔ (y:Int) ∈ s.1:=by
  constructor
  ·intro hm
   obtain ⟨z,hz,e⟩:=List.mem_map.1 hm
   have:=h.sa.lt z hz
   have:=hσ.inj z.toNat y (by omega) hy (by omega)
   rw [show (y:Int) = z by omega]; exact hz
  ·intro hm
   exact List.mem_map.2 ⟨_,hm,by simp⟩
 rw [h3] at h2
 cases h4:Sep.gb s.2 y <;> cases h5:Sep.gb s'.2 (fp σ y) <;> simp_all
theorem SrSim.visit {s s':Sr} (h:SrSim n σ s s') (hn:1 <= n /\ n <= 16) (hσ:Pf σ n.toNat) {y:Nat} (hy:y < n.toNat):SrSim n σ (visit y s) (visit (fp σ y:Nat) s'):=by
 have hl:=hσ.lt y hy
 refine ⟨Q.Sx.visit hn h.sa (by omega),Q.Sx.visit hn h.sb (by omega),?_⟩
 have:=h.gb hn.2 hσ hy
 unfold Sep.visit
 simp only [Int.toNat_natCast]
 rw [this]
 split
 ·exact h.e
 ·simp only [List.map_append,List.map_cons,List.map_nil,Int.toNat_natCast]; rw [h.e]
theorem SrSim.run (hn:1 <= n /\ n <= 16) (hb:Pd b n) (hw:Pd w n) (lb:lo16 b') (lw:lo16 w') (i:Iso n b w b' w' σ):∀ (m k:Nat) {s s':Sr},SrSim n σ s s' -> SrSim n σ (srRun b w m k s) (srRun b' w' m k s')
 | 0,k,s,s',h=>h
 | m + 1,k,s,s',h=>by
  have hl:s'.1.length = s.1.length:=by rw [h.e]; simp
  simp only [srRun,hl]
  split
  ·rename_i hlt
   refine SrSim.run hn hb hw lb lw i m (k + 1) ?_
   have hm:gi s.1 k ∈ s.1:=by rw [gi_of hlt]; exact List.getElem_mem hlt
   have hz:=h.sa.lt _ hm
   obtain ⟨z,hz1,ez⟩:∃ z:Nat,z < n.toNat /\ gi s.1 k = z:=⟨(gi s.1 k).toNat,by omega,by omega⟩
   have e1:gi s'.1 k = (fp σ z:Nat):=by
    rw [h.e,gi_of (by simpa using hlt),List.getElem_map,<-gi_of hlt,ez,Int.toNat_natCast]
   unfold srStep
   rw [e1,ez]
   simp only [Int.toNat_natCast]
   have q1:gi b z = (fp b z:Nat):=fp_nn hb.lo z
   have q2:gi w z = (fp w z:Nat):=fp_nn hw.lo z
   have q3:gi b' (fp σ z) = (fp σ (fp b z):Nat):=by rw [<-i.eb z hz1]; exact fp_nn lb _
   have q4:gi w' (fp σ z) = (fp σ (fp w z):Nat):=by rw [<-i.ew z hz1]; exact fp_nn lw _
   rw [q1,q2,q3,q4]
   exact (h.visit hn i.pf (hb.pf.lt z hz1)).visit hn i.pf (hw.pf.lt z hz1)
  ·exact h
def frB (b w:List Int) (n:Int) (x:Int):List Int:=rnT (nmgP b w x) b n.toNat
def frW (b w:List Int) (n:Int) (x:Int):List Int:=rnT (nmgP b w x) w n.toNat
theorem nmg_pf (h:Dz n b w) {x:Nat} (hx:x < n.toNat):Pf (nmgP b w x) n.toNat:=nm_pf h.B.hn (h.nm hx)
theorem frm_iso (h:Dz n b w) {x:Nat} (hx:x < n.toNat):Iso n b w (frB b w n x) (frW b w n x) (nmgP b w x) :=
 ⟨nmg_pf h hx,fun y hy=>rnT_fp (nmg_pf h hx) hy,fun y hy=>rnT_fp (nmg_pf h hx) hy⟩
theorem rn_lt {p c:List Int} (hn:1 <= n /\ n <= 16) (hp:Pf p n.toNat) (hc:Pf c n.toNat) (lp:lo16 p) (lc:lo16 c):lo16 (rnT p c n.toNat) /\ ltP (rnT p c n.toNat) n /\ Pf (rnT p c n.toNat) n.toNat /\ isPm (rnT p c n.toNat) n:=by
 have l:=rnT_lo lp lc n.toNat (by omega)
 have hlt:∀ y,y < n.toNat -> fp (rnT p c n.toNat) y < n.toNat:=fun y hy=>by
  obtain ⟨i,hi,rfl⟩:=hp.onto hy
  rw [rnT_fp hp hi]; exact hp.lt _ (hc.lt i hi)
 have pf:Pf (rnT p c n.toNat) n.toNat:=by
  refine ⟨hlt,fun y z hy hz e=>?_,by omega⟩
  obtain ⟨i,hi,rfl⟩:=hp.onto hy
  obtain ⟨j,hj,rfl⟩:=hp.onto hz
  rw [rnT_fp hp hi,rnT_fp hp hj] at e
  rw [hc.inj i j hi hj (hp.inj _ _ (hc.lt i hi) (hc.lt j hj) e)]
 refine ⟨l,fun y hy=>?_,pf,hn,fun j hj=>⟨fun hjn=>⟨?_,fun k hk e=>?_⟩,fun hjn=>?_⟩⟩
 ·have:=hlt y (by omega)
  rw [fp_nn l y]; omega
 ·have:=hlt j (by omega)
  rw [fp_nn l j]; omega
 ·rw [fp_nn l k,fp_nn l j] at e
  have:=pf.inj k j (by omega) (by omega) (by omega)
  omega
 ·exact rnT_out _ fun i hi e=>by have:=hp.lt i hi; omega
theorem nmg_lo (h:Dz n b w) {x:Nat} (hx:x < n.toNat):lo16 (nmgP b w x):=nmgP_lo h.B.lo h.W.lo (by have:=h.B.hn; omega)
theorem lo16.ok {p:List Int} (h:lo16 p):okP p:=⟨h.1,fun i hi=>by have:=h.2 i hi; omega⟩
theorem frm_dz (h:Dz n b w) {x:Nat} (hx:x < n.toNat):Dz n (frB b w n x) (frW b w n x):=by
 obtain ⟨a1,a2,a3,a4⟩:=rn_lt h.B.hn (nmg_pf h hx) h.B.pf (nmg_lo h hx) h.B.lo
 obtain ⟨c1,c2,c3,c4⟩:=rn_lt h.B.hn (nmg_pf h hx) h.W.pf (nmg_lo h hx) h.W.lo
 exact ((frm_iso h hx).dz h ⟨a1,a2,h.B.hn,a3⟩ ⟨c1,c2,h.B.hn,c3⟩ a4 c4).dz a1.ok c1.ok
theorem nm_sim (h:Dz n b w) (h':Dz n b' w') (i:Iso n b w b' w' σ) {x:Nat} (hx:x < n.toNat):nmdL b' w' (fp σ x:Nat) = (nmdL b w x).map fun y=>(fp σ y.toNat:Int):=by
 have hl:=i.pf.lt x hx
 exact (SrSim.run h.B.hn h.B h.W h'.B.lo h'.W.lo i 17 0 (s:=srX x) (s':=srX (fp σ x:Nat)) ⟨srX_Sx h.B.hn hx,srX_Sx h.B.hn hl,by simp [srX]⟩).e
theorem nmg_sim (h:Dz n b w) (h':Dz n b' w') (i:Iso n b w b' w' σ) {x y:Nat} (hx:x < n.toNat) (hy:y < n.toNat):fp (nmgP b' w' (fp σ x:Nat)) (fp σ y) = fp (nmgP b w x) y:=by
 have hn:=h.B.hn
 have m:=h.nm hx
 have m':=h'.nm (i.pf.lt x hx)
 obtain ⟨j,hj,rfl⟩:=nm_ex m hy
 have e1:=nmx_at hn.2 m hj
 have e2:=nmx_at hn.2 m' hj
 have e3:(gi (nmdL b' w' (fp σ x:Nat)) j).toNat = fp σ (gi (nmdL b w x) j).toNat:=by
  rw [nm_sim h h' i hx,gi_of (by rw [List.length_map,m.len]; exact hj),List.getElem_map,<-gi_of (by rw [m.len]; exact hj),Int.toNat_natCast]
 rw [e3] at e2
 unfold nmgP
 rw [e1,e2]
theorem rn_eq {p c p' c':List Int} (hn:1 <= n /\ n <= 16) (hp:Pf p n.toNat) (hp':Pf p' n.toNat) (hσ:Pf σ n.toNat) (lp:lo16 p) (lc:lo16 c) (lp':lo16 p') (lc':lo16 c')
  (h:∀ y,y < n.toNat -> fp p' (fp σ y) = fp p y) (hc:∀ y,y < n.toNat -> fp c y < n.toNat /\ fp c' (fp σ y) = fp σ (fp c y)):rnT p' c' n.toNat = rnT p c n.toNat:=by
 refine gi_ext16 (rnT_len _) (rnT_len _) fun z hz=>?_
 by_cases hzn:z < n.toNat
 ·obtain ⟨y,hy,rfl⟩:=hp.onto hzn
  have e1:=rnT_fp (c:=c) hp hy
  have e2:=rnT_fp (c:=c') hp' (hσ.lt y hy)
  rw [h y hy,(hc y hy).2,h _ (hc y hy).1] at e2
  rw [fp_nn (rnT_lo lp' lc' n.toNat (by omega)),fp_nn (rnT_lo lp lc n.toNat (by omega)),e1,e2]
 ·rw [rnT_out (p:=p') _ fun i hi e=>by have:=hp'.lt i hi; omega,rnT_out (p:=p) _ fun i hi e=>by have:=hp.lt i hi; omega]
theorem frm_sim (h:Dz n b w) (h':Dz n b' w') (i:Iso n b w b' w' σ) {x:Nat} (hx:x < n.toNat):frB b' w' n (fp σ x:Nat) = frB b w n x /\ frW b' w' n (fp σ x:Nat) = frW b w n x:=by
 have hn:=h.B.hn
 have hl:=i.pf.lt x hx
 exact ⟨rn_eq hn (nmg_pf h hx) (nmg_pf h' hl) i.pf (nmg_lo h hx) h.B.lo (nmg_lo h' hl) h'.B.lo (fun y hy=>nmg_sim h h' i hx hy) fun y hy=>⟨h.B.pf.lt y hy,i.eb y hy⟩,
  rn_eq hn (nmg_pf h hx) (nmg_pf h' hl) i.pf (nmg_lo h hx) h.W.lo (nmg_lo h' hl) h'.W.lo (fun y hy=>nmg_sim h h' i hx hy) fun y hy=>⟨h.W.pf.lt y hy,i.ew y hy⟩⟩
def Alk (n:Int) (b w b' w':List Int):Prop:=∃ σ,Iso n b w b' w' σ
theorem Alk.symm (h:Dz n b w):Alk n b w b' w' -> Alk n b' w' b w:=fun ⟨σ,i⟩=>⟨_,i.symm h.B.hn h.B.pf h.W.pf⟩
theorem Alk.trans {b'' w'':List Int} (h:Dz n b w):Alk n b w b' w' -> Alk n b' w' b'' w'' -> Alk n b w b'' w'':=fun ⟨σ,i⟩ ⟨τ,j⟩=>⟨_,i.trans h.B.hn j h.B.pf h.W.pf⟩
theorem alk_of (h:Dz n b w) (h':Dz n b' w') {x y:Nat} (hx:x < n.toNat) (hy:y < n.toNat) (e1:frB b' w' n y = frB b w n x) (e2:frW b' w' n y = frW b w n x):Alk n b w b' w':=by
 have i:=frm_iso h hx
 have j:=frm_iso h' hy
 rw [e1,e2] at j
 exact Alk.trans h ⟨_,i⟩ (Alk.symm h' ⟨_,j⟩)
theorem alk_frm (h:Dz n b w) (h':Dz n b' w') (i:Alk n b w b' w') {x:Nat} (hx:x < n.toNat):∃ y,y < n.toNat /\ frB b' w' n y = frB b w n x /\ frW b' w' n y = frW b w n x:=by
 obtain ⟨σ,i⟩:=i
 have:=frm_sim h h' i hx
 exact ⟨_,i.pf.lt x hx,this.1,this.2⟩
def ltL:List Int -> List Int -> Bool
 | a :: l,c :: m=>decide (a < c) || (decide (a = c) && ltL l m)
 | _,_=>false
theorem ltL_tri:∀ {l m:List Int},l.length = m.length -> ltL l m = false -> ltL m l = false -> l = m
 | [],[],_,_,_=>rfl
 | a :: l,c :: m,hl,h1,h2=>by
  simp only [ltL,Bool.or_eq_false_iff,decide_eq_false_iff_not,Bool.and_eq_false_iff] at h1 h2
  have e:a = c:=by omega
  subst e
  have:=ltL_tri (l:=l) (m:=m) (by simpa using hl) (by rcases h1.2 with q | q; exact absurd rfl q; exact q) (by rcases h2.2 with q | q; exact absurd rfl q; exact q)
  rw [this]
 | [],_ :: _,hl,_,_=>by simp at hl
 | _ :: _,[],hl,_,_=>by simp at hl
theorem ltL_irr:∀ {l:List Int},ltL l l = false
 | []=>rfl
 | a :: l=>by simp [ltL,ltL_irr (l:=l)]
theorem ltL_trans:∀ {l m k:List Int},ltL l m = true -> ltL m k = true -> ltL l k = true
 | [],_,_,h,_=>by simp [ltL] at h
 | _ :: _,[],_,h,_=>by simp [ltL] at h
 | _ :: _,_ :: _,[],_,h=>by simp [ltL] at h
 | a :: l,c :: m,d :: k,h1,h2=>by
  simp only [ltL,Bool.or_eq_true,decide_eq_true_eq,Bool.and_eq_true] at h1 h2 ⊢
  rcases h1 with h1 | ⟨h1,h1'⟩ <;> rcases h2 with h2 | ⟨h2,h2'⟩
  ·exact .inl (by omega)
  ·exact .inl (by omega)
  ·exact .inl (by omega)
  ·exact .inr ⟨by omega,ltL_trans h1' h2'⟩
abbrev Fm:=List Int × List Int
def ltD (f g:Fm):Bool:=ltL f.1 g.1 || (decide (f.1 = g.1) && ltL f.2 g.2)
theorem ltD_tri {f g:Fm} (h1:f.1.length = g.1.length) (h2:f.2.length = g.2.length) (a:ltD f g = false) (c:ltD g f = false):f = g:=by
 simp only [ltD,Bool.or_eq_false_iff,Bool.and_eq_false_iff,decide_eq_false_iff_not] at a c
 have e:=ltL_tri h1 a.1 c.1
 have e2:=ltL_tri h2 (by rcases a.2 with q | q; exact absurd e q; exact q) (by rcases c.2 with q | q; exact absurd e.symm q; exact q)
 exact Prod.ext e e2
theorem ltD_irr {f:Fm}:ltD f f = false:=by simp [ltD,ltL_irr]
theorem ltD_trans {f g k:Fm} (a:ltD f g = true) (c:ltD g k = true):ltD f k = true:=by
 simp only [ltD,Bool.or_eq_true,Bool.and_eq_true,decide_eq_true_eq] at a c ⊢
 rcases a with a | ⟨a,a'⟩ <;> rcases c with c | ⟨c,c'⟩
 ·exact .inl (ltL_trans a c)
 ·rw [<-c]; exact .inl a
 ·rw [a]; exact .inl c
 ·exact .inr ⟨a.trans c,ltL_trans a' c'⟩
def frm (b w:List Int) (n:Int) (x:Int):Fm:=(frB b w n x,frW b w n x)
def cnF (b w:List Int) (n:Int):Nat -> Fm
 | 0=>frm b w n 0
 | s + 1=>if ltD (frm b w n ((s + 1:Nat):Int)) (cnF b w n s) = true then frm b w n ((s + 1:Nat):Int) else cnF b w n s
theorem frm_len {x:Int}:(frm b w n x).1.length = 16 /\ (frm b w n x).2.length = 16:=⟨rnT_len _,rnT_len _⟩
theorem cnF_ex:∀ s,∃ x:Nat,x <= s /\ cnF b w n s = frm b w n x
 | 0=>⟨0,Nat.le_refl _,rfl⟩
 | s + 1=>by
  simp only [cnF]
  split
  ·exact ⟨s + 1,Nat.le_refl _,rfl⟩
  ·obtain ⟨x,hx,e⟩:=cnF_ex s
   exact ⟨x,by omega,e⟩
theorem cnF_min:∀ s,∀ x:Nat,x <= s -> ltD (frm b w n x) (cnF b w n s) = false
 | 0,x,hx=>by
  obtain rfl:x = 0:=by omega
  exact ltD_irr
 | s + 1,x,hx=>by
  simp only [cnF]
  split
  ·rename_i hlt
   by_cases e:x = s + 1
   ·subst e; exact ltD_irr
   ·cases hc:ltD (frm b w n x) (frm b w n ((s + 1:Nat):Int)) with
    | false=>rfl
    | true=>exact absurd (ltD_trans hc hlt) (by rw [cnF_min s x (by omega)]; simp)
  ·rename_i hlt
   by_cases e:x = s + 1
   ·subst e; simpa using hlt
   ·exact cnF_min s x (by omega)
def canD (b w:List Int) (n:Int):Fm:=cnF b w n (n.toNat - 1)
theorem canD_ex (h:Dz n b w):∃ x:Nat,x < n.toNat /\ canD b w n = frm b w n x:=by
 obtain ⟨x,hx,e⟩:=cnF_ex (b:=b) (w:=w) (n:=n) (n.toNat - 1)
 have:=h.B.hn
 exact ⟨x,by omega,e⟩
theorem can_alk (h:Dz n b w) (h':Dz n b' w'):canD b w n = canD b' w' n ↔ Alk n b w b' w':=by
 obtain ⟨x,hx,e⟩:=canD_ex h
 obtain ⟨y,hy,e'⟩:=canD_ex h'
 constructor
 ·intro q
  rw [e,e'] at q
  simp only [frm,Prod.mk.injEq] at q
  exact alk_of h h' hx hy q.1.symm q.2.symm
 ·intro i
  obtain ⟨x',hx',f1,f2⟩:=alk_frm h h' i hx
  obtain ⟨y',hy',g1,g2⟩:=alk_frm h' h (i.symm h) hy
  refine ltD_tri ?_ ?_ ?_ ?_
  ·rw [e,e',frm_len.1,frm_len.1]
  ·rw [e,e',frm_len.2,frm_len.2]
  ·rw [e,show frm b w n x = frm b' w' n x' from Prod.ext f1.symm f2.symm]
   exact cnF_min _ x' (by omega)
  ·rw [e',show frm b' w' n y = frm b w n y' from Prod.ext g1.symm g2.symm]
   exact cnF_min _ y' (by omega)
end
end
section
set_option maxHeartbeats 4000000
end
section
set_option maxHeartbeats 1000000
section
variable {b w p q:List Int} {n:Int} {N:Nat}
theorem putL_no {f:Nat -> Nat × Int} {y:Nat}:∀ k:Nat,(∀ i,i < k -> (f i).1 ≠ y) -> gi (putL f k) y = 0
 | 0,_=>by simp only [putL]; rw [gi_rep]; split <;> rfl
 | k + 1,h=>by simp only [putL]; rw [gi_set,if_neg fun q=>h k (by omega) q.1,putL_no k fun i hi=>h i (by omega)]
theorem isPm_of (hn:1 <= n /\ n <= 16) (lo:lo16 p) (pf:Pf p n.toNat) (out:∀ j:Nat,n <= j -> gi p j = 0):isPm p n:=by
 refine ⟨hn,fun j hj=>⟨fun hjn=>⟨?_,fun k hk e=>?_⟩,fun hjn=>out j hjn⟩⟩
 ·have:=pf.lt j (by omega)
  rw [fp_nn lo j]; omega
 ·rw [fp_nn lo k,fp_nn lo j] at e
  have:=pf.inj k j (by omega) (by omega) (by omega)
  omega
theorem pd_of (hn:1 <= n /\ n <= 16) (lo:lo16 p) (pf:Pf p n.toNat):Pd p n:=⟨lo,fun x hx=>by
 have:=pf.lt x (by omega)
 rw [fp_nn lo x]; omega,hn,pf⟩
theorem back_out (h:Pf p n.toNat) {j:Nat} (hj:n <= j):gi (backP p n) j = 0:=putL_no _ fun i hi=>by
 have:=h.lt i hi
 simp only [backF]; unfold fp at this; omega
theorem back_pm (hn:1 <= n /\ n <= 16) (h:Pf p n.toNat):isPm (backP p n) n:=isPm_of hn (backP_lo hn) (back_pf hn h) fun j hj=>back_out h hj
theorem back_pd (hn:1 <= n /\ n <= 16) (h:Pf p n.toNat):Pd (backP p n) n:=pd_of hn (backP_lo hn) (back_pf hn h)
theorem pm_out (h:isPm p n) (hl:p.length = 16) {j:Nat} (hj:n <= j):gi p j = 0:=by
 by_cases hj16:j < 16
 ·exact (h.2 j hj16).2 hj
 ·exact gi_over (by omega)
theorem pm_ext (lp:lo16 p) (lq:lo16 q) (op:∀ j:Nat,n <= j -> gi p j = 0) (oq:∀ j:Nat,n <= j -> gi q j = 0) (h:∀ x,x < n.toNat -> fp p x = fp q x):p = q:=gi_ext16 lp.1 lq.1 fun i hi=>by
 by_cases hin:i < n.toNat
 ·rw [fp_nn lp,fp_nn lq,h i hin]
 ·rw [op i (by omega),oq i (by omega)]
theorem lens_nC (h:(lens p n).Perm (lens q n)):(cyc p n).length = (cyc q n).length:=by
 have:=h.length_eq
 rwa [lens_len,lens_len] at this
theorem it_eqf (hp:Pf p N) (e:∀ x,x < N -> fp p x = fp q x) {x:Nat} (hx:x < N):∀ k,it p k x = it q k x
 | 0=>rfl
 | k + 1=>by simp only [it]; rw [<-it_eqf hp e hx k,e _ (it_lt hp hx k)]
theorem lens_same (hp:Pd p n) (hq:Pd q n) (e:∀ x,x < n.toNat -> fp p x = fp q x):(lens p n).Perm (lens q n):=by
 refine lens_perm hp hq (fun x=>x) (fun g=>rfl) fun x hx=>?_
 have h1:=hp.per hx
 refine (hq.per hx).same ⟨h1.pos,?_,fun j h0 hj q=>?_⟩
 ·rw [<-it_eqf hp.pf e hx]; exact h1.ret
 ·rw [<-it_eqf hp.pf e hx] at q; exact h1.min j h0 hj q
theorem dz_of (hp:Pd p n) (hq:Pd q n) (pp:isPm p n) (pq:isPm q n) (hall:∀ S:Nat -> Prop,S 0 -> (∀ x,x < n.toNat -> S x -> S (fp p x)) -> (∀ x,x < n.toNat -> S x -> S (fp q x)) -> ∀ x,x < n.toNat -> S x):Dz n p q :=
 isD.dz ⟨pp,pq,cnt_of hp.hn hp.lt hq.lt hall⟩ hp.lo.ok hq.lo.ok
theorem Dz.fpm (h:Dz n b w):isPm (faceP b w n) n:=back_pm h.B.hn (then_pf h.B.hn h.B.pf h.W.pf)
theorem Dz.swap (h:Dz n b w):Dz n w b:=dz_of h.W h.B h.D.pw h.D.pb fun S h0 hW hB=>h.alls h0 hB hW
theorem Dz.wf (h:Dz n b w):Dz n w (faceP b w n):=dz_of h.W h.F h.D.pw h.fpm fun S h0 hW hF=>h.alls h0 (fun x hx hs=>by
 have hbx:=h.B.pf.lt x hx
 refine cl_back (then_pf h.B.hn h.W.pf h.F.pf) (fun y hy s=>?_) hbx ?_
 ·rw [then_fp h.B.hn hy]; exact hF _ (h.W.pf.lt y hy) (hW y hy s)
 ·rw [then_fp h.B.hn hbx,h.face hx]; exact hs) hW
theorem Dz.bfw (h:Dz n b w) {x:Nat} (hx:x < n.toNat):fp b (fp (faceP b w n) (fp w x)) = x:=by
 obtain ⟨y,hy,rfl⟩:=h.B.pf.onto hx
 rw [h.face hy]
theorem Dz.fb (h:Dz n b w):Dz n (faceP b w n) b:=dz_of h.F h.B h.fpm h.D.pb fun S h0 hF hB=>h.alls h0 hB (fun x hx hs=>by
 have hwx:=h.W.pf.lt x hx
 refine cl_back (then_pf h.B.hn h.F.pf h.B.pf) (fun y hy s=>?_) hwx ?_
 ·rw [then_fp h.B.hn hy]; exact hB _ (h.F.pf.lt y hy) (hF y hy s)
 ·rw [then_fp h.B.hn hwx,h.bfw hx]; exact hs)
theorem Dz.lf_swap (h:Dz n b w):(lens (faceP b w n) n).Perm (lens (faceP w b n) n):=lens_conj h.F h.swap.F h.B.pf fun x hx=>by
 have hf:=h.F.pf.lt x hx
 have:=h.swap.face (h.B.pf.lt _ hf)
 rw [h.face' hx] at this
 exact this
theorem Dz.lf_wf (h:Dz n b w):(lens (faceP w (faceP b w n) n) n).Perm (lens b n):=lens_same h.wf.F h.B fun x hx=>by
 have:=h.wf.face (h.B.pf.lt x hx)
 rw [h.face hx] at this
 exact this
theorem Dz.lf_fb (h:Dz n b w):(lens (faceP (faceP b w n) b n) n).Perm (lens w n):=lens_same h.fb.F h.W fun x hx=>by
 have:=h.fb.face (h.W.pf.lt x hx)
 rw [h.bfw hx] at this
 exact this
def ex1 (b w:List Int) (n k:Int):List Int:=if k = 0 then b else if k = 1 then w else if k = 2 then w else if k = 3 then faceP b w n else if k = 4 then b else faceP b w n
def ex2 (b w:List Int) (n k:Int):List Int:=if k = 0 then w else if k = 1 then b else if k = 2 then faceP b w n else if k = 3 then b else if k = 4 then faceP b w n else w
theorem Dz.ex (h:Dz n b w) {k:Int} (hk:0 <= k /\ k <= 5):Dz n (ex1 b w n k) (ex2 b w n k) /\ eulN n (ex1 b w n k) (ex2 b w n k) = eulN n b w:=by
 have h1:=lens_nC h.lf_swap
 have h2:=lens_nC h.lf_wf
 have h3:=lens_nC h.lf_fb
 have h4:=lens_nC h.fb.lf_swap
 have h5:=lens_nC h.wf.lf_swap
 have:k = 0 ∨ k = 1 ∨ k = 2 ∨ k = 3 ∨ k = 4 ∨ k = 5:=by omega
 unfold eulN
 rcases this with rfl | rfl | rfl | rfl | rfl | rfl
 ·exact ⟨h,rfl⟩
 ·exact ⟨h.swap,by simp only [ex1,ex2]; simp; omega⟩
 ·exact ⟨h.wf,by simp only [ex1,ex2]; simp; omega⟩
 ·exact ⟨h.fb,by simp only [ex1,ex2]; simp; omega⟩
 ·exact ⟨h.fb.swap,by simp only [ex1,ex2]; simp; omega⟩
 ·exact ⟨h.wf.swap,by simp only [ex1,ex2]; simp; omega⟩
theorem back_lens (h:Pd p n):(lens (backP p n) n).Perm (lens p n):=lens_back (back_pd h.hn h.pf) h (fun x hx=>back_fp' h.pf hx) fun x hx=>back_fp h.pf hx
def sbB (b w:List Int) (N:Nat):Nat -> List Int
 | 0=>List.replicate 16 0
 | s + 1=>((sbB b w N s).set s (gi b s)).set (N + s) (N + gi w s)
def sbW (N:Nat):Nat -> List Int
 | 0=>List.replicate 16 0
 | s + 1=>((sbW N s).set s (N + s)).set (N + s) s
theorem sbB_len:∀ s,(sbB b w N s).length = 16
 | 0=>by simp [sbB]
 | s + 1=>by simp [sbB,sbB_len s]
theorem sbW_len:∀ s,(sbW N s).length = 16
 | 0=>by simp [sbW]
 | s + 1=>by simp [sbW,sbW_len s]
theorem sbB_at (hN:N <= 8) {y:Nat}:∀ s,s <= N -> gi (sbB b w N s) y = if y < s then gi b y else if N <= y /\ y < N + s then N + gi w (y - N) else 0
 | 0,_=>by
  simp only [sbB]
  have e:gi (List.replicate 16 (0:Int)) y = 0:=by rw [gi_rep]; split <;> rfl
  rw [e,if_neg (Nat.not_lt_zero y),if_neg (by omega)]
 | s + 1,hs=>by
  simp only [sbB]
  rw [gi_set,gi_set,List.length_set,sbB_len,sbB_at hN s (by omega)]
  by_cases e:N + s = y
  ·subst e
   rw [if_pos ⟨rfl,by omega⟩,if_neg (by omega),if_pos (by omega)]; simp
  ·rw [if_neg fun q=>e q.1]
   by_cases e2:s = y
   ·subst e2; rw [if_pos ⟨rfl,by omega⟩,if_pos (by omega)]
   ·rw [if_neg fun q=>e2 q.1]
    by_cases e3:y < s
    ·rw [if_pos e3,if_pos (by omega)]
    ·rw [if_neg e3,if_neg (show ¬ y < s + 1 by omega)]
     by_cases e4:N <= y /\ y < N + s
     ·rw [if_pos e4,if_pos (by omega)]
     ·rw [if_neg e4,if_neg (by omega)]
theorem sbW_at (hN:N <= 8) {y:Nat}:∀ s,s <= N -> gi (sbW N s) y = if y < s then ((N + y:Nat):Int) else if N <= y /\ y < N + s then ((y - N:Nat):Int) else 0
 | 0,_=>by
  simp only [sbW]
  have e:gi (List.replicate 16 (0:Int)) y = 0:=by rw [gi_rep]; split <;> rfl
  rw [e,if_neg (Nat.not_lt_zero y),if_neg (by omega)]
 | s + 1,hs=>by
  simp only [sbW]
  rw [gi_set,gi_set,List.length_set,sbW_len,sbW_at hN s (by omega)]
  by_cases e:N + s = y
  ·subst e
   rw [if_pos ⟨rfl,by omega⟩,if_neg (by omega),if_pos (by omega)]; simp
  ·rw [if_neg fun q=>e q.1]
   by_cases e2:s = y
   ·subst e2; rw [if_pos ⟨rfl,by omega⟩,if_pos (by omega)]; simp
   ·rw [if_neg fun q=>e2 q.1]
    by_cases e3:y < s
    ·rw [if_pos e3,if_pos (by omega)]
    ·rw [if_neg e3,if_neg (show ¬ y < s + 1 by omega)]
     by_cases e4:N <= y /\ y < N + s
     ·rw [if_pos e4,if_pos (by omega)]
     ·rw [if_neg e4,if_neg (by omega)]
def suB (b w:List Int) (n:Int):List Int:=sbB b w n.toNat n.toNat
def suW (n:Int):List Int:=sbW n.toNat n.toNat
structure Su (n:Int) (b w:List Int):Prop where
 h:Dz n b w
 n8:n <= 8
theorem Su.b0 (S:Su n b w) {x:Nat} (hx:x < n.toNat):fp (suB b w n) x = fp b x:=by
 unfold fp suB
 rw [sbB_at (by have:=S.n8; omega) _ (Nat.le_refl _),if_pos hx]
theorem Su.b1 (S:Su n b w) {x:Nat} (hx:x < n.toNat):fp (suB b w n) (n.toNat + x) = n.toNat + fp w x:=by
 have:=S.h.W.nn x
 unfold fp suB
 rw [sbB_at (by have:=S.n8; omega) _ (Nat.le_refl _),if_neg (by omega),if_pos (by omega),Nat.add_sub_cancel_left]
 omega
theorem Su.w0 (S:Su n b w) {x:Nat} (hx:x < n.toNat):fp (suW n) x = n.toNat + x:=by
 unfold fp suW
 rw [sbW_at (by have:=S.n8; omega) _ (Nat.le_refl _),if_pos hx]; omega
theorem Su.w1 (S:Su n b w) {x:Nat} (hx:x < n.toNat):fp (suW n) (n.toNat + x) = x:=by
 unfold fp suW
 rw [sbW_at (by have:=S.n8; omega) _ (Nat.le_refl _),if_neg (by omega),if_pos (by omega),Nat.add_sub_cancel_left]; simp
theorem Su.nn (S:Su n b w):(2 * n).toNat = n.toNat + n.toNat /\ n.toNat <= 8 /\ 1 <= n.toNat:=by have:=S.h.B.hn; have:=S.n8; omega
theorem Su.cases (S:Su n b w) {x:Nat} (hx:x < (2 * n).toNat):x < n.toNat ∨ ∃ y,y < n.toNat /\ x = n.toNat + y:=by
 have:=S.nn
 by_cases q:x < n.toNat
 ·exact .inl q
 ·exact .inr ⟨x - n.toNat,by omega,by omega⟩
theorem Su.B (S:Su n b w):Pd (suB b w n) (2 * n) /\ isPm (suB b w n) (2 * n):=by
 obtain ⟨e,h8,h1⟩:=S.nn
 have hn:=S.h.B.hn
 have n8:=S.n8
 have lo:lo16 (suB b w n):=⟨sbB_len _,fun i hi=>by
  unfold suB
  rw [sbB_at h8 _ (Nat.le_refl _)]
  split
  ·exact S.h.B.lo.2 i hi
  ·split
   ·have:=S.h.W.lt (i - n.toNat) (by omega); omega
   ·omega⟩
 have pf:Pf (suB b w n) (2 * n).toNat:=by
  refine ⟨fun x hx=>?_,fun x y hx hy q=>?_,by omega⟩
  ·rcases S.cases hx with q | ⟨y,hy,rfl⟩
   ·rw [S.b0 q]; have:=S.h.B.pf.lt x q; omega
   ·rw [S.b1 hy]; have:=S.h.W.pf.lt y hy; omega
  ·rcases S.cases hx with hx | ⟨x',hx',rfl⟩ <;> rcases S.cases hy with hy | ⟨y',hy',rfl⟩
   ·rw [S.b0 hx,S.b0 hy] at q; exact S.h.B.pf.inj x y hx hy q
   ·rw [S.b0 hx,S.b1 hy'] at q; have:=S.h.B.pf.lt x hx; omega
   ·rw [S.b1 hx',S.b0 hy] at q; have:=S.h.B.pf.lt y hy; omega
   ·rw [S.b1 hx',S.b1 hy'] at q; rw [S.h.W.pf.inj x' y' hx' hy' (by omega)]
 refine ⟨pd_of (by omega) lo pf,isPm_of (by omega) lo pf fun j hj=>?_⟩
 unfold suB
 rw [sbB_at h8 _ (Nat.le_refl _),if_neg (by omega),if_neg (by omega)]
theorem Su.W (S:Su n b w):Pd (suW n) (2 * n) /\ isPm (suW n) (2 * n):=by
 obtain ⟨e,h8,h1⟩:=S.nn
 have hn:=S.h.B.hn
 have n8:=S.n8
 have lo:lo16 (suW n):=⟨sbW_len _,fun i hi=>by
  unfold suW
  rw [sbW_at h8 _ (Nat.le_refl _)]
  split
  ·omega
  ·split <;> omega⟩
 have pf:Pf (suW n) (2 * n).toNat:=by
  refine ⟨fun x hx=>?_,fun x y hx hy q=>?_,by omega⟩
  ·rcases S.cases hx with q | ⟨y,hy,rfl⟩
   ·rw [S.w0 q]; omega
   ·rw [S.w1 hy]; omega
  ·rcases S.cases hx with hx | ⟨x',hx',rfl⟩ <;> rcases S.cases hy with hy | ⟨y',hy',rfl⟩
   ·rw [S.w0 hx,S.w0 hy] at q; omega
   ·rw [S.w0 hx,S.w1 hy'] at q; omega
   ·rw [S.w1 hx',S.w0 hy] at q; omega
   ·rw [S.w1 hx',S.w1 hy'] at q; omega
 refine ⟨pd_of (by omega) lo pf,isPm_of (by omega) lo pf fun j hj=>?_⟩
 unfold suW
 rw [sbW_at h8 _ (Nat.le_refl _),if_neg (by omega),if_neg (by omega)]
theorem Su.dz (S:Su n b w):Dz (2 * n) (suB b w n) (suW n):=dz_of S.B.1 S.W.1 S.B.2 S.W.2 fun Q h0 hB hW=>by
 obtain ⟨e,h8,h1⟩:=S.nn
 have key:=S.h.alls (S:=fun y=>Q y /\ Q (n.toNat + y)) ⟨h0,by have:=hW 0 (by omega) h0; rw [S.w0 (by omega)] at this; exact this⟩ (fun x hx hs=>by
  have h2:=hB x (by omega) hs.1
  rw [S.b0 hx] at h2
  have hl:=S.h.B.pf.lt x hx
  have h3:=hW _ (by omega) h2
  rw [S.w0 hl] at h3
  exact ⟨h2,h3⟩) (fun x hx hs=>by
  have h2:=hB _ (by omega) hs.2
  rw [S.b1 hx] at h2
  have hl:=S.h.W.pf.lt x hx
  have h3:=hW _ (by omega) h2
  rw [S.w1 hl] at h3
  exact ⟨h3,h2⟩)
 intro x hx
 rcases S.cases hx with q | ⟨y,hy,rfl⟩
 ·exact (key x q).1
 ·exact (key y hy).2
theorem smE_app {f:Nat -> Int} {a:Nat}:∀ k,smE (a + k) f = smE a f + smE k fun x=>f (a + x)
 | 0=>by simp [smE]
 | k + 1=>by rw [<-Nat.add_assoc]; simp only [smE]; rw [smE_app k]; omega
theorem smE_const {c:Int}:∀ k,smE k (fun _=>c) = k * c
 | 0=>by simp [smE]
 | k + 1=>by simp only [smE]; rw [smE_const k]; grind
theorem lens_of (hp:Pd p n) {M:List Int} (hM:∀ a ∈ M,1 <= a) (h:∀ c:Nat,1 <= c -> (c:Int) * ((M.count (c:Int):Nat):Int) = smE n.toNat fun x=>if lenW p n x = c then 1 else 0):(lens p n).Perm M:=by
 refine List.perm_iff_count.2 fun c=>?_
 by_cases hc:1 <= c
 ·obtain ⟨k,rfl⟩:∃ k:Nat,c = k:=⟨c.toNat,by omega⟩
  have e1:=hp.lens_cnt k
  rw [<-h k (by omega)] at e1
  have:=Int.eq_of_mul_eq_mul_left (by omega) e1
  omega
 ·rw [List.count_eq_zero_of_not_mem fun h=>hc (hp.len_pos h),List.count_eq_zero_of_not_mem fun h=>hc (hM _ h)]
theorem Su.lenB (S:Su n b w):(cyc (suB b w n) (2 * n)).length = (cyc b n).length + (cyc w n).length:=by
 obtain ⟨e,h8,h1⟩:=S.nn
 have hB:=S.B.1
 have i0:∀ x,x < n.toNat -> ∀ k,it (suB b w n) k x = it b k x:=fun x hx k=>by
  induction k with
  | zero=>rfl
  | succ k ih=>simp only [it]; rw [ih,S.b0 (it_lt S.h.B.pf hx k)]
 have i1:∀ x,x < n.toNat -> ∀ k,it (suB b w n) k (n.toNat + x) = n.toNat + it w k x:=fun x hx k=>by
  induction k with
  | zero=>rfl
  | succ k ih=>simp only [it]; rw [ih,S.b1 (it_lt S.h.W.pf hx k)]
 have l0:∀ x,x < n.toNat -> lenW (suB b w n) (2 * n) x = lenW b n x:=fun x hx=>by
  have h2:=S.h.B.per hx
  exact (hB.per (x:=x) (by omega)).same ⟨h2.pos,by rw [i0 x hx]; exact h2.ret,fun j a c q=>h2.min j a c (by rw [i0 x hx] at q; exact q)⟩
 have l1:∀ x,x < n.toNat -> lenW (suB b w n) (2 * n) (n.toNat + x) = lenW w n x:=fun x hx=>by
  have h2:=S.h.W.per hx
  exact (hB.per (x:=n.toNat + x) (by omega)).same ⟨h2.pos,by rw [i1 x hx,h2.ret],fun j a c q=>h2.min j a c (by rw [i1 x hx] at q; omega)⟩
 have:=(lens_of hB (M:=lens b n ++ lens w n) (fun a ha=>by
  rcases List.mem_append.1 ha with ha | ha
  ·exact S.h.B.len_pos ha
  ·exact S.h.W.len_pos ha) fun c hc=>by
  rw [e,smE_app,List.count_append,Int.natCast_add,Int.mul_add,S.h.B.lens_cnt,S.h.W.lens_cnt]
  congr 1
  ·exact smE_congr _ fun x hx=>by rw [l0 x hx]
  ·exact smE_congr _ fun x hx=>by rw [l1 x hx]).length_eq
 rw [List.length_append,lens_len,lens_len,lens_len] at this
 exact this
theorem Su.pairs (S:Su n b w):∀ x,x < (2 * n).toNat -> fp (suW n) x ≠ x /\ fp (suW n) (fp (suW n) x) = x:=fun x hx=>by
 obtain ⟨e,h8,h1⟩:=S.nn
 rcases S.cases hx with q | ⟨y,hy,rfl⟩
 ·rw [S.w0 q,S.w1 q]; omega
 ·rw [S.w1 hy,S.w0 hy]; omega
theorem Su.lenW (S:Su n b w):(cyc (suW n) (2 * n)).length = n.toNat:=by
 obtain ⟨e,h8,h1⟩:=S.nn
 have hW:=S.W.1
 have l0:∀ x,x < (2 * n).toNat -> Sep.lenW (suW n) (2 * n) x = 2:=fun x hx=>by
  have h2:=S.pairs x hx
  exact (hW.per hx).same ⟨by omega,h2.2,fun j a c q=>h2.1 (by rw [show j = 1 by omega] at q; exact q)⟩
 have:=(lens_of hW (M:=List.replicate n.toNat 2) (fun a ha=>by rw [List.eq_of_mem_replicate ha]; omega) fun c hc=>by
  rw [smE_congr (g:=fun _=>if 2 = c then (1:Int) else 0) _ fun x hx=>by rw [l0 x hx],smE_const,List.count_replicate,e]
  by_cases q:c = 2
  ·subst q; simp; omega
  ·rw [if_neg (by simp; omega),if_neg (by omega)]; simp).length_eq
 rw [lens_len,List.length_replicate] at this
 exact this
theorem Su.lenF (S:Su n b w):(cyc (faceP (suB b w n) (suW n) (2 * n)) (2 * n)).length = (cyc (faceP b w n) n).length:=by
 obtain ⟨e,h8,h1⟩:=S.nn
 have D:=S.dz
 have hF:=D.F
 -- one step from the face permutation
 have s0:∀ y,y < n.toNat -> fp (faceP (suB b w n) (suW n) (2 * n)) (fp w y) = n.toNat + y:=fun y hy=>by
  have:=D.face (x:=n.toNat + y) (by omega)
  rw [S.b1 hy,S.w1 (S.h.W.pf.lt y hy)] at this; exact this
 have s1:∀ y,y < n.toNat -> fp (faceP (suB b w n) (suW n) (2 * n)) (n.toNat + fp b y) = y:=fun y hy=>by
  have:=D.face (x:=y) (by omega)
  rw [S.b0 hy,S.w0 (S.h.B.pf.lt y hy)] at this; exact this
 have t0:∀ x,x < n.toNat -> fp (faceP (suB b w n) (suW n) (2 * n)) x >= n.toNat /\ fp (faceP (suB b w n) (suW n) (2 * n)) (fp (faceP (suB b w n) (suW n) (2 * n)) x) = fp (faceP b w n) x:=fun x hx=>by
  have hf:=S.h.F.pf.lt x hx
  have h2:=s0 (fp b (fp (faceP b w n) x)) (S.h.B.pf.lt _ hf)
  rw [S.h.face' hx] at h2
  rw [h2]
  exact ⟨by omega,s1 _ hf⟩
 have t1:∀ x,x < n.toNat -> fp (faceP (suB b w n) (suW n) (2 * n)) (n.toNat + x) < n.toNat /\ fp (faceP (suB b w n) (suW n) (2 * n)) (fp (faceP (suB b w n) (suW n) (2 * n)) (n.toNat + x)) = n.toNat + fp (faceP w b n) x:=fun x hx=>by
  have hf:=S.h.swap.F.pf.lt x hx
  have h2:=s1 (fp w (fp (faceP w b n) x)) (S.h.W.pf.lt _ hf)
  rw [S.h.swap.face' hx] at h2
  rw [h2]
  exact ⟨S.h.W.pf.lt _ hf,s0 _ hf⟩
 generalize faceP (suB b w n) (suW n) (2 * n) = F at *
 have i0:∀ x,x < n.toNat -> ∀ k,it F (2 * k) x = it (faceP b w n) k x:=fun x hx k=>by
  induction k with
  | zero=>rfl
  | succ k ih =>
   rw [show 2 * (k + 1) = 2 * k + 1 + 1 by omega]
   simp only [it]
   rw [ih]; exact (t0 _ (it_lt S.h.F.pf hx k)).2
 have i1:∀ x,x < n.toNat -> ∀ k,it F (2 * k) (n.toNat + x) = n.toNat + it (faceP w b n) k x:=fun x hx k=>by
  induction k with
  | zero=>rfl
  | succ k ih =>
   rw [show 2 * (k + 1) = 2 * k + 1 + 1 by omega]
   simp only [it]
   rw [ih]; exact (t1 _ (it_lt S.h.swap.F.pf hx k)).2
 have l0:∀ x,x < n.toNat -> Sep.lenW F (2 * n) x = 2 * Sep.lenW (faceP b w n) n x:=fun x hx=>by
  have h2:=S.h.F.per hx
  have hp:=h2.pos
  refine (hF.per (x:=x) (by omega)).same ⟨by omega,by rw [i0 x hx]; exact h2.ret,fun j a c q=>?_⟩
  obtain ⟨i,rfl | rfl⟩:∃ i,j = 2 * i ∨ j = 2 * i + 1:=⟨j / 2,by omega⟩
  ·rw [i0 x hx] at q
   exact h2.min i (by omega) (by omega) q
  ·simp only [it] at q
   rw [i0 x hx] at q
   have:=(t0 _ (it_lt S.h.F.pf hx i)).1
   omega
 have l1:∀ x,x < n.toNat -> Sep.lenW F (2 * n) (n.toNat + x) = 2 * Sep.lenW (faceP w b n) n x:=fun x hx=>by
  have h2:=S.h.swap.F.per hx
  have hp:=h2.pos
  refine (hF.per (x:=n.toNat + x) (by omega)).same ⟨by omega,by rw [i1 x hx,h2.ret],fun j a c q=>?_⟩
  obtain ⟨i,rfl | rfl⟩:∃ i,j = 2 * i ∨ j = 2 * i + 1:=⟨j / 2,by omega⟩
  ·rw [i1 x hx] at q
   exact h2.min i (by omega) (by omega) (by omega)
  ·simp only [it] at q
   rw [i1 x hx] at q
   have:=(t1 _ (it_lt S.h.swap.F.pf hx i)).1
   omega
 have:=(lens_of hF (M:=(lens (faceP b w n) n).map fun a=>2 * a) (fun a ha=>by
  obtain ⟨c,hc,rfl⟩:=List.mem_map.1 ha
  have:=S.h.F.len_pos hc; omega) fun c hc=>by
  rw [e,smE_app,smE_congr (g:=fun x=>if 2 * Sep.lenW (faceP b w n) n x = c then (1:Int) else 0) _ fun x hx=>by rw [l0 x hx],
   smE_congr (f:=fun x=>if Sep.lenW F (2 * n) (n.toNat + x) = c then (1:Int) else 0) (g:=fun x=>if 2 * Sep.lenW (faceP w b n) n x = c then (1:Int) else 0) _ fun x hx=>by rw [l1 x hx]]
  obtain ⟨i,rfl | rfl⟩:∃ i,c = 2 * i ∨ c = 2 * i + 1:=⟨c / 2,by omega⟩
  ·have c1:=S.h.F.lens_cnt i
   have c2:=S.h.swap.F.lens_cnt i
   have c3:=(List.perm_iff_count.1 S.h.lf_swap) (i:Int)
   have e1:((lens (faceP b w n) n).map fun a=>2 * a).count ((2 * i:Nat):Int) = (lens (faceP b w n) n).count (i:Int):=by
    rw [show ((2 * i:Nat):Int) = 2 * (i:Int) by omega]
    induction lens (faceP b w n) n with
    | nil=>rfl
    | cons a l ih =>
     rw [List.map_cons,List.count_cons,List.count_cons,ih]
     congr 1
     by_cases q:a = i
     ·subst q; simp
     ·rw [if_neg (by simp only [beq_iff_eq]; omega),if_neg (by simp only [beq_iff_eq]; omega)]
   rw [e1]
   have c4:(smE n.toNat fun x=>if 2 * Sep.lenW (faceP b w n) n x = 2 * i then (1:Int) else 0) = smE n.toNat fun x=>if Sep.lenW (faceP b w n) n x = i then 1 else 0:=smE_congr _ fun x hx=>by
    by_cases q:Sep.lenW (faceP b w n) n x = i
    ·rw [if_pos q,if_pos (by omega)]
    ·rw [if_neg q,if_neg (by omega)]
   have c5:(smE n.toNat fun x=>if 2 * Sep.lenW (faceP w b n) n x = 2 * i then (1:Int) else 0) = smE n.toNat fun x=>if Sep.lenW (faceP w b n) n x = i then 1 else 0:=smE_congr _ fun x hx=>by
    by_cases q:Sep.lenW (faceP w b n) n x = i
    ·rw [if_pos q,if_pos (by omega)]
    ·rw [if_neg q,if_neg (by omega)]
   rw [c4,c5,<-c1,<-c2,<-c3]
   rw [show ((2 * i:Nat):Int) = 2 * (i:Int) by omega]; grind
  ·rw [List.count_eq_zero_of_not_mem fun h=>by
    obtain ⟨a,_,ha⟩:=List.mem_map.1 h
    omega]
   rw [smE_congr (g:=fun _=>0) _ fun x hx=>if_neg (by omega),smE_zero,smE_congr (g:=fun _=>0) _ fun x hx=>if_neg (by omega),smE_zero]; simp).length_eq
 rw [List.length_map,lens_len,lens_len] at this
 exact this
theorem Su.eul (S:Su n b w):eulN (2 * n) (suB b w n) (suW n) = eulN n b w:=by
 obtain ⟨e,h8,h1⟩:=S.nn
 have a:=S.lenB
 have c:=S.lenW
 have d:=S.lenF
 unfold eulN
 omega
end
end
section
set_option maxRecDepth 1000000
set_option maxHeartbeats 4000000
theorem run_compareSl {P:Program} {b off n cap b' off' n' cap':Nat} {w:World} (l m:List Int) (hl:l.length = n) (hm:m.length = n')
  (h1:∀ j x,l[j]? = some x -> w.cell? ⟨b,off + j,none⟩ = some (.int .u8 x)) (h2:∀ j x,m[j]? = some x -> w.cell? ⟨b',off' + j,none⟩ = some (.int .u8 x)) :
  (Extern.BytealgCompare.compare #[.slice (some ⟨b,off,none⟩) n cap,.slice (some ⟨b',off',none⟩) n' cap']).run P w = .ok (.int .i64 (Lib.compareBytes (Lib.bytesOf l) (Lib.bytesOf m))) w:=by
 subst hl hm
 have e1:=Lib.run_loadBytesX (P:=P) (w:=w) l ⟨b,off,none⟩ .empty (fun j x hj=>by rw [Addr.add_lit]; exact h1 j x hj)
 have e2:=Lib.run_loadBytesX (P:=P) (w:=w) m ⟨b',off',none⟩ .empty (fun j x hj=>by rw [Addr.add_lit]; exact h2 j x hj)
 change Sem.run P (do pure (goInt (Extern.BytealgCompare.cmp (<-Extern.Bytes.bytesOf (.slice (some ⟨b,off,none⟩) l.length cap)) (<-Extern.Bytes.bytesOf (.slice (some ⟨b',off',none⟩) m.length cap'))))) w = _
 simp only [Extern.Bytes.bytesOf,Sem.run_bind,e1,e2,Sem.run_pure,Result.andThen]
 rw [Lib.cmp_eq]
 simp [goInt]
theorem bcmp_walk (b off n cap b' off' n' cap':Nat) (w:World) (l m:List Int) (hl:l.length = n) (hm:m.length = n')
  (h1:∀ j x,l[j]? = some x -> w.cell? ⟨b,off + j,none⟩ = some (.int .u8 x)) (h2:∀ j x,m[j]? = some x -> w.cell? ⟨b',off' + j,none⟩ = some (.int .u8 x)) :
  Calls Tryz.prog 126 #[.slice (some ⟨b,off,none⟩) n cap,.slice (some ⟨b',off',none⟩) n' cap'] w fun e w'=>e = .returned (.int .i64 (Lib.compareBytes (Lib.bytesOf l) (Lib.bytesOf m))) /\ w' = w:=by
 go_enter Tryz.func126,Tryz.ntmps126
 go_wp2
 rw [run_callFunc_extern Tryz.func132 (by kernel_rfl) (by kernel_rfl) (by kernel_rfl) (e:=Extern.BytealgCompare.compare) (by kernel_rfl),run_compareSl l m hl hm h1 h2]
 simp only [Result.andThen]
 rw [Oper.upon_value]
 go_wp2
 go_ret
 exact ⟨rfl,rfl⟩
theorem newc_q {p q:List Int} {w:World} {e:TypeId} {j:Nat} {x:Int} (hj:q[j]? = some x):((w.alloc (Obj.cells (p.map (Value.int .u8)).toArray e)).alloc (Obj.cells (q.map (Value.int .u8)).toArray e)).drew.cell? ⟨w.heap.size + 1,0 + j,none⟩ = some (.int .u8 x):=by
 rw [World.cell?_drew,Nat.zero_add,World.cell?_alloc2_new,List.getElem?_toArray,List.getElem?_map,hj]; rfl
theorem newc_p {p q:List Int} {w:World} {e:TypeId} {j:Nat} {x:Int} (hj:p[j]? = some x):((w.alloc (Obj.cells (p.map (Value.int .u8)).toArray e)).alloc (Obj.cells (q.map (Value.int .u8)).toArray e)).drew.cell? ⟨w.heap.size,0 + j,none⟩ = some (.int .u8 x):=by
 rw [World.cell?_drew,Nat.zero_add,World.cell?_alloc2_first,List.getElem?_toArray,List.getElem?_map,hj]; rfl
theorem newk {p:List Int} (e:TypeId):(Blk.row true e (p.map (Value.int .u8)) 0).ok (Obj.cells (p.map (Value.int .u8)).toArray e) :=
 ⟨_,_,rfl,by simp,by rw [List.toList_toArray,List.take_length],fun _=>rfl,fun _ v hv=>by obtain ⟨x,_,rfl⟩:=List.mem_map.1 hv; rfl⟩
theorem le_new {B:Bd} {w0 w:World} {h:H} {k:Blk} (hs:Sat B w0 w h):Le h (upd h w.heap.size k):=fun b k' hb=>by
 have:b ≠ w.heap.size:=by have:=hs.lt (b:=b) (by rw [hb]; rfl); omega
 simp only [upd,if_neg this]; exact hb
theorem Le.trans' {h h' h'':H} (a:Le h h') (c:Le h' h''):Le h h'':=fun b k hb=>c b k (a b k hb)
theorem pcmp_walk (p q:List Int) (w:World) (hp:p.length = 16) (hq:q.length = 16) :
  Calls Tryz.prog 113 #[.agg (p.map (Value.int .u8)).toArray,.agg (q.map (Value.int .u8)).toArray] w fun e w'=>e = .returned (.int .i64 (Lib.compareBytes (Lib.bytesOf p) (Lib.bytesOf q))) /\ ∀ B w0 h,Sat B w0 w h -> Sat B w0 w' h:=by
 go_enter Tryz.func113,Tryz.ntmps113
 go_wp2_with fail
 go_region_with (go_at_call 126; refine (bcmp_walk _ _ _ _ _ _ _ _ _ p q hp hq (by intro j x hj; exact newc_p hj) (by intro j x hj; exact newc_q hj)).mono ?_; rintro e w' ⟨rfl,rfl⟩)
 go_wp2
 go_ret
 refine ⟨rfl,fun B w0 h hs=>?_⟩
 refine Sat.drew ?_
 exact Sat.mono ((hs.alloc (newk _)).alloc (newk _)) (Le.trans' (le_new hs) (le_new (hs.alloc (newk _))))
theorem u8_lt {a c:Int} (ha:0 <= a /\ a <= 255) (hc:0 <= c /\ c <= 255):a.toNat.toUInt8 < c.toNat.toUInt8 ↔ a < c:=by
 rw [UInt8.lt_iff_toNat_lt,Nat.toUInt8_eq,Nat.toUInt8_eq,UInt8.toNat_ofNat_of_lt' (show a.toNat < 256 by omega),UInt8.toNat_ofNat_of_lt' (show c.toNat < 256 by omega)]
 omega
theorem cmp_ltL:∀ {p q:List Int},p.length = q.length -> (∀ a ∈ p,0 <= a /\ a <= 255) -> (∀ a ∈ q,0 <= a /\ a <= 255) ->
  (-1 <= Lib.compareBytes (Lib.bytesOf p) (Lib.bytesOf q) /\ Lib.compareBytes (Lib.bytesOf p) (Lib.bytesOf q) <= 1) /\ (Lib.compareBytes (Lib.bytesOf p) (Lib.bytesOf q) < 0 ↔ ltL p q = true) /\ (Lib.compareBytes (Lib.bytesOf p) (Lib.bytesOf q) = 0 ↔ p = q)
 | [],[],_,_,_=>by simp [Lib.bytesOf,Lib.compareBytes,ltL]
 | [],_ :: _,h,_,_=>by simp at h
 | _ :: _,[],h,_,_=>by simp at h
 | a :: p,c :: q,h,ha,hc=>by
  have ih:=cmp_ltL (p:=p) (q:=q) (by simpa using h) (fun x hx=>ha x (by simp [hx])) (fun x hx=>hc x (by simp [hx]))
  have ha0:=ha a (by simp)
  have hc0:=hc c (by simp)
  have l1:=u8_lt ha0 hc0
  have l2:=u8_lt hc0 ha0
  have e1:Lib.bytesOf (a :: p) = a.toNat.toUInt8 :: Lib.bytesOf p:=rfl
  have e2:Lib.bytesOf (c :: q) = c.toNat.toUInt8 :: Lib.bytesOf q:=rfl
  rw [e1,e2]
  simp only [Lib.compareBytes,ltL]
  by_cases h1:a < c
  ·rw [if_pos (l1.2 h1)]
   refine ⟨by omega,by simp [h1],?_⟩
   simp; omega
  ·rw [if_neg fun q=>h1 (l1.1 q)]
   by_cases h2:c < a
   ·rw [if_pos (l2.2 h2)]
    refine ⟨by omega,?_,?_⟩
    ·simp [h1]; omega
    ·simp; omega
   ·rw [if_neg fun q=>h2 (l2.1 q)]
    have e:a = c:=by omega
    subst e
    refine ⟨ih.1,?_,?_⟩
    ·rw [ih.2.1]; simp
    ·rw [ih.2.2]; simp
theorem c_impl_comparePlaces {p q:List Int} (hp:okP p) (hq:okP q):PSpec Tryz.prog 113 [.agg (vi .u8 p),.agg (vi .u8 q)] fun v=>∃ r:Int,v = .int .i64 r /\ (-1 <= r /\ r <= 1) /\ (r < 0 ↔ ltL p q = true) /\ (r = 0 ↔ p = q):=by
 intro F rs hR hr hle B w0 w hs
 simp only [RL,R] at hR
 obtain ⟨v0,r0,rfl,⟨cs,rfl,h1⟩,v1,r1,rfl,⟨cs',rfl,h2⟩,rfl⟩:=hR
 obtain rfl:=RL_bytes_eq h1
 obtain rfl:=RL_bytes_eq h2
 refine (pcmp_walk p q w hp.1 hq.1).mono ?_
 rintro e w' ⟨rfl,hw⟩
 have hok:∀ {p:List Int},okP p -> ∀ a ∈ p,0 <= a /\ a <= 255:=fun {p} hp a ha=>by
  obtain ⟨i,hi,rfl⟩:=List.getElem_of_mem ha
  have:=hp.2 i (by rw [<-hp.1]; exact hi)
  rw [gi_of hi] at this; exact this
 obtain ⟨c1,c2,c3⟩:=cmp_ltL (by rw [hp.1,hq.1]) (hok hp) (hok hq)
 refine ⟨_,emp,rfl,⟨.int .i64 (Lib.compareBytes (Lib.bytesOf p) (Lib.bytesOf q)),⟨_,rfl,c1,c2,c3⟩,rfl,rfl⟩,fun b hb=>by simp [emp] at hb,?_⟩
 have:join hr emp = hr:=by funext b; simp [join,emp]
 rw [this]
 exact hw B w0 hr hs
theorem c_impl_compareDessins {n m:Int} {b w c x:List Int} (hb:okP b) (hw:okP w) (hc:okP c) (hx:okP x):PSpec Tryz.prog 95 [vD n b w,vD m c x] fun v=>∃ r:Int,v = .int .i64 r /\ (-1 <= r /\ r <= 1) /\ (r < 0 ↔ ltD (b,w) (c,x) = true):=by
 have h1:=hb.1
 have h2:=hw.1
 have h3:=hc.1
 have h4:=hx.1
 refine impl_compareDessins_f.f ?_
 unfold vD
 dsimp only [impl_compareDessins_F,pcal_B,pcalp_B,pcala_B,pcond_B,pgk_B,JN_B,LP_B]
 (refine bni ?_; repeat (refine bnk ?_; (try simp (disch:=first | omega | (simp only [LN]; omega)) only [↓EC,EW,seval,↓reduceIte,↓EBD,EBE])))
 refine pcd_r (c_impl_comparePlaces hb hc) ?_
 rintro _ ⟨r,rfl,l1,l2,l3⟩
 (refine bni ?_; repeat (refine bnk ?_; (try simp (disch:=first | omega | (simp only [LN]; omega)) only [↓EC,EW,seval,↓reduceIte,↓EBD,EBE])))
 (refine Split.mkB (fun h=>?_) (fun h=>?_) <;> (try simp only [SD] at h))
 ·(refine bni ?_; repeat (refine bnk ?_; (try simp (disch:=first | omega | (simp only [LN]; omega)) only [↓EC,EW,seval,↓reduceIte,↓EBD,EBE])))
  refine ⟨r,rfl,l1,?_⟩
  have:b ≠ c:=fun e=>h (l3.2 e)
  rw [l2]; simp [ltD,this]
 ·(refine bni ?_; repeat (refine bnk ?_; (try simp (disch:=first | omega | (simp only [LN]; omega)) only [↓EC,EW,seval,↓reduceIte,↓EBD,EBE])))
  refine pcd_r (c_impl_comparePlaces hw hx) ?_
  rintro _ ⟨r',rfl,l1',l2',l3'⟩
  (refine bni ?_; repeat (refine bnk ?_; (try simp (disch:=first | omega | (simp only [LN]; omega)) only [↓EC,EW,seval,↓reduceIte,↓EBD,EBE])))
  refine ⟨r',rfl,l1',?_⟩
  obtain rfl:=l3.1 h
  rw [l2']; simp [ltD,ltL_irr]
end
section
set_option maxHeartbeats 4000000
theorem vleqT {k:IntKind}:∀ {l m:List Int},l.length = m.length -> vleq (List.replicate l.length (.i k)) (vi k l) (vi k m) = some (decide (l = m))
 | [],[],_=>rfl
 | [],_ :: _,h=>by simp at h
 | _ :: _,[],h=>by simp at h
 | a :: l,c :: m,h=>by
  have ih:=vleqT (k:=k) (l:=l) (m:=m) (by simpa using h)
  simp only [List.length_cons,List.replicate_succ,vi,List.map_cons,vleq_cons,vveq_i,Option.bind_some] at ih ⊢
  rw [ih]
  simp only [Option.bind_some,Option.some.injEq]
  by_cases e:a = c
  ·subst e; simp
  ·simp [e]
theorem vleq32 {l m:List Int} (hl:l.length = 32) (hm:m.length = 32):vleq [.i .u8,.i .u8,.i .u8,.i .u8,.i .u8,.i .u8,.i .u8,.i .u8,.i .u8,.i .u8,.i .u8,.i .u8,.i .u8,.i .u8,.i .u8,.i .u8,.i .u8,.i .u8,.i .u8,.i .u8,.i .u8,.i .u8,.i .u8,.i .u8,.i .u8,.i .u8,.i .u8,.i .u8,.i .u8,.i .u8,.i .u8,.i .u8] (vi .u8 l) (vi .u8 m) = some (decide (l = m)):=by
 have:=vleqT (k:=.u8) (l:=l) (m:=m) (by omega)
 rw [hl] at this
 exact this
theorem app_inj16 {a c x y:List Int} (h1:a.length = 16) (h2:c.length = 16):a ++ x = c ++ y ↔ a = c /\ x = y:=by
 constructor
 ·intro e; exact List.append_inj e (by omega)
 ·rintro ⟨rfl,rfl⟩; rfl
section
variable {n:Int} {b w:List Int}
theorem cnF_lo (h:Dz n b w) (s:Nat) (hs:s < n.toNat):lo16 (cnF b w n s).1 /\ lo16 (cnF b w n s).2:=by
 obtain ⟨x,hx,e⟩:=cnF_ex (b:=b) (w:=w) (n:=n) s
 rw [e]
 have:=frm_dz h (x:=x) (by omega)
 exact ⟨this.B.lo,this.W.lo⟩
end
theorem c_impl_canonical {n:Int} {b w:List Int} (hz:Dz n b w):PSpec Tryz.prog 62 [vD n b w] fun v=>v = vD n (canD b w n).1 (canD b w n).2:=by
 have hb:=hz.B.lo
 have hw:=hz.W.lo
 have hl:=hb.1
 have hk:=hw.1
 have hn:=hz.B.hn
 have c1:∀ x:Int,0 <= x /\ x < n -> PSpec Tryz.prog 94 [.agg (.int .i64 n :: vi .u8 (b ++ w)),.int .i64 x] fun v=>v = .agg (vi .u8 (nmgP b w x)):=fun x hx=>c_impl_naming (n:=n) (x:=x) hb hw (by omega)
 have c2:∀ x:Int,0 <= x /\ x < n -> PSpec Tryz.prog 93 [.agg (.int .i64 n :: vi .u8 (b ++ w)),.agg (vi .u8 (nmgP b w x))] fun v=>v = .agg (.int .i64 n :: vi .u8 (frB b w n x ++ frW b w n x)):=fun x hx=>c_impl_rename (n:=n) hb hw (nmgP_lo hb hw (x:=x) (by omega)) hn
 have q1:∀ x:Int,(frB b w n x).length = 16:=fun x=>rnT_len _
 have q2:∀ x:Int,(frW b w n x).length = 16:=fun x=>rnT_len _
 have q3:∀ s,(cnF b w n s).1.length = 16:=fun s=>by obtain ⟨x,_,e⟩:=cnF_ex (b:=b) (w:=w) (n:=n) s; rw [e]; exact q1 _
 have q4:∀ s,(cnF b w n s).2.length = 16:=fun s=>by obtain ⟨x,_,e⟩:=cnF_ex (b:=b) (w:=w) (n:=n) s; rw [e]; exact q2 _
 have q10:=q1 0
 have q20:=q2 0
 refine impl_canonical_f.f ?_
 unfold vD
 dsimp only [impl_canonical_F,pcal_B,pcalp_B,pcala_B,pcond_B,pgk_B,JN_B,LP_B]
 (refine bni ?_; repeat (refine bnk ?_; (try simp (disch:=first | omega | (simp only [LN]; omega)) only [↓EC,EW,seval,↓reduceIte,↓EBD,EBE])))
 refine pcd_v (c1 0 (by omega)) ?_
 (refine bni ?_; repeat (refine bnk ?_; (try simp (disch:=first | omega | (simp only [LN]; omega)) only [↓EC,EW,seval,↓reduceIte,↓EBD,EBE])))
 refine pcd_v (c2 0 (by omega)) ?_
 (refine bni ?_; repeat (refine bnk ?_; (try simp (disch:=first | omega | (simp only [LN]; omega)) only [↓EC,EW,seval,↓reduceIte,↓EBD,EBE])))
 refine LPx_of (σ:=Nat) 100000 [(65,28,1),(66,28,1),(67,28,1)] (fun s=>[.int .i64 (s + 1:Nat)]) (fun s=>[.int .i64 n :: vi .u8 (b ++ w),.int .i64 0 :: vi .u8 (List.replicate 32 0),.int .i64 n :: vi .u8 ((cnF b w n s).1 ++ (cnF b w n s).2)])
  (fun s=>s < n.toNat) (fun s=>n.toNat - s) 0 (by simp [frameOk,names,lpz,sclp,scv,scvs,nrfs,nrf,FRB]) (by show 0 < n.toNat; omega) ?_ ?_
 ·(refine bni ?_; repeat (refine bnk ?_; simp (disch:=first | omega | (simp only [LN]; omega)) only [↓EC,EW,seval,↓reduceIte,↓EBD,EBE,ColV_def]))
  rfl
 ·intro s hs
  have q3s:=q3 s
  have q4s:=q4 s
  (refine bni ?_; repeat (refine bnk ?_; simp (disch:=first | omega | (simp only [LN]; omega)) only [↓EC,EW,seval,↓reduceIte,↓EBD,EBE,ColV_def,lheap_def]))
  (refine Split.mkB (fun h=>?_) (fun h=>?_) <;> (try simp only [SD] at h))
  ·refine JNx_un ?_
   (refine bni ?_; repeat (refine bnk ?_; (try simp (disch:=first | omega | (simp only [LN]; omega)) only [↓EC,EW,seval,↓reduceIte,↓EBD,EBE])))
   refine pcd_v (c1 ((s + 1:Nat):Int) (by omega)) ?_
   (refine bni ?_; repeat (refine bnk ?_; (try simp (disch:=first | omega | (simp only [LN]; omega)) only [↓EC,EW,seval,↓reduceIte,↓EBD,EBE])))
   refine pcd_v (c2 ((s + 1:Nat):Int) (by omega)) ?_
   have q5:=q1 ((s + 1:Nat):Int)
   have q6:=q2 ((s + 1:Nat):Int)
   have f1:=frm_dz hz (x:=s + 1) (by omega)
   have l1:=f1.B.lo.ok
   have l2:=f1.W.lo.ok
   have l3:=(cnF_lo hz s hs).1.ok
   have l4:=(cnF_lo hz s hs).2.ok
   (refine bni ?_; repeat (refine bnk ?_; (try simp (disch:=first | omega | (simp only [LN]; omega)) only [↓EC,EW,seval,↓reduceIte,↓EBD,EBE])))
   refine pcd_r (c_impl_compareDessins (n:=n) (m:=n) l1 l2 l3 l4) ?_
   rintro _ ⟨r,rfl,r1,r2⟩
   have e1:cnF b w n (s + 1) = if ltD (frB b w n ((s + 1:Nat):Int),frW b w n ((s + 1:Nat):Int)) (cnF b w n s) = true then (frB b w n ((s + 1:Nat):Int),frW b w n ((s + 1:Nat):Int)) else cnF b w n s:=rfl
   (refine bni ?_; repeat (refine bnk ?_; (try simp (disch:=first | omega | (simp only [LN]; omega)) only [↓EC,EW,seval,↓reduceIte,↓EBD,EBE])))
   (refine Split.mkB (fun h=>?_) (fun h=>?_) <;> (try simp only [SD] at h))
   ·(refine bni ?_; repeat (refine bnk ?_; (try simp (disch:=first | omega | (simp only [LN]; omega)) only [↓EC,EW,seval,↓reduceIte,↓EBD,EBE])))
    have hlt:ltD (frB b w n ((s + 1:Nat):Int),frW b w n ((s + 1:Nat):Int)) (cnF b w n s) = true:=r2.1 h
    rw [if_pos hlt] at e1
    exact ⟨s + 1,by simp,by rw [e1],by omega,by omega⟩
   ·(refine bni ?_; repeat (refine bnk ?_; (try simp (disch:=first | omega | (simp only [LN]; omega)) only [↓EC,EW,seval,↓reduceIte,↓EBD,EBE])))
    have hlt:¬ ltD (frB b w n ((s + 1:Nat):Int),frW b w n ((s + 1:Nat):Int)) (cnF b w n s) = true:=fun q=>by have:=r2.2 q; omega
    rw [if_neg hlt] at e1
    exact ⟨s + 1,by simp,by rw [e1],by omega,by omega⟩
  ·obtain rfl:s = n.toNat - 1:=by omega
   (refine bni ?_; repeat (refine bnk ?_; (try simp (disch:=first | omega | (simp only [LN]; omega)) only [↓EC,EW,seval,↓reduceIte,↓EBD,EBE])))
   rfl
theorem canD_len {n:Int} {b w:List Int}:(canD b w n).1.length = 16 /\ (canD b w n).2.length = 16:=by
 obtain ⟨x,_,e⟩:=cnF_ex (b:=b) (w:=w) (n:=n) (n.toNat - 1)
 unfold canD; rw [e]; exact frm_len
theorem can_dec {n:Int} {b w c x:List Int} (h:Dz n b w) (h':Dz n c x):((canD b w n).1 ++ (canD b w n).2 = (canD c x n).1 ++ (canD c x n).2) ↔ Alk n b w c x:=by
 rw [app_inj16 canD_len.1 canD_len.1,<-can_alk h h',Prod.ext_iff]
noncomputable def akB (n m:Int) (b w c x:List Int):Bool:=by classical exact decide (n = m /\ Alk n b w c x)
noncomputable def akR (n m:Int) (b w c x:List Int):Bool × Int:=if isDB n b w = true /\ isDB m c x = true then (akB n m b w c x,0) else (false,1)
theorem akB_dec {n:Int} {b w c x:List Int} (h:Dz n b w) (h':Dz n c x):decide ((canD b w n).1 ++ (canD b w n).2 = (canD c x n).1 ++ (canD c x n).2) = akB n n b w c x:=by
 have h0:=can_dec h h'
 by_cases q:Alk n b w c x
 ·have:=h0.2 q; simp [akB,q,this]
 ·have:¬ _:=fun r=>q (h0.1 r)
  simp only [akB,q,this,and_false,decide_false]
theorem akB_ne {n m:Int} {b w c x:List Int} (e:¬ n = m):akB n m b w c x = false:=by
 unfold akB; rw [decide_eq_false_iff_not]; exact fun q=>e q.1
theorem c_impl_AreAlike {n m:Int} {b w c x:List Int} (hb:okP b) (hw:okP w) (hc:okP c) (hx:okP x):PSpec Tryz.prog 13 [vD n b w,vD m c x] fun v=>v = .tup [.bool (akR n m b w c x).1,.int .i64 (akR n m b w c x).2]:=by
 have h1:=hb.1
 have h2:=hw.1
 have h3:=hc.1
 have h4:=hx.1
 refine impl_AreAlike_f.f ?_
 unfold vD
 dsimp only [impl_AreAlike_F,pcal_B,pcalp_B,pcala_B,pcond_B,pgk_B,JN_B,LP_B]
 (refine bni ?_; repeat (refine bnk ?_; (try simp (disch:=first | omega | (simp only [LN]; omega)) only [↓EC,EW,seval,↓reduceIte,↓EBD,EBE])))
 refine pcd_v (c_impl_IsDessin (n:=n) hb hw) ?_
 cases hd:isDB n b w with
 | false=>(refine bni ?_; repeat (refine bnk ?_; (try simp (disch:=first | omega | (simp only [LN]; omega)) only [↓EC,EW,seval,↓reduceIte,↓EBD,EBE,akR,hd])))
 | true =>
  (refine bni ?_; repeat (refine bnk ?_; (try simp (disch:=first | omega | (simp only [LN]; omega)) only [↓EC,EW,seval,↓reduceIte,↓EBD,EBE])))
  refine pcd_v (c_impl_IsDessin (n:=m) hc hx) ?_
  cases he:isDB m c x with
  | false=>(refine bni ?_; repeat (refine bnk ?_; (try simp (disch:=first | omega | (simp only [LN]; omega)) only [↓EC,EW,seval,↓reduceIte,↓EBD,EBE,akR,hd,he])))
  | true =>
   (refine bni ?_; repeat (refine bnk ?_; (try simp (disch:=first | omega | (simp only [LN]; omega)) only [↓EC,EW,seval,↓reduceIte,↓EBD,EBE])))
   have D:=(isDB_iff.1 hd).dz hb hw
   have E:=(isDB_iff.1 he).dz hc hx
   have k1:=c_impl_canonical D
   have k2:=c_impl_canonical E
   unfold vD at k1 k2
   by_cases e:n = m
   ·subst e
    (refine bni ?_; repeat (refine bnk ?_; (try simp (disch:=first | omega | (simp only [LN]; omega)) only [↓EC,EW,seval,↓reduceIte,↓EBD,EBE])))
    refine pcd_v k1 ?_
    (refine bni ?_; repeat (refine bnk ?_; (try simp (disch:=first | omega | (simp only [LN]; omega)) only [↓EC,EW,seval,↓reduceIte,↓EBD,EBE])))
    refine pcd_v k2 ?_
    have l1:=canD_len (n:=n) (b:=b) (w:=w)
    have l2:=canD_len (n:=n) (b:=c) (w:=x)
    (refine bni ?_; repeat (refine bnk ?_; (try simp (disch:=first | omega | (simp only [LN]; omega)) only [↓EC,EW,seval,↓reduceIte,↓EBD,EBE,akR,hd,he,vleq32 (l:=(canD b w n).1 ++ (canD b w n).2) (m:=(canD c x n).1 ++ (canD c x n).2) (by simp; omega) (by simp; omega),akB_dec D E])))
   ·have e1:(n == m) = false:=by simpa using e
    (refine bni ?_; repeat (refine bnk ?_; (try simp (disch:=first | omega | (simp only [LN]; omega)) only [↓EC,EW,seval,↓reduceIte,↓EBD,EBE,e1,akR,hd,he,akB_ne e])))
end
section
set_option maxHeartbeats 4000000
theorem c_ReverseS {l:List Int} {n:Nat} (hn:l.length = n) (hl:n <= 1000):PSpecM Tryz.prog 125 [.rf 0 0 n] [(0,2,1)] [vi .i64 l] fun v c=>v = .tup [] /\ c = [vi .i64 l.reverse]:=by
 refine slices_Reverse_int64_int64_i_f.m rfl rfl ?_
 dsimp only [slices_Reverse_int64_int64_i_F,pcal_B,pcalp_B,pcala_B,pcond_B,pgk_B,JN_B,LP_B]
 (refine bni ?_; repeat (refine bnk ?_; (try simp (disch:=first | omega | (simp only [LN]; omega)) only [↓EC,EW,seval,↓reduceIte,↓EBD,EBE])))
 refine LPx_of (σ:=List Int × Nat) 100000 [(0,2,1)] (fun s=>[.int .i64 s.2,.int .i64 ((n:Int) - 1 - s.2)]) (fun s=>[vi .i64 s.1])
  (fun s=>s.1.length = n /\ 2 * s.2 <= n + 1 /\ ∀ t,t < n -> gi s.1 t = if t < s.2 ∨ n <= t + s.2 then gi l (n - 1 - t) else gi l t) (fun s=>n - s.2) (l,0) (by simp [frameOk,names,lpz,sclp,scv,scvs,nrfs,nrf,FRB]) ⟨hn,by simp only; omega,fun t ht=>by rw [if_neg (by simp only; omega)]⟩ ?_ ?_
 ·(refine bni ?_; repeat (refine bnk ?_; simp (disch:=first | omega | (simp only [LN]; omega)) only [↓EC,EW,seval,↓reduceIte,↓EBD,EBE,ColV_def]))
  simp
 ·rintro ⟨m,i⟩ ⟨h1,h2,h3⟩
  simp only at h1 h2 h3
  (refine bni ?_; repeat (refine bnk ?_; simp (disch:=first | omega | (simp only [LN]; omega)) only [↓EC,EW,seval,↓reduceIte,↓EBD,EBE,ColV_def,lheap_def]))
  (refine Split.mkB (fun h=>?_) (fun h=>?_) <;> (try simp only [SD] at h))
  ·have e1:((n:Int) - 1 - i).toNat = n - 1 - i:=by omega
   (refine bni ?_; repeat (refine bnk ?_; (try simp (disch:=first | omega | (simp only [LN]; omega)) only [↓EC,EW,seval,↓reduceIte,↓EBD,EBE,e1])))
   refine ⟨(_,i + 1),by simp; omega,rfl,⟨by simp [h1],by simp only; omega,fun t ht=>?_⟩,by simp only; omega⟩
   simp only
   rw [gi_set,gi_set,List.length_set,h1]
   by_cases ta:n - 1 - i = t
   ·rw [if_pos ⟨ta,ht⟩,if_pos (by omega),h3 i (by omega),if_neg (by omega)]
    congr 1; omega
   ·rw [if_neg fun q=>ta q.1]
    by_cases tb:i = t
    ·rw [if_pos ⟨tb,ht⟩,if_pos (by omega),h3 (n - 1 - i) (by omega),if_neg (by omega)]
     congr 1; omega
    ·rw [if_neg fun q=>tb q.1,h3 t ht]
     by_cases tc:t < i ∨ n <= t + i
     ·rw [if_pos tc,if_pos (by omega)]
     ·rw [if_neg tc,if_neg (by omega)]
  ·(refine bni ?_; repeat (refine bnk ?_; (try simp (disch:=first | omega | (simp only [LN]; omega)) only [↓EC,EW,seval,↓reduceIte,↓EBD,EBE])))
   have:m = l.reverse:=by
    refine gi_ext (by simp [h1,hn]) fun t ht=>?_
    have hr:gi l.reverse t = gi l (n - 1 - t):=by
     rw [gi_of (show t < l.reverse.length by simp; omega),List.getElem_reverse,gi_of (show n - 1 - t < l.length by omega)]
     congr 1; omega
    rw [hr,h3 t (by omega)]
    split
    ·rfl
    ·congr 1; omega
   rw [this]
theorem c_descendingS {l:List Int} {n:Nat} (hn:l.length = n) (hl:n <= 16):PSpecMR Tryz.prog 110 [.rf 0 0 n] [(0,2,1)] [vi .i64 l] fun j o k c=>j = 0 /\ o = 0 /\ k = n /\ c = [vi .i64 (dsc l)]:=by
 refine impl_descending_f.mr rfl rfl ?_
 dsimp only [impl_descending_F,pcal_B,pcalp_B,pcala_B,pcond_B,pgk_B,JN_B,LP_B]
 (refine bni ?_; repeat (refine bnk ?_; (try simp (disch:=first | omega | (simp only [LN]; omega)) only [↓EC,EW,seval,↓reduceIte,↓EBD,EBE])))
 refine pcm [0] rfl ?_; (refine bni ?_; repeat (refine bnk ?_; (try simp (disch:=first | omega | (simp only [LN]; omega)) only [↓EC,EW,seval,↓reduceIte,↓EBD,EBE])))
 refine callM_d (c_SortS hn hl) ?_
 rintro _ _ ⟨rfl,m,rfl,hm,hs⟩
 have hml:m.length = n:=by rw [hm.len,hn]
 (refine bni ?_; repeat (refine bnk ?_; (try simp (disch:=first | omega | (simp only [LN]; omega)) only [↓EC,EW,seval,↓reduceIte,↓EBD,EBE])))
 refine pcm [0] rfl ?_; (refine bni ?_; repeat (refine bnk ?_; (try simp (disch:=first | omega | (simp only [LN]; omega)) only [↓EC,EW,seval,↓reduceIte,↓EBD,EBE])))
 refine callM_d (c_ReverseS hml (by omega)) ?_
 rintro _ _ ⟨rfl,rfl⟩
 have e:=dsc_of hn hm hs
 have hel:(dsc l).length = n:=by rw [dsc_len,hn]
 (refine bni ?_; repeat (refine bnk ?_; (try simp (disch:=first | omega | (simp only [LN]; omega)) only [↓EC,EW,seval,↓reduceIte,↓EBD,EBE,e])))
 exact ⟨rfl,trivial⟩
theorem lnT_all {A:List (List Int)}:∀ s,s <= A.length -> lnT A s = (A.take s).map fun l=>(l.length:Int)
 | 0,_=>rfl
 | s + 1,h=>by
  simp only [lnT]
  rw [lnT_all s (by omega),List.take_succ_eq_append_getElem (show s < A.length by omega),List.map_append,gl_of (show s < A.length by omega)]; rfl
theorem lnT_lens {p:List Int} {n:Int}:lnT (cyc p n) (cyc p n).length = lens p n:=by
 rw [lnT_all _ (Nat.le_refl _),List.take_length]; rfl
theorem c_impl_typeOfS {p:List Int} {n:Int} (hp:lo16 p) (hn:1 <= n /\ n <= 16):PSpec Tryz.prog 106 [.agg (vi .u8 p),.int .i64 n] fun v=>v = .own 2 1 (typ p n).length (vi .i64 (typ p n)):=by
 have hpl:=hp.1
 have hcl:(cyc p n).length <= 16:=by have:=(cycO_len (p:=p) n.toNat).2; unfold cyc; omega
 have htl:=typ_len (p:=p) (n:=n)
 have hty:typ p n = dsc (lnT (cyc p n) (cyc p n).length):=by rw [lnT_lens]; rfl
 refine impl_typeOf_f.f ?_
 dsimp only [impl_typeOf_F,pcal_B,pcalp_B,pcala_B,pcond_B,pgk_B,JN_B,LP_B]
 (refine bni ?_; repeat (refine bnk ?_; (try simp (disch:=first | omega | (simp only [LN]; omega)) only [↓EC,EW,seval,↓reduceIte,↓EBD,EBE])))
 refine pcd_v (c_impl_cycles hp hn) ?_
 (refine bni ?_; repeat (refine bnk ?_; (try simp (disch:=first | omega | (simp only [LN]; omega)) only [↓EC,EW,seval,↓reduceIte,↓EBD,EBE])))
 generalize cyc p n = A at *
 refine LPx_ofE (σ:=Nat) [1,1] 100000 [] (fun s=>[.own 2 1 s (vi .i64 (lnT A s)),.int .i64 s]) (fun s=>[]) (fun s=>s <= A.length) (fun s=>A.length - s) 0 (by simp [frameOk,names,lpz,sclp,scv,scvs,nrfs,nrf,FRB]) (Nat.zero_le _) ?_ ?_
 ·(refine bni ?_; repeat (refine bnk ?_; simp (disch:=first | omega | (simp only [LN]; omega)) only [↓EC,EW,seval,↓reduceIte,↓EBD,EBE,ColV_def]))
  exact ⟨fun _=>trivial,rfl⟩
 ·intro s hs
  have hls:=lnT_len (A:=A) s
  (refine bni ?_; repeat (refine bnk ?_; simp (disch:=first | omega | (simp only [LN]; omega)) only [↓EC,EW,seval,↓reduceIte,↓EBD,EBE,ColV_def,lheap_def]))
  (refine Split.mkB (fun h=>?_) (fun h=>?_) <;> (try simp only [SD] at h))
  ·(refine bni ?_; repeat (refine bnk ?_; (try simp (disch:=first | omega | (simp only [LN]; omega)) only [↓EC,EW,seval,↓reduceIte,↓EBD,EBE])))
   exact ⟨s + 1,rfl,by omega,by omega⟩
  ·obtain rfl:s = A.length:=by omega
   (refine bni ?_; repeat (refine bnk ?_; (try simp (disch:=first | omega | (simp only [LN]; omega)) only [↓EC,EW,seval,↓reduceIte,↓EBD,EBE])))
   refine pcmr [100000] rfl ?_
   (refine bni ?_; repeat (refine bnk ?_; (try simp (disch:=first | omega | (simp only [LN]; omega)) only [↓EC,EW,seval,↓reduceIte,↓EBD,EBE])))
   refine callMR_qs (c_descendingS hls (by omega)) ?_
   rintro j o k c ⟨rfl,rfl,rfl,rfl⟩ b hb
   simp at hb
   subst hb
   have hdl:(dsc (lnT A A.length)).length = A.length:=by rw [dsc_len,hls]
   (refine bni ?_; repeat (refine bnk ?_; (try simp (disch:=first | omega | (simp only [LN]; omega)) only [↓EC,EW,seval,↓reduceIte,↓EBD,EBE])))
   rw [hty,hdl]
def clB (n:Int) (w:List Int):Bool:=(typ w n).all fun a=>a == 2
theorem Pd.clB {p:List Int} {n:Int} (h:Pd p n):clB n p = true ↔ ∀ x,x < n.toNat -> fp p x ≠ x /\ fp p (fp p x) = x:=by
 rw [<-h.pairs]; simp [Sep.clB]
theorem c_impl_isClean {n:Int} {b w:List Int} (hb:lo16 b) (hw:lo16 w) (hn:1 <= n /\ n <= 16):PSpec Tryz.prog 72 [vD n b w] fun v=>v = .bool (clB n w):=by
 have hbl:=hb.1
 have hwl:=hw.1
 have htl:=typ_len (p:=w) (n:=n)
 have hcl:(cyc w n).length <= 16:=by have:=(cycO_len (p:=w) n.toNat).2; unfold cyc; omega
 refine impl_isClean_f.f ?_
 unfold vD
 dsimp only [impl_isClean_F,pcal_B,pcalp_B,pcala_B,pcond_B,pgk_B,JN_B,LP_B]
 (refine bni ?_; repeat (refine bnk ?_; (try simp (disch:=first | omega | (simp only [LN]; omega)) only [↓EC,EW,seval,↓reduceIte,↓EBD,EBE])))
 refine pcd_v (c_impl_typeOfS hw hn) ?_
 (refine bni ?_; repeat (refine bnk ?_; (try simp (disch:=first | omega | (simp only [LN]; omega)) only [↓EC,EW,seval,↓reduceIte,↓EBD,EBE])))
 refine LPx_of (σ:=Nat) 100000 [] (fun s=>[.int .i64 s]) (fun s=>[]) (fun s=>s <= (typ w n).length /\ ∀ j,j < s -> gi (typ w n) j = 2) (fun s=>(typ w n).length - s) 0 (by simp [frameOk,names,lpz,sclp,scv,scvs,nrfs,nrf,FRB]) ⟨Nat.zero_le _,fun j hj=>absurd hj (Nat.not_lt_zero j)⟩ ?_ ?_
 ·(refine bni ?_; repeat (refine bnk ?_; simp (disch:=first | omega | (simp only [LN]; omega)) only [↓EC,EW,seval,↓reduceIte,↓EBD,EBE,ColV_def]))
 ·rintro s ⟨h1,h2⟩
  (refine bni ?_; repeat (refine bnk ?_; simp (disch:=first | omega | (simp only [LN]; omega)) only [↓EC,EW,seval,↓reduceIte,↓EBD,EBE,ColV_def,lheap_def]))
  (refine Split.mkB (fun h=>?_) (fun h=>?_) <;> (try simp only [SD] at h))
  ·(refine bni ?_; repeat (refine bnk ?_; (try simp (disch:=first | omega | (simp only [LN]; omega)) only [↓EC,EW,seval,↓reduceIte,↓EBD,EBE])))
   (refine Split.mkB (fun h=>?_) (fun h=>?_) <;> (try simp only [SD] at h))
   ·(refine bni ?_; repeat (refine bnk ?_; (try simp (disch:=first | omega | (simp only [LN]; omega)) only [↓EC,EW,seval,↓reduceIte,↓EBD,EBE])))
    have:clB n w = false:=by
     cases hc:clB n w with
     | false=>rfl
     | true =>
      have hs:s < (typ w n).length:=by omega
      have:=(List.all_eq_true.1 hc) (gi (typ w n) s) (by rw [gi_of hs]; exact List.getElem_mem hs)
      exact absurd (by simpa using this) h
    rw [this]
   ·(refine bni ?_; repeat (refine bnk ?_; (try simp (disch:=first | omega | (simp only [LN]; omega)) only [↓EC,EW,seval,↓reduceIte,↓EBD,EBE])))
    refine ⟨s + 1,by simp,⟨by omega,fun j hj=>?_⟩,by omega⟩
    by_cases e:j = s
    ·subst e; exact h
    ·exact h2 j (by omega)
  ·(refine bni ?_; repeat (refine bnk ?_; (try simp (disch:=first | omega | (simp only [LN]; omega)) only [↓EC,EW,seval,↓reduceIte,↓EBD,EBE])))
   have:clB n w = true:=List.all_eq_true.2 fun a ha=>by
    obtain ⟨j,hj,rfl⟩:=List.getElem_of_mem ha
    have:=h2 j (by omega)
    rw [gi_of hj] at this
    simpa using this
   rw [this]
theorem c_spec_l07Clean {n:Int} {b w:List Int} (hz:Dz n b w):PSpec Tryz.prog 73 [vD n b w] fun v=>v = .bool (clB n w):=by
 have hb:=hz.B.lo
 have hw:=hz.W.lo
 have hbl:=hb.1
 have hwl:=hw.1
 have hn:=hz.B.hn
 refine spec_l07Clean_f.f ?_
 unfold vD
 dsimp only [spec_l07Clean_F,pcal_B,pcalp_B,pcala_B,pcond_B,pgk_B,JN_B,LP_B]
 (refine bni ?_; repeat (refine bnk ?_; (try simp (disch:=first | omega | (simp only [LN]; omega)) only [↓EC,EW,seval,↓reduceIte,↓EBD,EBE])))
 refine LPx_of (σ:=Nat) 100000 [(65,28,1)] (fun s=>[.int .i64 s]) (fun s=>[.int .i64 n :: vi .u8 (b ++ w)]) (fun s=>s <= n.toNat /\ ∀ j,j < s -> fp w j ≠ j /\ fp w (fp w j) = j) (fun s=>n.toNat - s) 0 (by simp [frameOk,names,lpz,sclp,scv,scvs,nrfs,nrf,FRB]) ⟨Nat.zero_le _,fun j hj=>absurd hj (Nat.not_lt_zero j)⟩ ?_ ?_
 ·(refine bni ?_; repeat (refine bnk ?_; simp (disch:=first | omega | (simp only [LN]; omega)) only [↓EC,EW,seval,↓reduceIte,↓EBD,EBE,ColV_def]))
 ·rintro s ⟨h1,h2⟩
  (refine bni ?_; repeat (refine bnk ?_; simp (disch:=first | omega | (simp only [LN]; omega)) only [↓EC,EW,seval,↓reduceIte,↓EBD,EBE,ColV_def,lheap_def]))
  (refine Split.mkB (fun h=>?_) (fun h=>?_) <;> (try simp only [SD] at h))
  ·have hs:s < n.toNat:=by omega
   have a1:=hw.2 s (by omega)
   have a2:=hw.2 (gi w s).toNat (by omega)
   have e1:=fp_nn hw s
   have e2:=fp_nn hw (gi w s).toNat
   have no:¬ (fp w s ≠ s /\ fp w (fp w s) = s) -> clB n w = false:=fun q=>by
    cases hc:clB n w with
    | false=>rfl
    | true=>exact absurd (hz.W.clB.1 hc s hs) q
   have e3:gi w (16 + s - b.length) = gi w s:=by congr 1; omega
   have e4:gi w (16 + (gi w s).toNat - b.length) = gi w (gi w s).toNat:=by congr 1; omega
   (refine bni ?_; repeat (refine bnk ?_; (try simp (disch:=first | omega | (simp only [LN]; omega)) only [↓EC,EW,seval,↓reduceIte,↓EBD,EBE,e3])))
   (refine Split.mkB (fun h=>?_) (fun h=>?_) <;> (try simp only [SD] at h))
   ·(refine bni ?_; repeat (refine bnk ?_; (try simp (disch:=first | omega | (simp only [LN]; omega)) only [↓EC,EW,seval,↓reduceIte,↓EBD,EBE,e3])))
    rw [no fun q=>q.1 (by omega)]
   ·(refine bni ?_; repeat (refine bnk ?_; (try simp (disch:=first | omega | (simp only [LN]; omega)) only [↓EC,EW,seval,↓reduceIte,↓EBD,EBE,e3,e4])))
    (refine Split.mkB (fun h=>?_) (fun h=>?_) <;> (try simp only [SD] at h))
    ·(refine bni ?_; repeat (refine bnk ?_; (try simp (disch:=first | omega | (simp only [LN]; omega)) only [↓EC,EW,seval,↓reduceIte,↓EBD,EBE])))
     rw [no fun q=>by have:=q.2; unfold fp at *; omega]
    ·(refine bni ?_; repeat (refine bnk ?_; (try simp (disch:=first | omega | (simp only [LN]; omega)) only [↓EC,EW,seval,↓reduceIte,↓EBD,EBE])))
     refine ⟨s + 1,by simp,⟨by omega,fun j hj=>?_⟩,by omega⟩
     by_cases e:j = s
     ·subst e; unfold fp at *; omega
     ·exact h2 j (by omega)
  ·(refine bni ?_; repeat (refine bnk ?_; (try simp (disch:=first | omega | (simp only [LN]; omega)) only [↓EC,EW,seval,↓reduceIte,↓EBD,EBE])))
   have:clB n w = true:=hz.W.clB.2 fun x hx=>h2 x (by omega)
   rw [this]
end
section
set_option maxHeartbeats 4000000
noncomputable def suR (n:Int) (b w:List Int):DCode :=
 if isDB n b w = true then (if 2 * n <= 16 then ((2 * n,suB b w n,suW n),0) else ((0,z16,z16),3)) else ((0,z16,z16),1)
theorem c_spec_SubdividedOf {n:Int} {b w:List Int} (hb:okP b) (hw:okP w) (hnl:-1 <= n /\ n <= 17):PSpec Tryz.prog 120 [vD n b w] fun v=>v = vDC (suR n b w):=by
 have hbl:=hb.1
 have hwl:=hw.1
 refine spec_SubdividedOf_f.f ?_
 unfold vD
 dsimp only [spec_SubdividedOf_F,pcal_B,pcalp_B,pcala_B,pcond_B,pgk_B,JN_B,LP_B]
 (refine bni ?_; repeat (refine bnk ?_; (try simp (disch:=first | omega | (simp only [LN]; omega)) only [↓EC,EW,seval,↓reduceIte,↓EBD,EBE])))
 refine pcd_v (c_spec_l01Is (n:=n) hb hw) ?_
 cases hd:isDB n b w with
 | false =>
  (refine bni ?_; repeat (refine bnk ?_; (try simp (disch:=first | omega | (simp only [LN]; omega)) only [↓EC,EW,seval,↓reduceIte,↓EBD,EBE])))
  unfold suR; rw [hd]; rfl
 | true =>
  have D:=(isDB_iff.1 hd).dz hb hw
  have hn:=D.B.hn
  have lb:=D.B.lt
  have lw:=D.W.lt
  (refine bni ?_; repeat (refine bnk ?_; (try simp (disch:=first | omega | (simp only [LN]; omega)) only [↓EC,EW,seval,↓reduceIte,↓EBD,EBE])))
  (refine Split.mkB (fun h=>?_) (fun h=>?_) <;> (try simp only [SD] at h))
  ·(refine bni ?_; repeat (refine bnk ?_; (try simp (disch:=first | omega | (simp only [LN]; omega)) only [↓EC,EW,seval,↓reduceIte,↓EBD,EBE])))
   unfold suR; rw [hd,if_pos rfl,if_neg (by omega)]; rfl
  ·(refine bni ?_; repeat (refine bnk ?_; (try simp (disch:=first | omega | (simp only [LN]; omega)) only [↓EC,EW,seval,↓reduceIte,↓EBD,EBE])))
   refine LPx_of (σ:=Nat) 100000 [(65,28,1),(66,28,1),(69,28,1)] (fun s=>[.int .i64 s])
    (fun s=>[.int .i64 n :: vi .u8 (b ++ w),.int .i64 0 :: vi .u8 (List.replicate 32 0),.int .i64 (2 * n) :: vi .u8 (sbB b w n.toNat s ++ sbW n.toNat s)])
    (fun s=>(s:Int) <= n) (fun s=>(n - s).toNat) 0 (by simp [frameOk,names,lpz,sclp,scv,scvs,nrfs,nrf,FRB]) (by simp only [Int.natCast_zero]; omega) ?_ ?_
   ·(refine bni ?_; repeat (refine bnk ?_; simp (disch:=first | omega | (simp only [LN]; omega)) only [↓EC,EW,seval,↓reduceIte,↓EBD,EBE,ColV_def]))
    rfl
   ·intro s hs
    have q1:=sbB_len (b:=b) (w:=w) (N:=n.toNat) s
    have q2:=sbW_len (N:=n.toNat) s
    (refine bni ?_; repeat (refine bnk ?_; simp (disch:=first | omega | (simp only [LN]; omega)) only [↓EC,EW,seval,↓reduceIte,↓EBD,EBE,ColV_def,lheap_def]))
    (refine Split.mkB (fun h=>?_) (fun h=>?_) <;> (try simp only [SD] at h))
    ·have a1:=lb s (by omega)
     have a2:=lw s (by omega)
     have e1:(n + (s:Int)).toNat = n.toNat + s:=by omega
     have e2:((n.toNat:Nat):Int) = n:=by omega
     have e6:IntKind.u8.wrap (n + gi w s) = n + gi w s:=by simp [IntKind.wrap,IntKind.signed,IntKind.bits]; omega
     (refine bni ?_; repeat (refine bnk ?_; (try simp (disch:=first | omega | (simp only [LN]; omega)) only [↓EC,EW,seval,↓reduceIte,↓EBD,EBE,e1])))
     refine ⟨s + 1,by simp,?_,by omega,by omega⟩
     rw [show 16 + s - b.length = s by omega,show 16 + s - (sbB b w n.toNat s).length = s by omega,show 16 + (n.toNat + s) - (sbB b w n.toNat s).length = n.toNat + s by omega,e6]
     simp only [sbB,sbW,e2]
    ·obtain rfl:s = n.toNat:=by omega
     (refine bni ?_; repeat (refine bnk ?_; (try simp (disch:=first | omega | (simp only [LN]; omega)) only [↓EC,EW,seval,↓reduceIte,↓EBD,EBE])))
     unfold suR; rw [hd,if_pos rfl,if_pos (by omega)]; rfl
end
section
set_option maxHeartbeats 4000000
def brR:List UInt8 -> Nat -> Option Nat
 | [],d=>some d
 | c :: s,d=>if c = 40 then brR s (d + 1) else if c = 41 then (match d with | 0=>none | d + 1=>brR s d) else none
theorem brR_cons {c:UInt8} {s:List UInt8} {d:Nat}:brR (c :: s) d = if c = 40 then brR s (d + 1) else if c = 41 then (match d with | 0=>none | d + 1=>brR s d) else none:=by cases d <;> rfl
theorem brR_app:∀ {s t:List UInt8} {d:Nat},brR (s ++ t) d = (brR s d).bind (brR t)
 | [],t,d=>rfl
 | c :: s,t,d=>by
  simp only [List.cons_append,brR]
  split
  ·exact brR_app
  ·split
   ·cases d with
    | zero=>rfl
    | succ d=>exact brR_app
   ·rfl
theorem brR_up {s:List UInt8} {d e k:Nat}:brR s d = some e -> brR s (d + k) = some (e + k):=by
 induction s generalizing d with
 | nil=>intro h; simp only [brR,Option.some.injEq] at h ⊢; omega
 | cons c s ih =>
  simp only [brR]
  split
  ·intro h; rw [show d + k + 1 = d + 1 + k by omega]; exact ih h
  ·split
   ·cases d with
    | zero=>intro h; cases h
    | succ d=>intro h; rw [show d + 1 + k = (d + k) + 1 by omega]; exact ih h
   ·intro h; cases h
structure Ws (s:List UInt8) (n:Nat):Prop where
 br:brR s 0 = some 0
 len:s.length = 2 * n
theorem Ws.app {s t:List UInt8} {n m:Nat} (h:Ws s n) (h':Ws t m):Ws (s ++ t) (n + m):=⟨by rw [brR_app,h.br]; exact h'.br,by rw [List.length_append,h.len,h'.len]; omega⟩
theorem Ws.wrap {s:List UInt8} {n:Nat} (h:Ws s n):Ws ([40] ++ s ++ [41]) (n + 1):=⟨by
 have h1:brR s 1 = some 1:=brR_up (k:=1) h.br
 rw [List.append_assoc,brR_app]
 show (brR (s ++ [41]) 1) = _
 rw [brR_app,h1]; rfl,by simp [h.len]; omega⟩
structure Ms (s:List UInt8) (i:Nat) (S L:List Int) (k d:Nat):Prop where
 br:brR (s.drop i) d = some 0
 cnt:2 * k = i + d
 ls:S.length = d + 1
 ll:L.length = d + 1
 sv:∀ j,1 <= j -> j <= d -> 0 <= gi S j /\ gi S j < k
 lv:∀ j,j <= d -> -1 <= gi L j /\ gi L j < k
 l0:0 < i -> 0 <= gi L 0
 le:i <= s.length
 di:d <= i
 s0:gi S 0 = -1
theorem drop_getDB {s:List UInt8} {i:Nat} (h:i < s.length):s.drop i = s.getD i 0 :: s.drop (i + 1):=by
 rw [List.drop_eq_getElem_cons h]; simp [List.getD,h]
section
variable {s:List UInt8} {i k d:Nat} {S L:List Int}
theorem Ms.open (h:Ms s i S L k d) (hi:i < s.length) (hc:s.getD i 0 = 40):Ms s (i + 1) (S ++ [(k:Int)]) (L.set d k ++ [-1]) (k + 1) (d + 1):=by
 have hb:=h.br
 rw [drop_getDB hi,brR_cons,if_pos hc] at hb
 have l1:=h.ls
 have l2:=h.ll
 refine ⟨hb,by have:=h.cnt; omega,by simp [l1],by simp [l2],fun j a c=>?_,fun j a=>?_,fun _=>?_,hi,by have:=h.di; omega,by rw [gi_app,if_pos (by omega)]; exact h.s0⟩
 ·rw [gi_app]
  split
  ·have:=h.sv j a (by omega); omega
  ·rw [show j - S.length = 0 by omega]; simp [gi]; omega
 ·rw [gi_app,List.length_set]
  split
  ·rw [gi_set]
   split
   ·omega
   ·have:=h.lv j (by omega); omega
  ·rw [show j - L.length = 0 by omega]; simp [gi]; omega
 ·rw [gi_app,List.length_set,if_pos (by omega),gi_set]
  split
  ·omega
  ·by_cases h0:0 < i
   ·exact h.l0 h0
   ·have:=h.di
    rename_i hh
    exact absurd ⟨by omega,by omega⟩ hh
theorem Ms.close (h:Ms s i S L k d) (hi:i < s.length) (hc:s.getD i 0 = 41):1 <= d /\ Ms s (i + 1) (S.take d) (L.take d) k (d - 1):=by
 have hb:=h.br
 rw [drop_getDB hi,brR_cons,if_neg (by rw [hc]; decide),if_pos hc] at hb
 cases d with
 | zero=>cases hb
 | succ d =>
  have l1:=h.ls
  have l2:=h.ll
  have tk:∀ {A:List Int} {j:Nat},j <= d -> gi (A.take (d + 1)) j = gi A j:=fun {A} {j} hj=>by simp [gi,List.getD,List.getElem?_take,show j < d + 1 by omega]
  refine ⟨by omega,hb,by have:=h.cnt; omega,by simp [l1],by simp [l2],fun j a c=>?_,fun j a=>?_,fun _=>?_,hi,by have:=h.di; omega,by rw [tk (by omega)]; exact h.s0⟩
  ·rw [tk (by omega)]; have:=h.sv j a (by omega); omega
  ·rw [tk (by omega)]; have:=h.lv j (by omega); omega
  ·rw [tk (by omega)]
   exact h.l0 (by have:=h.di; omega)
end
end
section
set_option maxHeartbeats 4000000
theorem c_spec_l01Near {x:Value} {l:List Int} {a z m:Int} (hm:0 <= m /\ m <= 1000) (hs:okS l a):PSpecM Tryz.prog 80 [.ptr 0 0,.int .i64 m] [(0,96,1)] [srcC x l a z] fun v c =>
  ∃ y a' z',v = .int .i64 y /\ c = [srcC x l a' z'] /\ okS l a':=by
 refine spec_l01Near_f.m rfl rfl ?_
 unfold srcC
 dsimp only [spec_l01Near_F,pcal_B,pcalp_B,pcala_B,pcond_B,pgk_B,JN_B,LP_B]
 (refine bni ?_; repeat (refine bnk ?_; (try simp (disch:=first | omega | (simp only [LN]; omega)) only [↓EC,EW,seval,↓reduceIte,↓EBD,EBE])))
 (refine pcm [0] rfl ?_; (refine bni ?_; repeat (refine bnk ?_; (try simp (disch:=first | omega | (simp only [LN]; omega)) only [↓EC,EW,seval,↓reduceIte,↓EBD,EBE]))); refine callM_d (c_spec_l01Next (by assumption) (by omega)) ?_; rintro _ _ ⟨r1,_,_,rfl,rfl,hs_,hr_⟩; (refine bni ?_; repeat (refine bnk ?_; (try simp (disch:=first | omega | (simp only [LN]; omega)) only [↓EC,EW,seval,↓reduceIte,↓EBD,EBE,srcC]))))
 (refine Split.mkB (fun h=>?_) (fun h=>?_) <;> (try simp only [SD] at h))
 ·(refine bni ?_; repeat (refine bnk ?_; (try simp (disch:=first | omega | (simp only [LN]; omega)) only [↓EC,EW,seval,↓reduceIte,↓EBD,EBE])))
  (refine pcm [0] rfl ?_; (refine bni ?_; repeat (refine bnk ?_; (try simp (disch:=first | omega | (simp only [LN]; omega)) only [↓EC,EW,seval,↓reduceIte,↓EBD,EBE]))); refine callM_d (c_spec_l01Pick (m:=[-1,m + 1,1099511627776,-4611686018427387904]) (by assumption) (by simp) (by simp)) ?_; rintro _ _ ⟨y1,_,_,hy_,rfl,rfl,hs_⟩; simp only [List.mem_cons,List.not_mem_nil,or_false] at hy_; (refine bni ?_; repeat (refine bnk ?_; (try simp (disch:=first | omega | (simp only [LN]; omega)) only [↓EC,EW,seval,↓reduceIte,↓EBD,EBE,srcC]))))
  exact ⟨_,_,_,rfl,rfl,by assumption⟩
 ·(refine bni ?_; repeat (refine bnk ?_; (try simp (disch:=first | omega | (simp only [LN]; omega)) only [↓EC,EW,seval,↓reduceIte,↓EBD,EBE])))
  (refine pcm [0] rfl ?_; (refine bni ?_; repeat (refine bnk ?_; (try simp (disch:=first | omega | (simp only [LN]; omega)) only [↓EC,EW,seval,↓reduceIte,↓EBD,EBE]))); refine callM_d (c_spec_l01Next (by assumption) (by omega)) ?_; rintro _ _ ⟨r2,_,_,rfl,rfl,hs_,hr_⟩; (refine bni ?_; repeat (refine bnk ?_; (try simp (disch:=first | omega | (simp only [LN]; omega)) only [↓EC,EW,seval,↓reduceIte,↓EBD,EBE,srcC]))))
  exact ⟨_,_,_,rfl,rfl,by assumption⟩
theorem suR_ok {n:Int} {b w:List Int} (hb:okP b) (hw:okP w) (hnl:-1 <= n /\ n <= 17):∃ m p q c,vDC (suR n b w) = .tup [vD m p q,.int .i64 c] /\ okP p /\ okP q /\ -1 <= m /\ m <= 17:=by
 have z:okP z16:=⟨by simp [z16],fun i hi=>by unfold z16; rw [gi_rep]; split <;> omega⟩
 cases hd:isDB n b w with
 | false=>exact ⟨0,z16,z16,1,by simp [suR,hd,vDC],z,z,by omega,by omega⟩
 | true =>
  have D:=(isDB_iff.1 hd).dz hb hw
  have hn:=D.B.hn
  by_cases h8:2 * n <= 16
  ·have S:Su n b w:=⟨D,by omega⟩
   exact ⟨2 * n,suB b w n,suW n,0,by simp [suR,hd,vDC,h8],S.B.1.lo.ok,S.W.1.lo.ok,by omega,by omega⟩
  ·exact ⟨0,z16,z16,3,by simp [suR,hd,vDC,h8],z,z,by omega,by omega⟩
theorem c_spec_l07Map {x:Value} {l:List Int} {a z:Int} (hs:okS l a):PSpecM Tryz.prog 105 [.ptr 0 0] [(0,96,1)] [srcC x l a z] fun v c =>
  ∃ n p q a' z',v = vD n p q /\ c = [srcC x l a' z'] /\ okS l a' /\ okP p /\ okP q /\ -1 <= n /\ n <= 17:=by
 refine spec_l07Map_f.m rfl rfl ?_
 unfold srcC
 dsimp only [spec_l07Map_F,pcal_B,pcalp_B,pcala_B,pcond_B,pgk_B,JN_B,LP_B]
 (refine bni ?_; repeat (refine bnk ?_; (try simp (disch:=first | omega | (simp only [LN]; omega)) only [↓EC,EW,seval,↓reduceIte,↓EBD,EBE])))
 refine LPx_of (σ:=Nat × Int × Int) 100000 [(0,96,1),(66,28,1)] (fun s=>[.int .i64 s.1]) (fun s=>[srcC x l s.2.1 s.2.2,.int .i64 0 :: vi .u8 (List.replicate 32 0)])
  (fun s=>okS l s.2.1 /\ s.1 <= 6) (fun s=>6 - s.1) (0,a,z) (by simp [frameOk,names,lpz,sclp,scv,scvs,nrfs,nrf,FRB]) ⟨by assumption,by simp only; omega⟩ ?_ ?_
 ·(refine bni ?_; repeat (refine bnk ?_; simp (disch:=first | omega | (simp only [LN]; omega)) only [↓EC,EW,seval,↓reduceIte,↓EBD,EBE,ColV_def,srcC]))
 ·rintro ⟨k,a,z⟩ ⟨h1,h2⟩
  simp only at h1 h2
  (refine bni ?_; repeat (refine bnk ?_; simp (disch:=first | omega | (simp only [LN]; omega)) only [↓EC,EW,seval,↓reduceIte,↓EBD,EBE,ColV_def,lheap_def,srcC]))
  (refine Split.mkB (fun h=>?_) (fun h=>?_) <;> (try simp only [SD] at h))
  ·(refine bni ?_; repeat (refine bnk ?_; (try simp (disch:=first | omega | (simp only [LN]; omega)) only [↓EC,EW,seval,↓reduceIte,↓EBD,EBE])))
   (refine pcm [0] rfl ?_; (refine bni ?_; repeat (refine bnk ?_; (try simp (disch:=first | omega | (simp only [LN]; omega)) only [↓EC,EW,seval,↓reduceIte,↓EBD,EBE]))); refine callM_d (c_spec_l01Next (by assumption) (by omega)) ?_; rintro _ _ ⟨r1,_,_,rfl,rfl,hs_,hr_⟩; (refine bni ?_; repeat (refine bnk ?_; (try simp (disch:=first | omega | (simp only [LN]; omega)) only [↓EC,EW,seval,↓reduceIte,↓EBD,EBE,srcC]))))
   obtain ⟨n,hn⟩:∃ n:Nat,1 + r1 = n:=⟨(1 + r1).toNat,by omega⟩
   have hnl:1 <= n /\ n <= 8:=by omega
   rw [hn]
   (refine pcm [0] rfl ?_; (refine bni ?_; repeat (refine bnk ?_; (try simp (disch:=first | omega | (simp only [LN]; omega)) only [↓EC,EW,seval,↓reduceIte,↓EBD,EBE]))); refine callM_d (c_spec_l01DrawPlaces (n:=2 * (n:Int)) (by omega) (by assumption)) ?_; rintro _ _ ⟨o,a2,z2,rfl,rfl,hs_,ho⟩; (refine bni ?_; repeat (refine bnk ?_; (try simp (disch:=first | omega | (simp only [LN]; omega)) only [↓EC,EW,seval,↓reduceIte,↓EBD,EBE,srcC]))))
   have hol:=ho.1
   (refine bni ?_; repeat (refine bnk ?_; (try simp (disch:=first | omega | (simp only [LN]; omega)) only [↓EC,EW,seval,↓reduceIte,↓EBD,EBE])))
   refine LPx_of (σ:=List Int × Nat) 200000 [(0,96,1),(66,28,1),(69,26,1),(70,26,1)] (fun s=>[.int .i64 (2 * (s.2:Int))]) (fun s=>[srcC x l a2 z2,.int .i64 0 :: vi .u8 (List.replicate 32 0),vi .u8 s.1,vi .u8 o])
    (fun s=>lo16 s.1 /\ s.2 <= n) (fun s=>n - s.2) (List.replicate 16 0,0) (by simp [frameOk,names,lpz,sclp,scv,scvs,nrfs,nrf,FRB]) ⟨lo16_zero,by simp only; omega⟩ ?_ ?_
   ·(refine bni ?_; repeat (refine bnk ?_; simp (disch:=first | omega | (simp only [LN]; omega)) only [↓EC,EW,seval,↓reduceIte,↓EBD,EBE,ColV_def,srcC]))
   ·rintro ⟨p,i⟩ ⟨g1,g2⟩
    simp only at g1 g2
    have hpl:=g1.1
    (refine bni ?_; repeat (refine bnk ?_; simp (disch:=first | omega | (simp only [LN]; omega)) only [↓EC,EW,seval,↓reduceIte,↓EBD,EBE,ColV_def,lheap_def,srcC]))
    (refine Split.mkB (fun h=>?_) (fun h=>?_) <;> (try simp only [SD] at h))
    ·have b1:=ho.2 (2 * i) (by omega)
     have b2:=ho.2 (2 * i + 1) (by omega)
     have e1:(2 * (i:Int)).toNat = 2 * i:=by omega
     have e2:(2 * (i:Int) + 1).toNat = 2 * i + 1:=by omega
     (refine bni ?_; repeat (refine bnk ?_; (try simp (disch:=first | omega | (simp only [LN]; omega)) only [↓EC,EW,seval,↓reduceIte,↓EBD,EBE,e1,e2])))
     exact ⟨(_,i + 1),by simp; omega,rfl,⟨lo16_set (lo16_set g1 b2) b1,by simp only; omega⟩,by simp only; omega⟩
    ·(refine bni ?_; repeat (refine bnk ?_; (try simp (disch:=first | omega | (simp only [LN]; omega)) only [↓EC,EW,seval,↓reduceIte,↓EBD,EBE])))
     (refine pcma [0] rfl ?_; (refine bni ?_; repeat (refine bnk ?_; (try simp (disch:=first | omega | (simp only [LN]; omega)) only [↓EC,EW,seval,↓reduceIte,↓EBD,EBE]))); refine callM_d (c_spec_l01Pick (m:=[3,4,2 * (n:Int)]) (by assumption) (by simp) (by simp)) ?_; rintro _ _ ⟨y1,_,_,hy_,rfl,rfl,hs_⟩; simp only [List.mem_cons,List.not_mem_nil,or_false] at hy_; (refine bni ?_; repeat (refine bnk ?_; (try simp (disch:=first | omega | (simp only [LN]; omega)) only [↓EC,EW,seval,↓reduceIte,↓EBD,EBE,srcC]))))
     (refine pcma [0] rfl ?_; (refine bni ?_; repeat (refine bnk ?_; (try simp (disch:=first | omega | (simp only [LN]; omega)) only [↓EC,EW,seval,↓reduceIte,↓EBD,EBE]))); refine callM_d (c_spec_l01Pairs (n:=2 * (n:Int)) (m:=y1) (by omega) (by omega) (by assumption)) ?_; rintro _ _ ⟨b,a4,z4,rfl,rfl,hs_,hb⟩; (refine bni ?_; repeat (refine bnk ?_; (try simp (disch:=first | omega | (simp only [LN]; omega)) only [↓EC,EW,seval,↓reduceIte,↓EBD,EBE,srcC]))))
     have hbl:=hb.1
     (refine bni ?_; repeat (refine bnk ?_; (try simp (disch:=first | omega | (simp only [LN]; omega)) only [↓EC,EW,seval,↓reduceIte,↓EBD,EBE])))
     have k1:=c_spec_l01Is (n:=2 * (n:Int)) hb.ok g1.ok
     unfold vD at k1
     refine pcd_v k1 ?_
     (refine bni ?_; repeat (refine bnk ?_; (try simp (disch:=first | omega | (simp only [LN]; omega)) only [↓EC,EW,seval,↓reduceIte,↓EBD,EBE])))
     (refine Split.mkB (fun h=>?_) (fun h=>?_) <;> (try simp only [SD] at h))
     ·(refine bni ?_; repeat (refine bnk ?_; (try simp (disch:=first | omega | (simp only [LN]; omega)) only [↓EC,EW,seval,↓reduceIte,↓EBD,EBE])))
      exact ⟨2 * n,b,p,_,_,rfl,rfl,by assumption,hb.ok,g1.ok,by omega,by omega⟩
     ·(refine bni ?_; repeat (refine bnk ?_; (try simp (disch:=first | omega | (simp only [LN]; omega)) only [↓EC,EW,seval,↓reduceIte,↓EBD,EBE])))
      exact ⟨(k + 1,a4,z4),by simp,rfl,⟨by assumption,by simp only; omega⟩,by simp only; omega⟩
  ·(refine bni ?_; repeat (refine bnk ?_; (try simp (disch:=first | omega | (simp only [LN]; omega)) only [↓EC,EW,seval,↓reduceIte,↓EBD,EBE])))
   (refine pcm [0] rfl ?_; (refine bni ?_; repeat (refine bnk ?_; (try simp (disch:=first | omega | (simp only [LN]; omega)) only [↓EC,EW,seval,↓reduceIte,↓EBD,EBE]))); refine callM_d (c_spec_l01Draw (m:=8) (by omega) (by assumption)) ?_; rintro _ _ ⟨n,p,q,a2,z2,rfl,rfl,hs_,hp,hq,hn,hnm⟩; (refine bni ?_; repeat (refine bnk ?_; (try simp (disch:=first | omega | (simp only [LN]; omega)) only [↓EC,EW,seval,↓reduceIte,↓EBD,EBE,srcC]))))
   have hpl:=hp.1
   have hql:=hq.1
   (refine bni ?_; repeat (refine bnk ?_; (try simp (disch:=first | omega | (simp only [LN]; omega)) only [↓EC,EW,seval,↓reduceIte,↓EBD,EBE,vD])))
   obtain ⟨m,p',q',c,e,op,oq,hm⟩:=suR_ok hp.ok hq.ok (n:=n) (by omega)
   have k1:=c_spec_SubdividedOf (n:=n) hp.ok hq.ok (by omega)
   rw [e] at k1
   have hpl':=op.1
   have hql':=oq.1
   unfold vD at k1
   refine pcd_v k1 ?_
   (refine bni ?_; repeat (refine bnk ?_; (try simp (disch:=first | omega | (simp only [LN]; omega)) only [↓EC,EW,seval,↓reduceIte,↓EBD,EBE])))
   exact ⟨m,p',q',_,_,rfl,rfl,by assumption,op,oq,by omega,by omega⟩
theorem c_spec_l07Spoil {x:Value} {l:List Int} {a z:Int} (hs:okS l a):PSpecM Tryz.prog 71 [.ptr 0 0] [(0,96,1)] [srcC x l a z] fun v c =>
  ∃ n p q a' z',v = vD n p q /\ c = [srcC x l a' z'] /\ okS l a' /\ okP p /\ okP q /\ -1 <= n /\ n <= 17:=by
 refine spec_l07Spoil_f.m rfl rfl ?_
 unfold srcC
 dsimp only [spec_l07Spoil_F,pcal_B,pcalp_B,pcala_B,pcond_B,pgk_B,JN_B,LP_B]
 (refine bni ?_; repeat (refine bnk ?_; (try simp (disch:=first | omega | (simp only [LN]; omega)) only [↓EC,EW,seval,↓reduceIte,↓EBD,EBE])))
 (refine pcm [0] rfl ?_; (refine bni ?_; repeat (refine bnk ?_; (try simp (disch:=first | omega | (simp only [LN]; omega)) only [↓EC,EW,seval,↓reduceIte,↓EBD,EBE]))); refine callM_d (c_spec_l01Next (by assumption) (by omega)) ?_; rintro _ _ ⟨r1,_,_,rfl,rfl,hs_,hr_⟩; (refine bni ?_; repeat (refine bnk ?_; (try simp (disch:=first | omega | (simp only [LN]; omega)) only [↓EC,EW,seval,↓reduceIte,↓EBD,EBE,srcC]))))
 (refine Split.mkB (fun h=>?_) (fun h=>?_) <;> (try simp only [SD] at h))
 ·(refine bni ?_; repeat (refine bnk ?_; (try simp (disch:=first | omega | (simp only [LN]; omega)) only [↓EC,EW,seval,↓reduceIte,↓EBD,EBE])))
  (refine pcm [0] rfl ?_; (refine bni ?_; repeat (refine bnk ?_; (try simp (disch:=first | omega | (simp only [LN]; omega)) only [↓EC,EW,seval,↓reduceIte,↓EBD,EBE]))); refine callM_d (c_spec_l01Spoil (m:=16) (by omega) (by assumption)) ?_; rintro _ _ ⟨n,p,q,a1,z1,rfl,rfl,hs_,hp,hq,hn,hnm⟩; (refine bni ?_; repeat (refine bnk ?_; (try simp (disch:=first | omega | (simp only [LN]; omega)) only [↓EC,EW,seval,↓reduceIte,↓EBD,EBE,srcC]))))
  have hpl:=hp.1
  have hql:=hq.1
  (refine bni ?_; repeat (refine bnk ?_; (try simp (disch:=first | omega | (simp only [LN]; omega)) only [↓EC,EW,seval,↓reduceIte,↓EBD,EBE,vD])))
  exact ⟨n,p,q,_,_,rfl,rfl,by assumption,hp,hq,by omega,by omega⟩
 ·(refine bni ?_; repeat (refine bnk ?_; (try simp (disch:=first | omega | (simp only [LN]; omega)) only [↓EC,EW,seval,↓reduceIte,↓EBD,EBE])))
  (refine pcm [0] rfl ?_; (refine bni ?_; repeat (refine bnk ?_; (try simp (disch:=first | omega | (simp only [LN]; omega)) only [↓EC,EW,seval,↓reduceIte,↓EBD,EBE]))); refine callM_d (c_spec_l07Map (by assumption)) ?_; rintro _ _ ⟨n,p,q,a1,z1,rfl,rfl,hs_,hp,hq,hn,hnm⟩; (refine bni ?_; repeat (refine bnk ?_; (try simp (disch:=first | omega | (simp only [LN]; omega)) only [↓EC,EW,seval,↓reduceIte,↓EBD,EBE,srcC]))))
  have hpl:=hp.1
  have hql:=hq.1
  (refine bni ?_; repeat (refine bnk ?_; (try simp (disch:=first | omega | (simp only [LN]; omega)) only [↓EC,EW,seval,↓reduceIte,↓EBD,EBE,vD])))
  exact ⟨n,p,q,_,_,rfl,rfl,by assumption,hp,hq,by omega,by omega⟩
end
section
set_option maxHeartbeats 8000000
theorem c_laws_likeIntsT {l m:List Int} (hl:l.length <= 1048576):PSpec Tryz.prog 38 [.sl l.length (vi .i64 l),.sl m.length (vi .i64 m)] fun v=>v = .bool (decide (l = m)):=by
 refine laws_likeInts_f.f ?_
 simp (disch:=first | omega | (simp only [LN]; omega)) only [↓EC,EW,seval,↓reduceIte,laws_likeInts_F]
 (refine Split.mk (fun h=>?_) (fun h=>?_) <;> (try simp only [SD] at h))
 ·(try simp (disch:=first | omega | (simp only [LN]; omega)) only [↓EC,EW,seval,↓reduceIte])
  rw [eq_comm,V.bool.injEq,decide_eq_false_iff_not]
  intro e; subst e; omega
 ·refine LP_of (σ:=Nat) 100000 [] (fun s=>[.int .i64 s]) (fun s=>[])
   (fun s=>s <= l.length /\ ∀ j,j < s -> gi l j = gi m j) (fun s=>l.length - s) 0 (by simp [frameOk,names,lpz,sclp,scv,scvs,nrfs,nrf,FRB]) ⟨Nat.zero_le _,fun j hj=>absurd hj (Nat.not_lt_zero j)⟩ ?_ ?_
  ·simp (disch:=first | omega | (simp only [LN]; omega)) only [↓EC,EW,seval,↓reduceIte,ColV_def]
  ·rintro i ⟨h1,h2⟩
   simp (disch:=first | omega | (simp only [LN]; omega)) only [↓EC,EW,seval,↓reduceIte,ColV_def,lheap_def]
   (refine Split.mk (fun h=>?_) (fun h=>?_) <;> (try simp only [SD] at h))
   ·(try simp (disch:=first | omega | (simp only [LN]; omega)) only [↓EC,EW,seval,↓reduceIte])
    (refine Split.mk (fun h=>?_) (fun h=>?_) <;> (try simp only [SD] at h))
    ·(try simp (disch:=first | omega | (simp only [LN]; omega)) only [↓EC,EW,seval,↓reduceIte])
     rw [eq_comm,V.bool.injEq,decide_eq_false_iff_not]
     intro e; subst e; exact h rfl
    ·(try simp (disch:=first | omega | (simp only [LN]; omega)) only [↓EC,EW,seval,↓reduceIte])
     refine ⟨i + 1,rfl,⟨by omega,fun j hj=>?_⟩,by omega⟩
     by_cases e:j = i
     ·subst e; exact h
     ·exact h2 j (by omega)
   ·(try simp (disch:=first | omega | (simp only [LN]; omega)) only [↓EC,EW,seval,↓reduceIte])
    rw [eq_comm,V.bool.injEq,decide_eq_true_eq]
    exact gi_ext (by omega) fun j hj=>h2 j (by omega)
theorem c_laws_bigT {x:Value} {l:List Int}:PSpec Tryz.prog 5 [.fz x l] fun v=>v = .bool (decide (4096 < (l.length:Int))):=by
 refine laws_big_f.f ?_
 simp (disch:=first | omega | (simp only [LN]; omega)) only [↓EC,EW,seval,↓reduceIte,laws_big_F]
theorem vleq32r {l:List Int} (hl:l.length = 32):vleq [.i .u8,.i .u8,.i .u8,.i .u8,.i .u8,.i .u8,.i .u8,.i .u8,.i .u8,.i .u8,.i .u8,.i .u8,.i .u8,.i .u8,.i .u8,.i .u8,.i .u8,.i .u8,.i .u8,.i .u8,.i .u8,.i .u8,.i .u8,.i .u8,.i .u8,.i .u8,.i .u8,.i .u8,.i .u8,.i .u8,.i .u8,.i .u8] (vi .u8 l) (vi .u8 l) = some true:=by
 rw [vleq32 hl hl]; simp
def Fre (k:Nat) (h:Hp):Prop:=∀ d,k <= d -> h d = .free
theorem Fre.put {k b:Nat} {h:Hp} {s:Slot} (hf:Fre k h) (hb:b < k):Fre k (hput h b s):=fun d hd=>by
 have:¬ d = b:=by omega
 simp only [hput,if_neg this]; exact hf d hd
theorem Fre.nil {k:Nat}:Fre k hnil:=fun d hd=>rfl
theorem Fre.up {k k':Nat} {h:Hp} (hf:Fre k h) (hk:k <= k'):Fre k' h:=fun d hd=>hf d (by omega)
section
variable {n k:Int} {b w:List Int}
theorem Dz.isB (h:Dz n b w):isDB n b w = true:=isDB_iff.2 h.D
end
end
section
set_option maxHeartbeats 1000000
inductive Rl (L:List (List Int)) (x:Nat):Nat -> Prop
 | refl:Rl L x x
 | step {y:Nat} {l:List Int}:Rl L x y -> l ∈ L -> Rl L x (fp l y)
structure Iv (l:List Int) (N:Nat):Prop where
 lt:∀ x,x < N -> fp l x < N
 ne:∀ x,x < N -> fp l x ≠ x
 iv:∀ x,x < N -> fp l (fp l x) = x
 nn:∀ x:Nat,0 <= gi l x
def Ivs (L:List (List Int)) (N:Nat):Prop:=∀ l ∈ L,Iv l N
section
variable {L L':List (List Int)} {N:Nat} {x y z:Nat}
theorem Rl.trans (h:Rl L x y) (h':Rl L y z):Rl L x z:=by
 induction h' with
 | refl=>exact h
 | step _ hl ih=>exact .step ih hl
theorem Rl.one {l:List Int} (hl:l ∈ L):Rl L x (fp l x):=.step .refl hl
theorem Rl.lt (h:Ivs L N) (hx:x < N) (r:Rl L x y):y < N:=by
 induction r with
 | refl=>exact hx
 | step _ hl ih=>exact (h _ hl).lt _ ih
theorem Rl.symm (h:Ivs L N) (hx:x < N) (r:Rl L x y):Rl L y x:=by
 induction r with
 | refl=>exact .refl
 | @step y l r hl ih =>
  have hy:=r.lt h hx
  have h1:Rl L (fp l y) (fp l (fp l y)):=Rl.one hl
  rw [(h l hl).iv y hy] at h1
  exact h1.trans ih
theorem Rl.sub (h:Ivs L N) (hs:∀ l ∈ L,∀ x,x < N -> Rl L' x (fp l x)) (hx:x < N) (r:Rl L x y):Rl L' x y:=by
 induction r with
 | refl=>exact .refl
 | step r hl ih=>exact ih.trans (hs _ hl _ (r.lt h hx))
def obV (L:List (List Int)) (z:Int) (s:Sr):Sr:=L.foldl (fun s l=>visit (gi l z.toNat) s) s
def obRun (L:List (List Int)):Nat -> Nat -> Sr -> Sr
 | 0,_,s=>s
 | f + 1,k,s=>if k < s.1.length then obRun L f (k + 1) (obV L (gi s.1 k) s) else s
def obI (L:List (List Int)) (i:Nat) (m:List Bool):Sr:=obRun L 33 0 ([(i:Int)],m.set i true)
def obO (L:List (List Int)):Nat -> List Bool × List Int
 | 0=>(List.replicate 32 false,[])
 | i + 1=>if gb (obO L i).1 i = true then obO L i else ((obI L i (obO L i).1).2,(obO L i).2 ++ [((obI L i (obO L i).1).1.length:Int)])
def obs (L:List (List Int)) (N:Nat):List Int:=(obO L N).2
theorem visit_pre3 {y:Int} {s:Sr} {j:Nat} (hj:j < s.1.length):gi (visit y s).1 j = gi s.1 j:=by
 unfold visit; split
 ·rfl
 ·simp only [gi_app]; rw [if_pos hj]
theorem obV_pre:∀ (L:List (List Int)) {z:Int} {s:Sr},s.1.length <= (obV L z s).1.length /\ ∀ j,j < s.1.length -> gi (obV L z s).1 j = gi s.1 j
 | [],z,s=>⟨Nat.le_refl _,fun _ _=>rfl⟩
 | l :: L,z,s=>by
  have ih:=obV_pre L (z:=z) (s:=visit (gi l z.toNat) s)
  have e:obV (l :: L) z s = obV L z (visit (gi l z.toNat) s):=rfl
  rw [e]
  exact ⟨Nat.le_trans visit_len ih.1,fun j hj=>(ih.2 j (Nat.lt_of_lt_of_le hj visit_len)).trans (visit_pre3 hj)⟩
structure Ox (L:List (List Int)) (N:Nat) (m0:List Bool) (i:Nat) (s:Sr):Prop where
 l2:s.2.length = 32
 nd:s.1.Nodup
 has:∀ y:Nat,y < 32 -> (gb s.2 y = true ↔ gb m0 y = true ∨ (y:Int) ∈ s.1)
 lt:∀ y ∈ s.1,0 <= y /\ y < N
 off:∀ y ∈ s.1,gb m0 y.toNat = false
 rl:∀ y ∈ s.1,Rl L i y.toNat
variable {m0:List Bool} {i:Nat} {s:Sr}
theorem Ox.visit (hN:N <= 32) (h:Ox L N m0 i s) {y:Nat} (hy:y < N) (ho:gb m0 y = false) (hr:Rl L i y):Ox L N m0 i (visit (y:Int) s) /\ (y:Int) ∈ (visit (y:Int) s).1 /\ ∀ z ∈ s.1,z ∈ (visit (y:Int) s).1:=by
 unfold Sep.visit
 split
 ·rename_i hv
  rw [Int.toNat_natCast] at hv
  refine ⟨h,?_,fun z hz=>hz⟩
  rcases (h.has y (by omega)).1 hv with q | q
  ·rw [ho] at q; cases q
  ·exact q
 ·rename_i hv
  rw [Int.toNat_natCast] at hv
  have hno:(y:Int) ∉ s.1:=fun hm=>hv ((h.has y (by omega)).2 (.inr hm))
  refine ⟨⟨by simp [h.l2],List.nodup_append.2 ⟨h.nd,by simp,fun a ha c hc e=>?_⟩,fun x hx=>?_,fun x hx=>?_,fun x hx=>?_,fun x hx=>?_⟩,List.mem_append_right _ (List.mem_singleton.2 rfl),fun z hz=>List.mem_append_left _ hz⟩
  ·rw [List.mem_singleton.1 hc] at e
   exact hno (e ▸ ha)
  ·simp only [List.mem_append,List.mem_singleton,Int.toNat_natCast]
   rw [gb_set,h.l2]
   by_cases e:y = x
   ·rw [if_pos ⟨e,hx⟩]
    exact ⟨fun _=>.inr (.inr (by omega)),fun _=>rfl⟩
   ·rw [if_neg fun h'=>e h'.1,h.has x hx]
    exact ⟨fun q=>q.elim .inl fun q=>.inr (.inl q),fun q=>q.elim .inl fun q=>q.elim .inr fun q=>absurd (by omega) e⟩
  ·rcases List.mem_append.1 hx with hx | hx
   ·exact h.lt x hx
   ·rw [List.mem_singleton.1 hx]; omega
  ·rcases List.mem_append.1 hx with hx | hx
   ·exact h.off x hx
   ·rw [List.mem_singleton.1 hx]; simpa using ho
  ·rcases List.mem_append.1 hx with hx | hx
   ·exact h.rl x hx
   ·rw [List.mem_singleton.1 hx]; simpa using hr
theorem Ox.obV (hN:N <= 32) (hv:Ivs L N) (hm:∀ l ∈ L,∀ x,x < N -> gb m0 x = true -> gb m0 (fp l x) = true) {z:Int}:∀ (M:List (List Int)) {s:Sr},(∀ l ∈ M,l ∈ L) -> Ox L N m0 i s -> z ∈ s.1 ->
  Ox L N m0 i (obV M z s) /\ (∀ l ∈ M,gi l z.toNat ∈ (obV M z s).1) /\ ∀ y ∈ s.1,y ∈ (obV M z s).1
 | [],s,_,h,_=>⟨h,fun l hl=>absurd hl List.not_mem_nil,fun y hy=>hy⟩
 | l :: M,s,hM,h,hz=>by
  have hl:=hM l (by simp)
  have hzl:=h.lt z hz
  have e:gi l z.toNat = (fp l z.toNat:Int):=by have:=(hv l hl).nn z.toNat; unfold fp; omega
  have hlt:=(hv l hl).lt z.toNat (by omega)
  have ho:gb m0 (fp l z.toNat) = false:=by
   cases q:gb m0 (fp l z.toNat) with
   | false=>rfl
   | true =>
    have:=hm l hl _ hlt q
    rw [(hv l hl).iv _ (by omega),h.off z hz] at this
    cases this
  obtain ⟨c1,c2,c3⟩:=h.visit hN hlt ho (.step (h.rl z hz) hl)
  rw [<-e] at c1 c2 c3
  have ih:=Ox.obV hN hv hm M (s:=Sep.visit (gi l z.toNat) s) (fun l hl=>hM l (by simp [hl])) c1 (c3 z hz)
  have e2:Sep.obV (l :: M) z s = Sep.obV M z (Sep.visit (gi l z.toNat) s):=rfl
  rw [e2]
  refine ⟨ih.1,fun k hk=>?_,fun y hy=>ih.2.2 y (c3 y hy)⟩
  rcases List.mem_cons.1 hk with rfl | hk
  ·exact ih.2.2 _ c2
  ·exact ih.2.1 k hk
theorem Ox.len (h:Ox L N m0 i s):s.1.length <= N:=by
 have:=nodup_len N (s.1.map Int.toNat) (List.pairwise_map.2 (List.Pairwise.imp_of_mem (fun {a c} ha hc hne ee=>by
  have:=h.lt a ha
  have:=h.lt c hc
  omega) h.nd)) fun z hz=>by
  obtain ⟨u,hu,rfl⟩:=List.mem_map.1 hz
  have:=h.lt u hu
  omega
 simpa using this
theorem Ox.run (hN:N <= 32) (hv:Ivs L N) (hm:∀ l ∈ L,∀ x,x < N -> gb m0 x = true -> gb m0 (fp l x) = true):∀ (f k:Nat) {s:Sr},k + f = 33 -> Ox L N m0 i s -> (∀ j,j < k -> ∀ l ∈ L,gi l (gi s.1 j).toNat ∈ s.1) -> k <= s.1.length ->
  Ox L N m0 i (obRun L f k s) /\ (∀ z ∈ (obRun L f k s).1,∀ l ∈ L,gi l z.toNat ∈ (obRun L f k s).1) /\ ∀ y ∈ s.1,y ∈ (obRun L f k s).1
 | 0,k,s,e,h,hc,hk=>by have:=h.len; omega
 | f + 1,k,s,e,h,hc,hk=>by
  simp only [obRun]
  split
  ·rename_i hlt
   have hz:gi s.1 k ∈ s.1:=by rw [gi_of hlt]; exact List.getElem_mem hlt
   obtain ⟨c1,c2,c3⟩:=Ox.obV hN hv hm L (fun l hl=>hl) h hz
   have hp:=obV_pre L (z:=gi s.1 k) (s:=s)
   have ih:=Ox.run hN hv hm f (k + 1) (s:=Sep.obV L (gi s.1 k) s) (by omega) c1 (fun j hj l hl=>by
    rw [hp.2 j (by omega)]
    by_cases q:j = k
    ·subst q; exact c2 l hl
    ·exact c3 _ (hc j (by omega) l hl)) (by omega)
   exact ⟨ih.1,ih.2.1,fun y hy=>ih.2.2 y (c3 y hy)⟩
  ·refine ⟨h,fun z hz l hl=>?_,fun y hy=>hy⟩
   obtain ⟨j,hj,rfl⟩:=List.getElem_of_mem hz
   have:=hc j (by omega) l hl
   rw [gi_of hj] at this; exact this
theorem obI_ok (hN:N <= 32) (hv:Ivs L N) (h2:m0.length = 32) (hm:∀ l ∈ L,∀ x,x < N -> gb m0 x = true -> gb m0 (fp l x) = true) (hi:i < N) (ho:gb m0 i = false) :
  Ox L N m0 i (obI L i m0) /\ ∀ y:Nat,(y:Int) ∈ (obI L i m0).1 ↔ Rl L i y:=by
 have h0:Ox L N m0 i ([(i:Int)],m0.set i true):=by
  refine ⟨by simp [h2],by simp,fun y hy=>?_,fun y hy=>?_,fun y hy=>?_,fun y hy=>?_⟩
  ·rw [gb_set,h2,List.mem_singleton]
   by_cases e:i = y
   ·rw [if_pos ⟨e,hy⟩]; exact ⟨fun _=>.inr (by omega),fun _=>rfl⟩
   ·rw [if_neg fun q=>e q.1]; exact ⟨.inl,fun q=>q.elim id fun q=>absurd (by omega) e⟩
  ·rw [List.mem_singleton.1 hy]; omega
  ·rw [List.mem_singleton.1 hy]; simpa using ho
  ·rw [List.mem_singleton.1 hy]; simpa using Rl.refl
 obtain ⟨c1,c2,c3⟩:=Ox.run hN hv hm 33 0 rfl h0 (fun j hj=>absurd hj (Nat.not_lt_zero j)) (Nat.zero_le _)
 refine ⟨c1,fun y=>⟨fun hy=>by have:=c1.rl _ hy; simpa using this,fun r=>?_⟩⟩
 induction r with
 | refl=>exact c3 _ (List.mem_singleton.2 rfl)
 | step r hl ih =>
  have:=c2 _ ih _ hl
  rw [Int.toNat_natCast] at this
  rename_i y l
  have e:gi l y = (fp l y:Int):=by have:=(hv l hl).nn y; unfold fp; omega
  rw [<-e]; exact this
open Classical in
noncomputable def szO (L:List (List Int)) (N x:Nat):Int:=smE N fun y=>if Rl L x y then 1 else 0
open Classical in
theorem len_smE {c:List Int} (hc:c.Nodup) (hl:∀ y ∈ c,0 <= y /\ y < N):smE N (fun e=>if (e:Int) ∈ c then (1:Int) else 0) = c.length:=by
 have h1:=sumT_sm (a:=List.replicate N 1) (n:=N) hc hl c.length (Nat.le_refl _)
 rw [List.take_length] at h1
 have h2:∀ s,s <= c.length -> sumT (List.replicate N 1) c s = s:=fun s=>by
  induction s with
  | zero=>intro _; rfl
  | succ s ih =>
   intro hs
   have:=hl (gi c s) (by rw [gi_of (show s < c.length by omega)]; exact List.getElem_mem _)
   simp only [sumT]
   rw [ih (by omega),gi_rep,if_pos (by omega)]; simp
 rw [h2 _ (Nat.le_refl _)] at h1
 rw [h1]
 refine smE_congr _ fun e he=>?_
 by_cases q:(e:Int) ∈ c
 ·rw [if_pos q,if_pos q,gi_rep,if_pos he]
 ·rw [if_neg q,if_neg q]
theorem szO_congr (hv:Ivs L N) (hx:x < N) (r:Rl L x y):szO L N x = szO L N y:=by
 classical
 unfold szO
 refine smE_congr _ fun z hz=>?_
 have:Rl L x z ↔ Rl L y z:=⟨fun q=>(r.symm hv hx).trans q,fun q=>r.trans q⟩
 by_cases q:Rl L x z
 ·rw [if_pos q,if_pos (this.1 q)]
 ·rw [if_neg q,if_neg fun q'=>q (this.2 q')]
structure Oo (L:List (List Int)) (N i:Nat) (o:List Bool × List Int):Prop where
 l2:o.1.length = 32
 met:∀ y,y < N -> (gb o.1 y = true ↔ ∃ j,j < i /\ Rl L j y)
 cnt:∀ c:Nat,(c:Int) * ((o.2.count (c:Int):Nat):Int) = smE N fun y=>if gb o.1 y = true /\ szO L N y = c then 1 else 0
 sz:∀ a ∈ o.2,∃ y,y < N /\ a = szO L N y
 sum:smE o.2.length (fun j=>gi o.2 j) = smE N fun y=>if gb o.1 y = true then 1 else 0
theorem obO_ok (hN:N <= 32) (hv:Ivs L N):∀ i,i <= N -> Oo L N i (obO L i)
 | 0,_=>by
  have e:∀ y,gb (List.replicate 32 false) y = false:=fun y=>by rw [gb_rep]; split <;> rfl
  refine ⟨by simp [obO],fun y hy=>?_,fun c=>?_,fun a ha=>by simp [obO] at ha,?_⟩
  ·simp only [obO,e]; simp
  ·simp only [obO,e]
   rw [smE_congr (g:=fun _=>0) _ fun y hy=>if_neg (by simp),smE_zero]; simp
  ·simp only [obO,e]
   rw [smE_congr (f:=fun y:Nat=>if false = true then (1:Int) else 0) (g:=fun _=>0) _ fun y hy=>if_neg (by simp),smE_zero]; rfl
 | i + 1,hi=>by
  have ih:=obO_ok hN hv i (by omega)
  have hm:∀ l ∈ L,∀ x,x < N -> gb (obO L i).1 x = true -> gb (obO L i).1 (fp l x) = true:=fun l hl x hx q=>by
   obtain ⟨j,hj,r⟩:=(ih.met x hx).1 q
   exact (ih.met _ ((hv l hl).lt x hx)).2 ⟨j,hj,.step r hl⟩
  simp only [obO]
  split
  ·rename_i hg
   refine ⟨ih.l2,fun y hy=>?_,ih.cnt,ih.sz,ih.sum⟩
   rw [ih.met y hy]
   constructor
   ·rintro ⟨j,a,r⟩; exact ⟨j,by omega,r⟩
   ·rintro ⟨j,a,r⟩
    by_cases q:j = i
    ·subst q
     obtain ⟨j',a',r'⟩:=(ih.met j (by omega)).1 hg
     exact ⟨j',a',r'.trans r⟩
    ·exact ⟨j,by omega,r⟩
  ·classical
   rename_i hg
   have hg':gb (obO L i).1 i = false:=by simpa using hg
   obtain ⟨c1,c2⟩:=obI_ok hN hv ih.l2 hm (show i < N by omega) hg'
   have hiN:i < N:=by omega
   have hlen:((obI L i (obO L i).1).1.length:Int) = szO L N i:=by
    rw [<-len_smE c1.nd c1.lt]
    unfold szO
    refine smE_congr _ fun e he=>?_
    by_cases q:Rl L i e
    ·rw [if_pos q,if_pos ((c2 e).2 q)]
    ·rw [if_neg q,if_neg fun q'=>q ((c2 e).1 q')]
   have hnew:∀ y,y < N -> (gb (obI L i (obO L i).1).2 y = true ↔ gb (obO L i).1 y = true ∨ Rl L i y):=fun y hy=>by rw [c1.has y (by omega),c2]
   have hdj:∀ y,y < N -> Rl L i y -> gb (obO L i).1 y = false:=fun y hy r=>by
    have:=c1.off y ((c2 y).2 r); simpa using this
   refine ⟨c1.l2,fun y hy=>?_,fun c=>?_,fun a ha=>?_,?_⟩
   ·rw [hnew y hy,ih.met y hy]
    constructor
    ·rintro (⟨j,a,r⟩ | r)
     ·exact ⟨j,by omega,r⟩
     ·exact ⟨i,by omega,r⟩
    ·rintro ⟨j,a,r⟩
     by_cases q:j = i
     ·subst q; exact .inr r
     ·exact .inl ⟨j,by omega,r⟩
   ·rw [hlen,List.count_append,Int.natCast_add,Int.mul_add,ih.cnt c]
    have e1:(smE N fun y=>if gb (obI L i (obO L i).1).2 y = true /\ szO L N y = c then (1:Int) else 0) =
      smE N fun y=>(if gb (obO L i).1 y = true /\ szO L N y = c then (1:Int) else 0) + if Rl L i y then (if szO L N i = c then (1:Int) else 0) else 0:=smE_congr _ fun y hy=>by
     by_cases q:Rl L i y
     ·have h1:=hdj y hy q
      have h2:=szO_congr hv hiN q
      rw [if_neg (show ¬ (gb (obO L i).1 y = true /\ szO L N y = c) by rw [h1]; simp),if_pos q,Int.zero_add]
      by_cases q2:szO L N i = c
      ·rw [if_pos q2,if_pos ⟨(hnew y hy).2 (.inr q),by rw [<-h2]; exact q2⟩]
      ·rw [if_neg q2,if_neg fun q'=>q2 (h2.trans q'.2)]
     ·rw [if_neg q,Int.add_zero]
      by_cases q2:gb (obO L i).1 y = true /\ szO L N y = c
      ·rw [if_pos q2,if_pos ⟨(hnew y hy).2 (.inl q2.1),q2.2⟩]
      ·rw [if_neg q2,if_neg fun q'=>q2 ⟨((hnew y hy).1 q'.1).resolve_right q,q'.2⟩]
    rw [e1,smE_add]
    congr 1
    by_cases q2:szO L N i = c
    ·rw [smE_congr (f:=fun y=>if Rl L i y then (if szO L N i = c then (1:Int) else 0) else 0) (g:=fun y=>if Rl L i y then 1 else 0) _ fun y hy=>by rw [if_pos q2]]
     show _ = szO L N i
     rw [q2]; simp
    ·rw [smE_congr (f:=fun y=>if Rl L i y then (if szO L N i = c then (1:Int) else 0) else 0) (g:=fun _=>0) _ fun y hy=>by rw [if_neg q2]; simp,smE_zero]
     rw [List.count_cons,List.count_nil,if_neg (by simpa using q2)]; simp
   ·rcases List.mem_append.1 ha with ha | ha
    ·exact ih.sz a ha
    ·rw [List.mem_singleton.1 ha]; exact ⟨i,hiN,hlen⟩
   ·have e1:(smE N fun y=>if gb (obI L i (obO L i).1).2 y = true then (1:Int) else 0) = smE N fun y=>(if gb (obO L i).1 y = true then (1:Int) else 0) + if Rl L i y then (1:Int) else 0:=smE_congr _ fun y hy=>by
     by_cases q:Rl L i y
     ·rw [hdj y hy q,if_pos ((hnew y hy).2 (.inr q)),if_pos q]; simp
     ·rw [if_neg q,Int.add_zero]
      by_cases q2:gb (obO L i).1 y = true
      ·rw [if_pos q2,if_pos ((hnew y hy).2 (.inl q2))]
      ·rw [if_neg q2,if_neg fun q'=>q2 (((hnew y hy).1 q').resolve_right q)]
    rw [e1,smE_add,<-ih.sum,List.length_append]
    simp only [List.length_cons,List.length_nil,Nat.zero_add,smE]
    rw [smE_congr (f:=fun j=>gi ((obO L i).2 ++ [((obI L i (obO L i).1).1.length:Int)]) j) (g:=fun j=>gi (obO L i).2 j) _ fun j hj=>by rw [gi_app,if_pos hj],gi_app,if_neg (Nat.lt_irrefl _),Nat.sub_self]
    have e2:gi [((obI L i (obO L i).1).1.length:Int)] 0 = ((obI L i (obO L i).1).1.length:Int):=rfl
    rw [e2,hlen]; rfl
theorem obs_met (hN:N <= 32) (hv:Ivs L N) {y:Nat} (hy:y < N):gb (obO L N).1 y = true:=((obO_ok hN hv N (Nat.le_refl _)).met y hy).2 ⟨y,hy,.refl⟩
theorem obs_sum (hN:N <= 32) (hv:Ivs L N):smE (obs L N).length (fun j=>gi (obs L N) j) = N:=by
 rw [show obs L N = (obO L N).2 from rfl,(obO_ok hN hv N (Nat.le_refl _)).sum,smE_congr (g:=fun _=>1) _ fun y hy=>if_pos (obs_met hN hv hy),smE_const]; simp
theorem obs_sz (hN:N <= 32) (hv:Ivs L N) {a:Int} (ha:a ∈ obs L N):∃ y,y < N /\ a = szO L N y:=(obO_ok hN hv N (Nat.le_refl _)).sz a ha
end
end
section
set_option maxHeartbeats 1000000
open Classical in
noncomputable def kR (R:Nat -> Nat -> Prop) (m:Nat):Int:=smE m fun i=>if ∀ j,j < i -> ¬ R j i then 1 else 0
theorem kR_all {R:Nat -> Nat -> Prop} {m:Nat} (hm:0 < m) (h:∀ i,i < m -> R 0 i):kR R m = 1:=by
 have:kR R m = smE m fun i=>if i = 0 then 1 else 0:=smE_congr _ fun i hi=>by
  by_cases e:i = 0
  ·subst e; rw [if_pos rfl,if_pos fun j hj=>absurd hj (Nat.not_lt_zero j)]
  ·rw [if_neg e,if_neg fun q=>q 0 (by omega) (h i hi)]
 rw [this,smE_one,if_pos hm]
theorem leastN {P:Nat -> Prop}:∀ i,P i -> ∃ k,k <= i /\ P k /\ ∀ j,j < k -> ¬ P j:=by
 intro i
 induction i using Nat.strongRecOn with
 | ind i ih =>
  intro h
  by_cases hj:∃ j,j < i /\ P j
  ·obtain ⟨j,h1,h2⟩:=hj
   obtain ⟨k,a,c⟩:=ih j h1 h2
   exact ⟨k,by omega,c⟩
  ·exact ⟨i,Nat.le_refl _,h,fun j hji hp=>hj ⟨j,hji,hp⟩⟩
structure Eqv (R:Nat -> Nat -> Prop) (m:Nat):Prop where
 rf:∀ i,i < m -> R i i
 sy:∀ i j,i < m -> j < m -> R i j -> R j i
 tr:∀ i j k,i < m -> j < m -> k < m -> R i j -> R j k -> R i k
section
variable {p q:List Int} {N:Nat}
theorem Rch.refl {x:Nat}:Rch p x x:=⟨0,rfl⟩
theorem Rch.lt (h:Pf p N) {x y:Nat} (hx:x < N):Rch p x y -> y < N:=fun ⟨k,hk⟩=>by rw [<-hk]; exact it_lt h hx k
theorem Pf.eqv (h:Pf p N):Eqv (Rch p) N:=⟨fun _ _=>.refl,fun _ _ hi _ q=>q.symm h hi,fun _ _ _ _ _ _ q q'=>q.trans q'⟩
end
section
variable {b w:List Int} {n:Int}
theorem Pd.cyc_kR {p:List Int} (h:Pd p n):((cyc p n).length:Int) = kR (Rch p) n.toNat:=by
 rw [cyc_cN]
 have:∀ k,k <= n.toNat -> (cN p k:Int) = kR (Rch p) k:=fun k=>by
  induction k with
  | zero=>intro _; rfl
  | succ k ih =>
   intro hk
   have e:=nwB_iff h.pf h.nn (x:=k) (by omega)
   have ih:=ih (by omega)
   unfold kR at ih ⊢
   simp only [cN,smE]
   rw [Int.natCast_add,ih]
   congr 1
   by_cases q:nwB p k = true
   ·rw [if_pos q,if_pos (e.1 q)]; rfl
   ·rw [if_neg q,if_neg fun q'=>q (e.2 q')]; rfl
 exact this n.toNat (Nat.le_refl _)
end
end
section
set_option maxHeartbeats 1000000
theorem smE_ge {f:Nat -> Int} {n:Nat} (h:∀ e,e < n -> 0 <= f e) {x:Nat} (hx:x < n):f x <= smE n f:=by
 induction n with
 | zero=>omega
 | succ n ih =>
  simp only [smE]
  have h0:=h n (by omega)
  have hs:0 <= smE n f:=by
   clear ih hx
   induction n with
   | zero=>simp [smE]
   | succ n ih=>simp only [smE]; have:=ih (fun e he=>h e (by omega)) (h n (by omega)); have:=h n (by omega); omega
  by_cases e:x = n
  ·subst e; omega
  ·have:=ih (fun e he=>h e (by omega)) (by omega); omega
theorem smE_mono {f g:Nat -> Int}:∀ {n:Nat},(∀ e,e < n -> f e <= g e) -> smE n f <= smE n g
 | 0,_=>by simp [smE]
 | n + 1,h=>by
  simp only [smE]
  have:=smE_mono (n:=n) fun e he=>h e (by omega)
  have:=h n (by omega); omega
section
variable {L:List (List Int)} {N:Nat} {x y:Nat} {l:List Int}
theorem smE_iv (h:Iv l N) {g:Nat -> Int}:smE N (fun x=>g (fp l x)) = smE N g:=by
 have e1:smE N (fun x=>g (fp l x)) = smE N fun x=>smE N fun y=>if y = fp l x then g y else 0:=smE_congr _ fun x hx=>(smE_pick (f:=g) (h.lt x hx)).symm
 rw [e1,smE_swap]
 refine smE_congr _ fun y hy=>?_
 rw [smE_congr (g:=fun x=>if x = fp l y then g y else 0) _ fun x hx=>?_,smE_one,if_pos (h.lt y hy)]
 by_cases q:y = fp l x
 ·rw [if_pos q,if_pos (by rw [q,h.iv x hx])]
 ·rw [if_neg q,if_neg fun q'=>q (by rw [q',h.iv y hy])]
theorem smE_even (h:Iv l N) {g:Nat -> Int} (hg:∀ x,x < N -> g (fp l x) = g x):smE N g = 2 * smE N (fun x=>if x < fp l x then g x else 0):=by
 have e1:smE N g = smE N fun x=>(if x < fp l x then g x else 0) + (fun y=>if y < fp l y then g y else 0) (fp l x):=smE_congr _ fun x hx=>by
  have hne:=h.ne x hx
  simp only
  rw [h.iv x hx,hg x hx]
  by_cases q:x < fp l x
  ·rw [if_pos q,if_neg (by omega)]; omega
  ·rw [if_neg q,if_pos (by omega)]; omega
 rw [e1,smE_add,smE_iv h (g:=fun y=>if y < fp l y then g y else 0)]; omega
theorem szO_pos (hx:x < N):1 <= szO L N x:=by
 classical
 have:=smE_ge (f:=fun y=>if Rl L x y then (1:Int) else 0) (n:=N) (fun e _=>by split <;> omega) hx
 rw [if_pos Rl.refl] at this
 exact this
theorem szO_le:szO L N x <= N:=by
 classical
 have:=smE_mono (f:=fun y=>if Rl L x y then (1:Int) else 0) (g:=fun _=>1) (n:=N) fun e _=>by split <;> omega
 rw [smE_const] at this
 unfold szO; omega
theorem szO_even (hv:Ivs L N) (hl:l ∈ L) (hx:x < N):szO L N x % 2 = 0:=by
 classical
 have:=smE_even (hv l hl) (g:=fun y=>if Rl L x y then (1:Int) else 0) fun y hy=>by
  have:Rl L x (fp l y) ↔ Rl L x y:=⟨fun r=>by
   have:=r.step hl
   rw [(hv l hl).iv y hy] at this; exact this,fun r=>r.step hl⟩
  by_cases q:Rl L x y
  ·rw [if_pos q,if_pos (this.2 q)]
  ·rw [if_neg q,if_neg fun q'=>q (this.1 q')]
 unfold szO; omega
structure Ob (a:Int) (N:Nat):Prop where
 pos:1 <= a
 le:a <= N
 ev:a % 2 = 0
theorem obs_ob (hN:N <= 32) (hv:Ivs L N) (hl:l ∈ L) {a:Int} (ha:a ∈ obs L N):Ob a N:=by
 obtain ⟨y,hy,rfl⟩:=obs_sz hN hv ha
 exact ⟨szO_pos hy,szO_le,szO_even hv hl hy⟩
theorem obs_len (hN:N <= 32) (hv:Ivs L N) (hl:l ∈ L):2 * (obs L N).length <= N:=by
 have h1:=obs_sum hN hv
 have h2:=smE_mono (f:=fun _=>(2:Int)) (g:=fun j=>gi (obs L N) j) (n:=(obs L N).length) fun e he=>by
  have:=obs_ob hN hv hl (a:=gi (obs L N) e) (by rw [gi_of he]; exact List.getElem_mem he)
  have h3:=this.pos; have h4:=this.ev; omega
 rw [smE_const] at h2
 omega
theorem obs_len16 (hN:N <= 32) (hv:Ivs L N) (hl:l ∈ L):(obs L N).length <= 16:=by have:=obs_len hN hv hl; omega
theorem obs_kR (hN:N <= 32) (hv:Ivs L N):((obs L N).length:Int) = kR (Rl L) N:=by
 have:∀ i,i <= N -> ((obO L i).2.length:Int) = kR (Rl L) i:=fun i=>by
  induction i with
  | zero=>intro _; rfl
  | succ i ih =>
   intro hi
   have ih:=ih (by omega)
   have hm:=(obO_ok hN hv i (by omega)).met i (by omega)
   unfold kR at ih ⊢
   simp only [obO,smE]
   by_cases q:gb (obO L i).1 i = true
   ·rw [if_pos q,if_neg fun hno=>by
     obtain ⟨j,hj,r⟩:=hm.1 q
     exact hno j hj r,<-ih]; omega
   ·rw [if_neg q,if_pos fun j hj r=>q (hm.2 ⟨j,hj,r⟩),<-ih]; simp
 exact this N (Nat.le_refl _)
theorem Rl.eqv (hv:Ivs L N):Eqv (Rl L) N:=⟨fun _ _=>.refl,fun _ _ hi _ r=>r.symm hv hi,fun _ _ _ _ _ _ r r'=>r.trans r'⟩
theorem obs_one (hN:N <= 32) (h0:0 < N) (hv:Ivs L N):(obs L N).length = 1 ↔ ∀ x,x < N -> Rl L 0 x:=by
 classical
 have hk:=obs_kR hN hv
 constructor
 ·intro h1 x hx
  refine Classical.byContradiction fun hno=>?_
  obtain ⟨k,k1,k2,k3⟩:=leastN (P:=fun i=>Rl L i x) x .refl
  have hk0:k ≠ 0:=fun e=>hno (e ▸ k2)
  have hkN:k < N:=by omega
  have hkk:∀ j,j < k -> ¬ Rl L j k:=fun j hj r=>k3 j hj (r.trans k2)
  rw [h1] at hk
  unfold kR at hk
  have e1:smE N (fun i=>if ∀ j,j < i -> ¬ Rl L j i then (1:Int) else 0) = smE N (fun i=>(if i = 0 then (if ∀ j,j < i -> ¬ Rl L j i then (1:Int) else 0) else 0) + (if i = 0 then 0 else if ∀ j,j < i -> ¬ Rl L j i then (1:Int) else 0)):=smE_congr _ fun i hi=>by
   by_cases q:i = 0
   ·rw [if_pos q,if_pos q]; omega
   ·rw [if_neg q,if_neg q]; omega
  rw [e1,smE_add,smE_pick (f:=fun i=>if ∀ j,j < i -> ¬ Rl L j i then (1:Int) else 0) h0] at hk
  have h2:=smE_ge (f:=fun i=>if i = 0 then (0:Int) else if ∀ j,j < i -> ¬ Rl L j i then (1:Int) else 0) (n:=N) (fun e _=>by split; omega; split <;> omega) hkN
  simp only [if_neg hk0,if_pos hkk] at h2
  rw [if_pos fun j hj=>absurd hj (Nat.not_lt_zero j)] at hk
  omega
 ·intro h
  have:=kR_all (R:=Rl L) h0 h
  omega
end
theorem kR_map {R S:Nat -> Nat -> Prop} {m k:Nat} (E:Eqv R m) (E':Eqv S k) (δ:Nat -> Nat) (σ:Nat -> Nat) (hδ:∀ i,i < m -> δ i < k) (hσ:∀ j,j < k -> σ j < m /\ δ (σ j) = j) (h:∀ i j,i < m -> j < m -> (R i j ↔ S (δ i) (δ j))):kR R m = kR S k:=by
 classical
 -- the least of a class below is the image of one class above
 have lead:∀ {T:Nat -> Nat -> Prop} {q:Nat},Eqv T q -> ∀ i,i < q -> smE q (fun j=>if (∀ a,a < j -> ¬ T a j) /\ T j i then (1:Int) else 0) = 1:=fun {T q} ET i hi=>by
  obtain ⟨c,c1,c2,c3⟩:=leastN (P:=fun j=>T j i) i (ET.rf i hi)
  have hc:c < q:=by omega
  rw [smE_congr (g:=fun j=>if j = c then 1 else 0) _ fun j hj=>?_,smE_one,if_pos hc]
  by_cases e:j = c
  ·subst e
   rw [if_pos rfl,if_pos ⟨fun a ha r=>c3 a ha (ET.tr _ _ _ (by omega) hc hi r c2),c2⟩]
  ·rw [if_neg e,if_neg]
   rintro ⟨hl,r⟩
   rcases Nat.lt_or_gt_of_ne e with q | q
   ·exact c3 j q r
   ·exact hl c q (ET.tr _ _ _ hc hi hj c2 (ET.sy _ _ hj hi r))
 unfold kR
 have a1:smE m (fun i=>if ∀ a,a < i -> ¬ R a i then (1:Int) else 0) = smE m fun i=>smE k fun j=>if (∀ a,a < i -> ¬ R a i) /\ ((∀ a,a < j -> ¬ S a j) /\ S j (δ i)) then (1:Int) else 0:=smE_congr _ fun i hi=>by
  by_cases q:∀ a,a < i -> ¬ R a i
  ·rw [if_pos q]
   refine (lead E' (δ i) (hδ i hi)).symm.trans (smE_congr _ fun j hj=>?_)
   by_cases q2:(∀ a,a < j -> ¬ S a j) /\ S j (δ i)
   ·rw [if_pos q2,if_pos ⟨q,q2⟩]
   ·rw [if_neg q2,if_neg fun z=>q2 z.2]
  ·rw [if_neg q,smE_congr (g:=fun _=>0) _ fun j hj=>if_neg fun z=>q z.1,smE_zero]
 rw [a1,smE_swap]
 refine smE_congr _ fun j hj=>?_
 by_cases q:∀ a,a < j -> ¬ S a j
 ·rw [if_pos q]
  refine Eq.trans (smE_congr _ fun i hi=>?_) (lead E (σ j) (hσ j hj).1)
  have hR:R i (σ j) ↔ S j (δ i):=by
   rw [h i _ hi (hσ j hj).1,(hσ j hj).2]
   exact ⟨fun r=>E'.sy _ _ (hδ i hi) hj r,fun r=>E'.sy _ _ hj (hδ i hi) r⟩
  by_cases q2:(∀ a,a < i -> ¬ R a i) /\ R i (σ j)
  ·rw [if_pos q2,if_pos ⟨q2.1,q,hR.1 q2.2⟩]
  ·rw [if_neg q2,if_neg fun z=>q2 ⟨z.1,hR.2 z.2.2⟩]
 ·rw [if_neg q,smE_congr (g:=fun _=>0) _ fun i hi=>if_neg fun z=>q z.2.1,smE_zero]
def fl32 (l:List Int):Prop:=l.length = 32 /\ ∀ i,i < 32 -> 0 <= gi l i /\ gi l i < 32
def fo32 (l:List Int):Prop:=l.length = 32 /\ ∀ i,i < 32 -> 0 <= gi l i /\ gi l i <= 255
theorem fl32.ok {l:List Int} (h:fl32 l):fo32 l:=⟨h.1,fun i hi=>by have:=h.2 i hi; omega⟩
def PrAt (l:List Int) (n:Int) (x:Nat):Prop:=((x:Int) < n -> 0 <= gi l x /\ gi l x < n /\ gi l x ≠ x /\ gi l (gi l x).toNat = x) /\ (n <= x -> gi l x = 0)
def Prs (l:List Int) (n:Int):Prop:=∀ x,x < 32 -> PrAt l n x
noncomputable def prB (l:List Int) (n:Int):Bool:=by classical exact decide (Prs l n)
theorem prB_iff {l:List Int} {n:Int}:prB l n = true ↔ Prs l n:=by simp [prB]
theorem prB_no {l:List Int} {n:Int} {x:Nat} (hx:x < 32) (h:¬ PrAt l n x):prB l n = false:=by
 cases q:prB l n with
 | false=>rfl
 | true=>exact absurd (prB_iff.1 q x hx) h
theorem Prs.iv {l:List Int} {n:Int} (h:Prs l n) (hl:fo32 l) (hn:n <= 32):Iv l n.toNat:=by
 have nn:∀ x:Nat,0 <= gi l x:=fun x=>by
  by_cases hx:x < 32
  ·exact (hl.2 x hx).1
  ·rw [gi_over (by have:=hl.1; omega)]; omega
 refine ⟨fun x hx=>?_,fun x hx=>?_,fun x hx=>?_,nn⟩
 ·have:=(h x (by omega)).1 (by omega); unfold fp; omega
 ·have:=(h x (by omega)).1 (by omega); unfold fp; omega
 ·have:=(h x (by omega)).1 (by omega); unfold fp; omega
theorem Prs.lo {l:List Int} {n:Int} (h:Prs l n) (hl:fo32 l) (hn:1 <= n /\ n <= 32):fl32 l:=⟨hl.1,fun i hi=>by
 by_cases q:(i:Int) < n
 ·have:=(h i hi).1 q; omega
 ·have:=(h i hi).2 (by omega); omega⟩
theorem Prs.of {l:List Int} {n:Int} (h:Iv l n.toNat) (h0:∀ x:Nat,n <= x -> gi l x = 0) (hn:0 <= n):Prs l n:=fun x hx=>⟨fun hxn=>by
 have a1:=h.lt x (by omega)
 have a2:=h.ne x (by omega)
 have a3:=h.iv x (by omega)
 have a4:=h.nn x
 have a5:=h.nn (gi l x).toNat
 unfold fp at *; omega,fun hxn=>h0 x hxn⟩
def bo (C S:List Int) (n:Int):List Int:=(List.range 32).map fun x:Nat=>if (x:Int) < n then gi S (gi C x).toNat else 0
theorem bo_len {C S:List Int} {n:Int}:(bo C S n).length = 32:=by simp [bo]
theorem bo_at {C S:List Int} {n:Int} {x:Nat} (hx:x < 32):gi (bo C S n) x = if (x:Int) < n then gi S (gi C x).toNat else 0:=by
 rw [gi_of (by rw [bo_len]; exact hx)]; simp [bo]
structure Fl (n:Int) (C T S:List Int):Prop where
 hn:4 <= n /\ n <= 32
 h4:n % 4 = 0
 pC:Prs C n
 pT:Prs T n
 pS:Prs S n
 co:∀ x:Nat,(x:Int) < n -> gi S (gi C x).toNat = gi C (gi S x).toNat
 ne:∀ x:Nat,(x:Int) < n -> gi S (gi C x).toNat ≠ x
 on:(obs [C,T,S] n.toNat).length = 1
noncomputable def flB (n:Int) (C T S:List Int):Bool:=by classical exact decide (Fl n C T S)
theorem flB_iff {n:Int} {C T S:List Int}:flB n C T S = true ↔ Fl n C T S:=by simp [flB]
theorem flB_no {n:Int} {C T S:List Int} (h:¬ Fl n C T S):flB n C T S = false:=by simp [flB,h]
theorem flB_yes {n:Int} {C T S:List Int} (h:Fl n C T S):flB n C T S = true:=flB_iff.2 h
section
variable {n:Int} {C T S:List Int}
structure Fls (n:Int) (C T S:List Int):Prop where
 F:Fl n C T S
 c:fl32 C
 t:fl32 T
 s:fl32 S
 iC:Iv C n.toNat
 iT:Iv T n.toNat
 iS:Iv S n.toNat
theorem Fl.fo (h:Fl n C T S) (hC:fo32 C) (hT:fo32 T) (hS:fo32 S):Fls n C T S :=
 ⟨h,h.pC.lo hC (by have:=h.hn; omega),h.pT.lo hT (by have:=h.hn; omega),h.pS.lo hS (by have:=h.hn; omega),h.pC.iv hC h.hn.2,h.pT.iv hT h.hn.2,h.pS.iv hS h.hn.2⟩
theorem ivs3 {a b c:List Int} {N:Nat} (ha:Iv a N) (hb:Iv b N) (hc:Iv c N):Ivs [a,b,c] N:=fun l hl=>by
 simp only [List.mem_cons,List.not_mem_nil,or_false] at hl
 rcases hl with rfl | rfl | rfl <;> assumption
theorem ivs2 {a b:List Int} {N:Nat} (ha:Iv a N) (hb:Iv b N):Ivs [a,b] N:=fun l hl=>by
 simp only [List.mem_cons,List.not_mem_nil,or_false] at hl
 rcases hl with rfl | rfl <;> assumption
theorem Fls.h32 (h:Fls n C T S):n.toNat <= 32 /\ 4 <= n.toNat /\ ((n.toNat:Nat):Int) = n /\ n.toNat % 4 = 0:=by have:=h.F.hn; have:=h.F.h4; omega
theorem Fls.all (h:Fls n C T S):∀ x,x < n.toNat -> Rl [C,T,S] 0 x:=(obs_one h.h32.1 (by have:=h.h32; omega) (ivs3 h.iC h.iT h.iS)).1 h.F.on
theorem Fls.co (h:Fls n C T S) {x:Nat} (hx:x < n.toNat):fp S (fp C x) = fp C (fp S x):=by have:=h.F.co x (by have:=h.h32; omega); unfold fp; omega
theorem Fls.ne (h:Fls n C T S) {x:Nat} (hx:x < n.toNat):fp S (fp C x) ≠ x:=by
 have:=h.F.ne x (by have:=h.h32; omega)
 have:=h.iS.nn (gi C x).toNat
 unfold fp; omega
theorem Fls.bo_fp (h:Fls n C T S) {x:Nat} (hx:x < n.toNat):fp (bo C S n) x = fp S (fp C x):=by
 have:=h.h32
 unfold fp; rw [bo_at (by omega),if_pos (by omega)]
theorem Fls.bo_out (h:Fls n C T S) {x:Nat} (hx:n <= x):gi (bo C S n) x = 0:=by
 by_cases q:x < 32
 ·rw [bo_at q,if_neg (by omega)]
 ·rw [gi_over (by rw [bo_len]; omega)]
theorem Fls.iP (h:Fls n C T S):Iv (bo C S n) n.toNat:=by
 have h32:=h.h32
 refine ⟨fun x hx=>?_,fun x hx=>?_,fun x hx=>?_,fun x=>?_⟩
 ·rw [h.bo_fp hx]; exact h.iS.lt _ (h.iC.lt x hx)
 ·rw [h.bo_fp hx]; exact h.ne hx
 ·have h1:=h.iC.lt x hx
  have h2:=h.iS.lt _ h1
  rw [h.bo_fp hx,h.bo_fp h2,h.co h2,h.iS.iv _ h1,h.iC.iv x hx]
 ·by_cases q:(x:Int) < n
  ·rw [bo_at (by omega),if_pos q]; exact h.iS.nn _
  ·rw [h.bo_out (by omega)]; omega
theorem Fls.pP (h:Fls n C T S):Prs (bo C S n) n:=Prs.of h.iP (fun x hx=>h.bo_out hx) (by have:=h.F.hn; omega)
theorem Fls.lP (h:Fls n C T S):fl32 (bo C S n):=by
 refine ⟨bo_len,fun i hi=>?_⟩
 by_cases q:(i:Int) < n
 ·have:=h.F.hn
  have:=h.pP i hi
  have:=this.1 q
  omega
 ·rw [h.bo_out (by omega)]; omega
theorem Fls.re (h:Fls n C T S) {C' S':List Int} (pC:Prs C' n) (pS:Prs S' n) (lC:fl32 C') (lS:fl32 S') (co:∀ x,x < n.toNat -> fp S' (fp C' x) = fp C' (fp S' x)) (ne:∀ x,x < n.toNat -> fp S' (fp C' x) ≠ x)
  (hC:∀ x,x < n.toNat -> Rl [C',T,S'] x (fp C x)) (hS:∀ x,x < n.toNat -> Rl [C',T,S'] x (fp S x)):Fls n C' T S':=by
 have h32:=h.h32
 have iC:=pC.iv lC.ok h.F.hn.2
 have iS:=pS.iv lS.ok h.F.hn.2
 refine Fl.fo ⟨h.F.hn,h.F.h4,pC,h.F.pT,pS,fun x hx=>?_,fun x hx=>?_,?_⟩ lC.ok h.t.ok lS.ok
 ·have:=co x (by omega)
  have:=iS.nn (gi C' x).toNat
  have:=iC.nn (gi S' x).toNat
  unfold fp at *; omega
 ·have:=ne x (by omega)
  unfold fp at *; omega
 ·refine (obs_one h32.1 (by omega) (ivs3 iC h.iT iS)).2 fun x hx=>Rl.sub (ivs3 h.iC h.iT h.iS) (fun l hl x hx=>?_) (by omega) (h.all x hx)
  simp only [List.mem_cons,List.not_mem_nil,or_false] at hl
  rcases hl with rfl | rfl | rfl
  ·exact hC x hx
  ·exact Rl.one (by simp)
  ·exact hS x hx
theorem ext32 {l m:List Int} (hl:l.length = 32) (hm:m.length = 32) (h:∀ i,i < 32 -> gi l i = gi m i):l = m:=gi_ext (by omega) fun i hi=>h i (by omega)
theorem prs_ext {l m:List Int} (hl:fl32 l) (hm:fl32 m) (pl:Prs l n) (pm:Prs m n) (h:∀ x,x < n.toNat -> fp l x = fp m x):l = m:=ext32 hl.1 hm.1 fun i hi=>by
 by_cases q:(i:Int) < n
 ·have:=h i (by omega)
  have:=(pl i hi).1 q
  have:=(pm i hi).1 q
  unfold fp at *; omega
 ·rw [(pl i hi).2 (by omega),(pm i hi).2 (by omega)]
def tuC (C S:List Int) (n k:Int):List Int:=if k = 0 then C else if k = 1 then S else if k = 2 then bo C S n else if k = 3 then S else if k = 4 then C else bo C S n
def tuS (C S:List Int) (n k:Int):List Int:=if k = 0 then S else if k = 1 then C else if k = 2 then S else if k = 3 then bo C S n else if k = 4 then bo C S n else C
theorem Fls.turn (h:Fls n C T S) {k:Int} (hk:0 <= k /\ k <= 5):Fls n (tuC C S n k) T (tuS C S n k):=by
 have P1:∀ {x:Nat},x < n.toNat -> fp (bo C S n) (fp C x) = fp S x:=fun {x} hx=>by
  rw [h.bo_fp (h.iC.lt x hx),h.iC.iv x hx]
 have P2:∀ {x:Nat},x < n.toNat -> fp C (fp (bo C S n) x) = fp S x:=fun {x} hx=>by
  rw [h.bo_fp hx,h.co hx,h.iC.iv _ (h.iS.lt x hx)]
 have P3:∀ {x:Nat},x < n.toNat -> fp S (fp (bo C S n) x) = fp C x:=fun {x} hx=>by
  rw [h.bo_fp hx,h.iS.iv _ (h.iC.lt x hx)]
 have P4:∀ {x:Nat},x < n.toNat -> fp (bo C S n) (fp S x) = fp C x:=fun {x} hx=>by
  have e:=h.co (h.iS.lt x hx)
  rw [h.bo_fp (h.iS.lt x hx),e,h.iS.iv x hx]
 have:k = 0 ∨ k = 1 ∨ k = 2 ∨ k = 3 ∨ k = 4 ∨ k = 5:=by omega
 rcases this with rfl | rfl | rfl | rfl | rfl | rfl
 ·exact h
 ·exact h.re h.F.pS h.F.pC h.s h.c (fun x hx=>(h.co hx).symm) (fun x hx e=>h.ne hx ((h.co hx).trans e)) (fun x hx=>Rl.one (by simp [tuS])) (fun x hx=>Rl.one (by simp [tuC]))
 ·refine h.re (C':=bo C S n) (S':=S) h.pP h.F.pS h.lP h.s (fun x hx=>(P3 hx).trans (P4 hx).symm) (fun x hx=>by rw [P3 hx]; exact h.iC.ne x hx) (fun x hx=>?_) (fun x hx=>Rl.one (by simp))
  rw [<-P3 hx]
  exact (Rl.one (by simp)).step (by simp)
 ·refine h.re (C':=S) (S':=bo C S n) h.F.pS h.pP h.s h.lP (fun x hx=>(P4 hx).trans (P3 hx).symm) (fun x hx=>by rw [P4 hx]; exact h.iC.ne x hx) (fun x hx=>?_) (fun x hx=>Rl.one (by simp))
  rw [<-P3 hx]
  exact (Rl.one (by simp)).step (by simp)
 ·refine h.re (C':=C) (S':=bo C S n) h.F.pC h.pP h.c h.lP (fun x hx=>(P1 hx).trans (P2 hx).symm) (fun x hx=>by rw [P1 hx]; exact h.iS.ne x hx) (fun x hx=>Rl.one (by simp)) (fun x hx=>?_)
  rw [<-P2 hx]
  exact (Rl.one (by simp)).step (by simp)
 ·refine h.re (C':=bo C S n) (S':=C) h.pP h.F.pC h.lP h.c (fun x hx=>(P2 hx).trans (P1 hx).symm) (fun x hx=>by rw [P2 hx]; exact h.iS.ne x hx) (fun x hx=>Rl.one (by simp)) (fun x hx=>?_)
  rw [<-P2 hx]
  exact (Rl.one (by simp)).step (by simp)
theorem Fls.bobo (h:Fls n C T S):bo (bo C S n) S n = C:=prs_ext (n:=n) (h.turn (k:=2) (by omega)).lP h.c (h.turn (k:=2) (by omega)).pP h.F.pC fun x hx=>by
 have h2:=(h.turn (k:=2) (by omega)).bo_fp hx
 simp only [tuC,tuS] at h2
 have e:fp (bo (bo C S n) S n) x = fp S (fp (bo C S n) x):=h2
 rw [e,h.bo_fp hx,h.iS.iv _ (h.iC.lt x hx)]
theorem Fls.four (h:Fls n C T S):4 * ((obs [C,S] n.toNat).length:Int) = n:=by
 classical
 obtain ⟨h32,h4,hn,_⟩:=h.h32
 have hv:=ivs2 h.iC h.iS
 have key:∀ x,x < n.toNat -> szO [C,S] n.toNat x = 4:=fun x hx=>by
  have a1:=h.iC.lt x hx
  have a2:=h.iS.lt x hx
  have a3:=h.iS.lt _ a1
  have n1:=h.iC.ne x hx
  have n2:=h.iS.ne x hx
  have n3:=h.ne hx
  have n4:=h.iS.ne _ a1
  have n5:fp C x ≠ fp S x:=fun e=>n3 (by rw [e,h.iS.iv x hx])
  have n6:fp S (fp C x) ≠ fp S x:=fun e=>by
   have:=h.iS.iv _ a1
   rw [e,h.iS.iv x hx] at this
   exact n1 this.symm
  have nd:([(x:Int),(fp C x:Int),(fp S x:Int),(fp S (fp C x):Int)]:List Int).Nodup:=by
   simp only [List.nodup_cons,List.mem_cons,List.not_mem_nil,or_false,not_or,List.nodup_nil,and_true,not_false_eq_true]
   refine ⟨⟨?_,?_,?_⟩,⟨?_,?_⟩,?_⟩ <;> omega
  have:=len_smE (N:=n.toNat) nd fun y hy=>by
   simp only [List.mem_cons,List.not_mem_nil,or_false] at hy
   rcases hy with rfl | rfl | rfl | rfl <;> omega
  have e4:(([(x:Int),(fp C x:Int),(fp S x:Int),(fp S (fp C x):Int)]:List Int).length:Int) = 4:=rfl
  rw [e4] at this
  rw [<-this]
  unfold szO
  refine smE_congr _ fun y hy=>?_
  have hr:Rl [C,S] x y ↔ (y:Int) ∈ ([(x:Int),(fp C x:Int),(fp S x:Int),(fp S (fp C x):Int)]:List Int):=by
   constructor
   ·intro r
    induction r with
    | refl=>simp
    | @step z l r hl ih =>
     have ih:=ih (r.lt hv hx)
     simp only [List.mem_cons,List.not_mem_nil,or_false,Int.natCast_inj] at ih hl ⊢
     rcases hl with rfl | rfl
     ·rcases ih with rfl | rfl | rfl | rfl
      ·exact .inr (.inl rfl)
      ·exact .inl (h.iC.iv _ hx)
      ·exact .inr (.inr (.inr (h.co hx).symm))
      ·refine .inr (.inr (.inl ?_))
       rw [h.co hx,h.iC.iv _ a2]
     ·rcases ih with rfl | rfl | rfl | rfl
      ·exact .inr (.inr (.inl rfl))
      ·exact .inr (.inr (.inr rfl))
      ·exact .inl (h.iS.iv _ hx)
      ·exact .inr (.inl (h.iS.iv _ a1))
   ·intro hm
    simp only [List.mem_cons,List.not_mem_nil,or_false,Int.natCast_inj] at hm
    rcases hm with rfl | rfl | rfl | rfl
    ·exact .refl
    ·exact Rl.one (by simp)
    ·exact Rl.one (by simp)
    ·exact (Rl.one (show C ∈ [C,S] by simp)).step (by simp)
  by_cases q:Rl [C,S] x y
  ·rw [if_pos q,if_pos (hr.1 q)]
  ·rw [if_neg q,if_neg fun q'=>q (hr.2 q')]
 have h1:=obs_sum h32 hv
 rw [smE_congr (g:=fun _=>4) _ fun j hj=>by
  obtain ⟨y,hy,e⟩:=obs_sz h32 hv (a:=gi (obs [C,S] n.toNat) j) (by rw [gi_of hj]; exact List.getElem_mem hj)
  rw [e,key y hy],smE_const] at h1
 omega
def hlf (l:List Int):List Int:=l.map fun a=>a.tdiv 2
def deg (T X:List Int) (n:Int):List Int:=dsc (hlf (obs [T,X] n.toNat))
theorem hlf_len {l:List Int}:(hlf l).length = l.length:=by simp [hlf]
theorem deg_len {X:List Int}:(deg T X n).length = (obs [T,X] n.toNat).length:=by unfold deg; rw [dsc_len,hlf_len]
theorem sum_perm {l m:List Int} (h:l.Perm m):l.sum = m.sum:=by
 induction h with
 | nil=>rfl
 | cons a _ ih=>simp only [List.sum_cons,ih]
 | swap a c l=>simp only [List.sum_cons]; omega
 | trans _ _ ih ih'=>exact ih.trans ih'
theorem smE_sum:∀ {l:List Int},smE l.length (fun j=>gi l j) = l.sum
 | []=>rfl
 | a :: l=>by
  have e:=smE_app (f:=fun j=>gi (a :: l) j) (a:=1) l.length
  rw [List.length_cons,Nat.add_comm l.length 1,e,List.sum_cons]
  have e2:smE l.length (fun x=>gi (a :: l) (1 + x)) = smE l.length fun j=>gi l j:=smE_congr _ fun j hj=>by rw [Nat.add_comm]; rfl
  rw [e2,smE_sum]
  simp [smE,gi]
theorem deg_sum {X:List Int} (hN:n.toNat <= 32) (hn:0 <= n) (iT:Iv T n.toNat) (iX:Iv X n.toNat):2 * (deg T X n).sum = n:=by
 have hv:=ivs2 iT iX
 have h1:=obs_sum hN hv
 rw [smE_sum] at h1
 have e1:(deg T X n).sum = (hlf (obs [T,X] n.toNat)).sum:=sum_perm (dsc_perm _)
 have e2:2 * (hlf (obs [T,X] n.toNat)).sum = (obs [T,X] n.toNat).sum:=by
  have hob:=fun a ha=>obs_ob hN hv (l:=T) (by simp) (a:=a) ha
  generalize obs [T,X] n.toNat = o at *
  clear h1 e1
  induction o with
  | nil=>rfl
  | cons a o ih =>
   have:=hob a (by simp)
   have h1:=this.pos
   have h2:=this.ev
   have h3:=Int.mul_tdiv_add_tmod a 2
   have h4:a.tmod 2 = a % 2:=Int.tmod_eq_emod_of_nonneg (by omega)
   have ih:=ih fun a ha=>hob a (by simp [ha])
   simp only [hlf,List.map_cons,List.sum_cons] at ih ⊢
   omega
 rw [e1,e2,h1]; omega
end
end
section
set_option maxHeartbeats 4000000
section
variable {L:List (List Int)} {N:Nat}
theorem flat32:∀ {L:List (List Int)},(∀ l ∈ L,l.length = 32) -> L.flatten.length = L.length * 32
 | [],_=>rfl
 | l :: L,h=>by
  have:=flat32 (L:=L) fun l hl=>h l (by simp [hl])
  simp only [List.flatten_cons,List.length_append,List.length_cons,h l (by simp)]; omega
theorem flat_row:∀ {L:List (List Int)} {j:Nat},(∀ l ∈ L,l.length = 32) -> j < L.length -> (L.flatten.drop (j * 32)).take 32 = gl L j
 | l :: L,0,h,_=>by
  have e:=h l (by simp)
  simp only [Nat.zero_mul,List.drop_zero,List.flatten_cons]
  show List.take 32 (l ++ L.flatten) = l
  rw [<-e,List.take_left]
 | l :: L,j + 1,h,hj=>by
  have e:=h l (by simp)
  have ih:=flat_row (L:=L) (j:=j) (fun l hl=>h l (by simp [hl])) (by simpa using hj)
  simp only [List.flatten_cons]
  rw [show (j + 1) * 32 = l.length + j * 32 by omega,<-List.drop_drop,List.drop_left,ih]; rfl
theorem obV_take {z:Int} {s:Sr} {j:Nat} (hj:j < L.length):obV (L.take (j + 1)) z s = visit (gi (gl L j) z.toNat) (obV (L.take j) z s):=by
 unfold obV
 rw [List.take_succ_eq_append_getElem hj,List.foldl_append,gl_of hj]; rfl
theorem obO_yes {i:Nat} (h:gb (obO L i).1 i = true):obO L (i + 1) = obO L i:=by simp only [obO,if_pos h]
theorem obO_no {i:Nat} (h:gb (obO L i).1 i = false):obO L (i + 1) = ((obI L i (obO L i).1).2,(obO L i).2 ++ [((obI L i (obO L i).1).1.length:Int)]):=by
 simp only [obO]; rw [if_neg (by rw [h]; decide)]
theorem obO_len (hN:N <= 32) (hv:Ivs L N) {i:Nat} (hi:i <= N):(obO L i).1.length = 32:=(obO_ok hN hv i hi).l2
theorem obO_le:∀ i,(obO L i).2.length <= i
 | 0=>by simp [obO]
 | i + 1=>by
  have:=obO_le i
  simp only [obO]
  split
  ·omega
  ·simp; omega
theorem obO_cl (hN:N <= 32) (hv:Ivs L N) {i:Nat} (hi:i <= N):∀ l ∈ L,∀ x,x < N -> gb (obO L i).1 x = true -> gb (obO L i).1 (fp l x) = true:=fun l hl x hx q=>by
 have ih:=obO_ok hN hv i hi
 obtain ⟨j,hj,r⟩:=(ih.met x hx).1 q
 exact (ih.met _ ((hv l hl).lt x hx)).2 ⟨j,hj,.step r hl⟩
theorem Ox.start {m0:List Bool} {i:Nat} (h2:m0.length = 32) (hN:N <= 32) (hi:i < N) (ho:gb m0 i = false):Ox L N m0 i ([(i:Int)],m0.set i true):=by
 refine ⟨by simp [h2],by simp,fun y hy=>?_,fun y hy=>?_,fun y hy=>?_,fun y hy=>?_⟩
 ·rw [gb_set,h2,List.mem_singleton]
  by_cases e:i = y
  ·rw [if_pos ⟨e,hy⟩]; exact ⟨fun _=>.inr (by omega),fun _=>rfl⟩
  ·rw [if_neg fun q=>e q.1]; exact ⟨.inl,fun q=>q.elim id fun q=>absurd (by omega) e⟩
 ·rw [List.mem_singleton.1 hy]; omega
 ·rw [List.mem_singleton.1 hy]; simpa using ho
 ·rw [List.mem_singleton.1 hy]; simpa using Rl.refl
structure Om (L:List (List Int)) (N:Nat) (m0:List Bool) (i:Nat) (s0:Sr) (k j:Nat) (s:Sr):Prop where
 jl:j <= L.length
 e:s = obV (L.take j) (gi s0.1 k) s0
 ox:Ox L N m0 i s
theorem Om.step {m0:List Bool} {i k j:Nat} {s0 s:Sr} (hN:N <= 32) (hv:Ivs L N) (hm:∀ l ∈ L,∀ x,x < N -> gb m0 x = true -> gb m0 (fp l x) = true) (h0:Ox L N m0 i s0) (hk:k < s0.1.length) (h:Om L N m0 i s0 k j s) (hj:j < L.length) :
  Om L N m0 i s0 k (j + 1) (visit (gi (gl L j) (gi s0.1 k).toNat) s):=by
 have hz:gi s0.1 k ∈ s0.1:=by rw [gi_of hk]; exact List.getElem_mem hk
 refine ⟨hj,by rw [obV_take hj,<-h.e],?_⟩
 have:=(Ox.obV hN hv hm (z:=gi s0.1 k) (L.take (j + 1)) (s:=s0) (fun l hl=>List.mem_of_mem_take hl) h0 hz).1
 rw [obV_take hj,<-h.e] at this
 exact this
theorem Om.pre {m0:List Bool} {i k j:Nat} {s0 s:Sr} (h:Om L N m0 i s0 k j s):s0.1.length <= s.1.length /\ ∀ a,a < s0.1.length -> gi s.1 a = gi s0.1 a:=by rw [h.e]; exact obV_pre _
theorem row_lt {z:Int} {j:Nat} (hv:Ivs L N) (hj:j < L.length) (hz:0 <= z /\ z < N):0 <= gi (gl L j) z.toNat /\ gi (gl L j) z.toNat < N:=by
 have:=(hv _ (gl_mem hj)).lt z.toNat (by omega)
 have:=(hv _ (gl_mem hj)).nn z.toNat
 unfold fp at *; omega
end
theorem c_impl_orbits {L:List (List Int)} {N:Nat} {n:Int} (hn:(N:Int) = n) (hN:N <= 32) (hv:Ivs L N) (hl:∀ l ∈ L,l.length = 32) (hL:L.length <= 16):PSpec Tryz.prog 76 [.int .i64 n,.sl L.length (vi .u8 L.flatten)] fun v=>v = .own 2 1 (obs L N).length (vi .i64 (obs L N)):=by
 subst hn
 have hfl:=flat32 hl
 refine impl_orbits_f.f ?_
 dsimp only [impl_orbits_F,pcal_B,pcalp_B,pcala_B,pcond_B,pgk_B,JN_B,LP_B]
 (refine bni ?_; repeat (refine bnk ?_; (try simp (disch:=first | omega | (simp only [LN]; omega)) only [↓EC,EW,seval,↓reduceIte,↓EBD,EBE])))
 refine LPx_ofE (σ:=Nat) [1,1] 100000 [(69,112,1)] (fun i=>[.own 2 1 (obO L i).2.length (vi .i64 (obO L i).2),.int .i64 i]) (fun i=>[vb (obO L i).1])
  (fun i=>i <= N) (fun i=>N - i) 0 (by simp [frameOk,names,lpz,sclp,scv,scvs,nrfs,nrf,FRB]) (Nat.zero_le _) ?_ ?_
 ·(refine bni ?_; repeat (refine bnk ?_; simp (disch:=first | omega | (simp only [LN]; omega)) only [↓EC,EW,seval,↓reduceIte,↓EBD,EBE,ColV_def]))
  exact ⟨fun _=>trivial,rfl,rfl⟩
 ·rintro i hi
  have h1:=obO_len hN hv hi
  have h1':=obO_le (L:=L) i
  (refine bni ?_; repeat (refine bnk ?_; simp (disch:=first | omega | (simp only [LN]; omega)) only [↓EC,EW,seval,↓reduceIte,↓EBD,EBE,ColV_def,lheap_def]))
  (refine Split.mkB (fun h=>?_) (fun h=>?_) <;> (try simp only [SD] at h))
  ·refine JNx_un ?_
   (refine bni ?_; repeat (refine bnk ?_; (try simp (disch:=first | omega | (simp only [LN]; omega)) only [↓EC,EW,seval,↓reduceIte,↓EBD,EBE])))
   (refine Split.mkB (fun h=>?_) (fun h=>?_) <;> (try simp only [SD] at h))
   ·(refine bni ?_; repeat (refine bnk ?_; (try simp (disch:=first | omega | (simp only [LN]; omega)) only [↓EC,EW,seval,↓reduceIte,↓EBD,EBE])))
    exact ⟨i + 1,by rw [obO_yes h]; rfl,by rw [obO_yes h],by omega,by omega⟩
   ·have hg:gb (obO L i).1 i = false:=by simpa using h
    have hm:=obO_cl hN hv hi
    have hst:=Ox.start (L:=L) h1 hN (show i < N by omega) hg
    have hi8:IntKind.u8.wrap (i:Int) = i:=by simp [IntKind.wrap,IntKind.signed,IntKind.bits]; omega
    (refine bni ?_; repeat (refine bnk ?_; (try simp (disch:=first | omega | (simp only [LN]; omega)) only [↓EC,EW,seval,↓reduceIte,↓EBD,EBE,hi8])))
    refine LPx_of (σ:=Sr × Nat) 200000 [(69,112,1),(100000,2,1)] (fun s=>[.own 5 1 s.1.1.length (vi .u8 s.1.1),.int .i64 s.2])
     (fun s=>[vb s.1.2,vi .i64 (obO L i).2]) (fun s=>Ox L N (obO L i).1 i s.1 /\ s.2 <= s.1.1.length /\ obRun L (33 - s.2) s.2 s.1 = obI L i (obO L i).1) (fun s=>33 - s.2) (([(i:Int)],(obO L i).1.set i true),0) (by simp [frameOk,names,lpz,sclp,scv,scvs,nrfs,nrf,FRB]) ⟨hst,Nat.zero_le _,rfl⟩ ?_ ?_
    ·(refine bni ?_; repeat (refine bnk ?_; simp (disch:=first | omega | (simp only [LN]; omega)) only [↓EC,EW,seval,↓reduceIte,↓EBD,EBE,ColV_def]))
     rfl
    ·rintro ⟨s,k⟩ ⟨g1,g2,g3⟩
     simp only at g1 g2 g3
     have gl2:=g1.l2
     have gle:=g1.len
     (refine bni ?_; repeat (refine bnk ?_; simp (disch:=first | omega | (simp only [LN]; omega)) only [↓EC,EW,seval,↓reduceIte,↓EBD,EBE,ColV_def,lheap_def]))
     (refine Split.mkB (fun h=>?_) (fun h=>?_) <;> (try simp only [SD] at h))
     ·have hk:k < s.1.length:=by omega
      have hz:=g1.lt (gi s.1 k) (by rw [gi_of hk]; exact List.getElem_mem hk)
      (refine bni ?_; repeat (refine bnk ?_; (try simp (disch:=first | omega | (simp only [LN]; omega)) only [↓EC,EW,seval,↓reduceIte,↓EBD,EBE])))
      refine LPx_of (σ:=Sr × Nat) 300000 [(69,112,1),(100000,2,1)] (fun s=>[.own 5 1 s.1.1.length (vi .u8 s.1.1),.int .i64 s.2])
       (fun s=>[vb s.1.2,vi .i64 (obO L i).2]) (fun t=>Om L N (obO L i).1 i s k t.2 t.1) (fun t=>L.length - t.2) (s,0) (by simp [frameOk,names,lpz,sclp,scv,scvs,nrfs,nrf,FRB]) ⟨Nat.zero_le _,rfl,g1⟩ ?_ ?_
      ·(refine bni ?_; repeat (refine bnk ?_; simp (disch:=first | omega | (simp only [LN]; omega)) only [↓EC,EW,seval,↓reduceIte,↓EBD,EBE,ColV_def]))
      ·rintro ⟨t,j⟩ hO
       simp only at hO
       have e1:=hO.ox.l2
       have e2:=hO.ox.len
       obtain ⟨p1,p2⟩:=hO.pre
       have hjl:=hO.jl
       (refine bni ?_; repeat (refine bnk ?_; simp (disch:=first | omega | (simp only [LN]; omega)) only [↓EC,EW,seval,↓reduceIte,↓EBD,EBE,ColV_def,lheap_def]))
       (refine Split.mkB (fun h=>?_) (fun h=>?_) <;> (try simp only [SD] at h))
       ·refine JNx_un ?_
        have hj:j < L.length:=by omega
        have hrow:=flat_row hl hj
        have hrl:=hl _ (gl_mem hj)
        have hst2:=hO.step hN hv hm g1 hk hj
        have hlt:=row_lt hv hj hz
        have hpk:=p2 k hk
        (refine bni ?_; repeat (refine bnk ?_; (try simp (disch:=first | omega | (simp only [LN]; omega)) only [↓EC,EW,seval,↓reduceIte,↓EBD,EBE,hrow,hpk])))
        (refine Split.mkB (fun h=>?_) (fun h=>?_) <;> (try simp only [SD] at h))
        ·(refine bni ?_; repeat (refine bnk ?_; (try simp (disch:=first | omega | (simp only [LN]; omega)) only [↓EC,EW,seval,↓reduceIte,↓EBD,EBE])))
         exact ⟨(visit (gi (gl L j) (gi s.1 k).toNat) t,j + 1),by rw [visit_no h]; simp,by rw [visit_no h],hst2,by simp only; omega⟩
        ·(refine bni ?_; repeat (refine bnk ?_; (try simp (disch:=first | omega | (simp only [LN]; omega)) only [↓EC,EW,seval,↓reduceIte,↓EBD,EBE])))
         exact ⟨(visit (gi (gl L j) (gi s.1 k).toNat) t,j + 1),by rw [visit_yes h]; simp,by rw [visit_yes h],hst2,by simp only; omega⟩
       ·(refine bni ?_; repeat (refine bnk ?_; (try simp (disch:=first | omega | (simp only [LN]; omega)) only [↓EC,EW,seval,↓reduceIte,↓EBD,EBE])))
        have ej:j = L.length:=by omega
        have et:t = obV L (gi s.1 k) s:=by have:=hO.e; rw [ej,List.take_length] at this; exact this
        refine ⟨(t,k + 1),by simp,rfl,⟨hO.ox,by simp only; omega,?_⟩,by simp only; omega⟩
        rw [show 33 - k = 33 - (k + 1) + 1 by omega] at g3
        simp only [obRun,if_pos hk] at g3
        simp only
        rw [et]; exact g3
     ·(refine bni ?_; repeat (refine bnk ?_; (try simp (disch:=first | omega | (simp only [LN]; omega)) only [↓EC,EW,seval,↓reduceIte,↓EBD,EBE])))
      have es:s = obI L i (obO L i).1:=by
       rw [<-g3,show 33 - k = 32 - k + 1 by omega]
       simp only [obRun]
       rw [if_neg (by omega)]
      exact ⟨i + 1,by rw [obO_no hg,<-es]; simp,by rw [obO_no hg,<-es],by omega,by omega⟩
  ·(refine bni ?_; repeat (refine bnk ?_; (try simp (disch:=first | omega | (simp only [LN]; omega)) only [↓EC,EW,seval,↓reduceIte,↓EBD,EBE])))
   have:i = N:=by omega
   subst this
   rfl
end
end Go.Proofs.YtbjbpmicnmjbfaaGreat.Sep

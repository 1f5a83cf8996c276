/- Texts put together: SepZ, SepLaw, SepRec, Form, C20, C21, C24, C25, C29, C23, C26, C27, C22. -/
import Derived.Test.YtbjbpmicnmjbfaaGreatK2
import Derived.Carry
import Derived.Handed
import Derived.OpenShut
import Derived.ProofKit
import Derived.Test.YtbjbpmicnmjbfaaGreatProg
import Derived.KernelRfl
namespace Go.Proofs.YtbjbpmicnmjbfaaGreat.Sep
open Go.RowKit
set_option linter.unusedVariables false
set_option linter.unusedSimpArgs false
set_option maxRecDepth 20000
section
set_option linter.constructorNameAsVariable false
def vi (k:IntKind) (l:List Int):List V:=l.map (V.int k)
def vb (l:List Bool):List V:=l.map V.bool
def vt (l:List (List UInt8)):List V:=l.map V.str
def gi (l:List Int) (i:Nat):Int:=l.getD i 0
def gb (l:List Bool) (i:Nat):Bool:=l.getD i false
def gt (l:List (List UInt8)) (i:Nat):List UInt8:=l.getD i []
section
variable {k:IntKind} {l m:List Int} {p q:List Bool} {s u:List (List UInt8)} {i j n:Nat} {v:Int} {w:Bool} {x:List UInt8} {r:List V} {h:Hp}
theorem vi_len:(vi k l).length = l.length:=by simp [vi]
theorem vb_len:(vb p).length = p.length:=by simp [vb]
theorem vt_len:(vt s).length = s.length:=by simp [vt]
theorem vi_get (hi:i < l.length):(vi k l).getD i .und = .int k (gi l i):=by simp [vi,gi,List.getD,hi]
theorem vb_get (hi:i < p.length):(vb p).getD i .und = .bool (gb p i):=by simp [vb,gb,List.getD,hi]
theorem vt_get (hi:i < s.length):(vt s).getD i .und = .str (gt s i):=by simp [vt,gt,List.getD,hi]
theorem vi_set:(vi k l).set i (.int k v) = vi k (l.set i v):=by simp [vi,List.map_set]
theorem vb_set:(vb p).set i (.bool w) = vb (p.set i w):=by simp [vb,List.map_set]
theorem vt_set:(vt s).set i (.str x) = vt (s.set i x):=by simp [vt,List.map_set]
theorem vi_take:(vi k l).take n = vi k (l.take n):=by simp [vi,List.map_take]
theorem vb_take:(vb p).take n = vb (p.take n):=by simp [vb,List.map_take]
theorem vt_take:(vt s).take n = vt (s.take n):=by simp [vt,List.map_take]
theorem vi_drop:(vi k l).drop n = vi k (l.drop n):=by simp [vi,List.map_drop]
theorem vb_drop:(vb p).drop n = vb (p.drop n):=by simp [vb,List.map_drop]
theorem vt_drop:(vt s).drop n = vt (s.drop n):=by simp [vt,List.map_drop]
theorem vi_app:vi k l ++ vi k m = vi k (l ++ m):=by simp [vi]
theorem vi_one:vi k l ++ [.int k v] = vi k (l ++ [v]):=by simp [vi]
theorem vb_one:vb p ++ [.bool w] = vb (p ++ [w]):=by simp [vb]
theorem vt_one:vt s ++ [.str x] = vt (s ++ [x]):=by simp [vt]
theorem vi_all:(vi k l).all cell1 = true:=by simp [vi,cell1]
theorem vb_all:(vb p).all cell1 = true:=by simp [vb,cell1]
theorem vt_all:(vt s).all cell1 = true:=by simp [vt,cell1]
theorem vi_own:noOwn (vi k l) = true:=by simp [noOwn,vi,plain1]
theorem vb_own:noOwn (vb p) = true:=by simp [noOwn,vb,plain1]
theorem vt_own:noOwn (vt s) = true:=by simp [noOwn,vt,plain1]
theorem vi_vws:vws (vi k l) = vi k l:=by induction l <;> simp_all [vi,vws,vw]
theorem vb_vws:vws (vb p) = vb p:=by induction p <;> simp_all [vb,vws,vw]
theorem vt_vws:vws (vt s) = vt s:=by induction s <;> simp_all [vt,vws,vw]
theorem vi_dvs:dvs h (vi k l) = vi k l:=by induction l <;> simp_all [vi,dvs,dv]
theorem vb_dvs:dvs h (vb p) = vb p:=by induction p <;> simp_all [vb,dvs,dv]
theorem vt_dvs:dvs h (vt s) = vt s:=by induction s <;> simp_all [vt,dvs,dv]
theorem vi_clo:clos (vi k l) = true:=by induction l <;> simp_all [vi,clos,clo]
theorem vb_clo:clos (vb p) = true:=by induction p <;> simp_all [vb,clos,clo]
theorem vt_clo:clos (vt s) = true:=by induction s <;> simp_all [vt,clos,clo]
theorem vi_nrf:nrfs (vi k l) = true:=by induction l <;> simp_all [vi,nrfs,nrf]
theorem vb_nrf:nrfs (vb p) = true:=by induction p <;> simp_all [vb,nrfs,nrf]
theorem vt_nrf:nrfs (vt s) = true:=by induction s <;> simp_all [vt,nrfs,nrf]
theorem vi_fin:folds (fin (n + 1)) h (vi k l) = some (vi k l,h):=folds_still (by simp [vi,still])
theorem vb_fin:folds (fin (n + 1)) h (vb p) = some (vb p,h):=folds_still (by simp [vb,still])
theorem vt_fin:folds (fin (n + 1)) h (vt s) = some (vt s,h):=folds_still (by simp [vt,still])
theorem vi_rep:(List.replicate n [V.int k v]).flatten = vi k (List.replicate n v):=by
 induction n <;> simp_all [vi,List.replicate_succ]
theorem vb_rep:(List.replicate n [V.bool w]).flatten = vb (List.replicate n w):=by
 induction n <;> simp_all [vb,List.replicate_succ]
theorem vt_rep:(List.replicate n [V.str x]).flatten = vt (List.replicate n x):=by
 induction n <;> simp_all [vt,List.replicate_succ]
theorem ofVals_ints:ofVals (List.replicate n (.int k v)) = vi k (List.replicate n v):=by
 induction n <;> simp_all [vi,List.replicate_succ,ofVals,ofVal]
theorem ofVals_bools:ofVals (List.replicate n (.bool w)) = vb (List.replicate n w):=by
 induction n <;> simp_all [vb,List.replicate_succ,ofVals,ofVal]
theorem ofVals_strs {a:ByteArray}:ofVals (List.replicate n (.string a)) = vt (List.replicate n a.data.toList):=by
 induction n <;> simp_all [vt,List.replicate_succ,ofVals,ofVal]
theorem ofVals_app {a b:List Value}:ofVals (a ++ b) = ofVals a ++ ofVals b:=by
 induction a <;> simp_all [ofVals]
theorem vi_nil:vi k [] = []:=rfl
theorem vb_nil:vb [] = []:=rfl
theorem vt_nil:vt [] = []:=rfl
theorem vi_cons:V.int k v :: vi k l = vi k (v :: l):=rfl
theorem setV_vi (hn:l.length ≠ 1):setV r i (vi k l) = r.take i ++ vi k l ++ r.drop (i + l.length):=by
 rw [setV_more (by simpa [vi] using hn),vi_len]
theorem setV_vb (hn:p.length ≠ 1):setV r i (vb p) = r.take i ++ vb p ++ r.drop (i + p.length):=by
 rw [setV_more (by simpa [vb] using hn),vb_len]
theorem take_vi (hn:l.length = n):(vi k l ++ r).take n = vi k l:=List.take_left' (by simp [vi,hn])
theorem take_vb (hn:p.length = n):(vb p ++ r).take n = vb p:=List.take_left' (by simp [vb,hn])
theorem drop_vi (hn:l.length = n):(vi k l ++ r).drop n = r:=List.drop_left' (by simp [vi,hn])
theorem drop_vb (hn:p.length = n):(vb p ++ r).drop n = r:=List.drop_left' (by simp [vb,hn])
theorem gi_of (hi:i < l.length):gi l i = l[i]:=by simp [gi,List.getD,hi]
theorem gb_of (hi:i < p.length):gb p i = p[i]:=by simp [gb,List.getD,hi]
theorem gi_set:gi (l.set i v) j = if i = j /\ j < l.length then v else gi l j:=by
 simp only [gi,List.getD,List.getElem?_set]
 by_cases h1:i = j
 ·subst h1; by_cases h2:i < l.length <;> simp [h2]
 ·simp [h1]
theorem gb_set:gb (p.set i w) j = if i = j /\ j < p.length then w else gb p j:=by
 simp only [gb,List.getD,List.getElem?_set]
 by_cases h1:i = j
 ·subst h1; by_cases h2:i < p.length <;> simp [h2]
 ·simp [h1]
theorem gi_over (hi:l.length <= i):gi l i = 0:=by simp [gi,List.getD,List.getElem?_eq_none hi]
theorem gi_rep {c:Int}:gi (List.replicate n c) i = if i < n then c else 0:=by
 simp only [gi,List.getD,List.getElem?_replicate]; split <;> rfl
theorem gb_rep {c:Bool}:gb (List.replicate n c) i = if i < n then c else false:=by
 simp only [gb,List.getD,List.getElem?_replicate]; split <;> rfl
theorem gi_app:gi (l ++ m) i = if i < l.length then gi l i else gi m (i - l.length):=by
 simp only [gi,List.getD,List.getElem?_append]; split <;> rfl
end
theorem Rq_of' {c X:Prop} (hc:c):Rq c X = X:=Rq_of hc
theorem le_maxLen {n:Nat} (h:n <= 9223372036854775807):n <= maxLen:=by unfold maxLen; omega
theorem nat_le_maxLen {n:Int} (h:n <= 9223372036854775807):(n <= (maxLen:Int)) = True:=eq_true (by unfold maxLen; omega)
theorem le_maxLen' {n:Nat} (h:n <= 9223372036854775807):(n <= maxLen) = True:=eq_true (le_maxLen h)
set_option linter.defProp false in
set_option maxRecDepth 10000 in
def EL:=And.intro @setV_vi <|
 And.intro @setV_vb <|
 And.intro @List.length_cons.{0} <|
 And.intro @List.length_nil.{0} <|
 And.intro @List.length_append.{0} <|
 And.intro @List.length_take.{0} <|
 And.intro @List.length_drop.{0} <|
 And.intro @List.length_set.{0} <|
 And.intro @List.length_replicate.{0} <|
 And.intro @List.getD_cons_zero.{0} <|
 And.intro @List.getD_cons_succ.{0} <|
 And.intro @List.all_cons.{0} <|
 And.intro @List.all_nil.{0} <|
 And.intro @List.drop_zero.{0} <|
 And.intro @List.drop_succ_cons.{0} <|
 And.intro @List.take_zero.{0} <|
 And.intro @List.take_succ_cons.{0} <|
 And.intro @List.take_nil.{0} <|
 And.intro @List.drop_nil.{0} <|
 And.intro @List.cons_append.{0} <|
 And.intro @List.nil_append.{0} <|
 And.intro @List.append_nil.{0} <|
 And.intro @List.set_cons_zero.{0} <|
 And.intro @List.set_cons_succ.{0} <|
 And.intro @List.getElem?_cons_zero.{0} <|
 And.intro @List.getElem?_cons_succ.{0} <|
 And.intro @List.map_cons.{0,0} <|
 And.intro @List.map_nil.{0,0} <|
 And.intro @List.take_length.{0} <|
 And.intro @List.replicate_zero.{0} <|
 And.intro @List.flatten_nil.{0} <|
 And.intro @Bool.and_true <|
 And.intro @Bool.true_and <|
 And.intro @Bool.and_false <|
 And.intro @Bool.false_and <|
 And.intro @Bool.not_true <|
 And.intro @Bool.not_false <|
 And.intro @and_true <|
 And.intro @true_and <|
 And.intro @and_false <|
 And.intro @false_and <|
 And.intro @or_true <|
 And.intro @true_or <|
 And.intro @or_false <|
 And.intro @false_or <|
 And.intro @not_true_eq_false <|
 And.intro @not_false_eq_true <|
 And.intro @ne_eq.{1} <|
 And.intro @Nat.zero_add <|
 And.intro @Nat.add_zero <|
 And.intro @Nat.zero_mul <|
 And.intro @Nat.mul_one <|
 And.intro @Nat.one_mul <|
 And.intro @Nat.mul_zero <|
 And.intro @Nat.sub_zero <|
 And.intro @Nat.le_refl <|
 And.intro @Nat.zero_le <|
 And.intro @Nat.min_self <|
 And.intro @Int.toNat_natCast <|
 And.intro @Int.toNat_zero <|
 And.intro @Option.map_some.{0,0} <|
 And.intro @Option.map_none.{0,0} <|
 And.intro @decide_true <|
 And.intro @decide_false <|
 And.intro @Nat.sub_self <|
 And.intro @vi_len <|
 And.intro @vb_len <|
 And.intro @vt_len <|
 And.intro @vi_get <|
 And.intro @vb_get <|
 And.intro @vt_get <|
 And.intro @vi_set <|
 And.intro @vb_set <|
 And.intro @vt_set <|
 And.intro @vi_take <|
 And.intro @vb_take <|
 And.intro @vt_take <|
 And.intro @vi_drop <|
 And.intro @vb_drop <|
 And.intro @vt_drop <|
 And.intro @vi_app <|
 And.intro @vi_one <|
 And.intro @vb_one <|
 And.intro @vt_one <|
 And.intro @vi_all <|
 And.intro @vb_all <|
 And.intro @vt_all <|
 And.intro @vi_own <|
 And.intro @vb_own <|
 And.intro @vt_own <|
 And.intro @vi_vws <|
 And.intro @vb_vws <|
 And.intro @vt_vws <|
 And.intro @vi_dvs <|
 And.intro @vb_dvs <|
 And.intro @vt_dvs <|
 And.intro @vi_clo <|
 And.intro @vb_clo <|
 And.intro @vt_clo <|
 And.intro @vi_nrf <|
 And.intro @vb_nrf <|
 And.intro @vt_nrf <|
 And.intro @vi_fin <|
 And.intro @vb_fin <|
 And.intro @vt_fin <|
 And.intro @vi_rep <|
 And.intro @vb_rep <|
 And.intro @vt_rep <|
 And.intro @ofVals_ints <|
 And.intro @ofVals_bools <|
 And.intro @ofVals_strs <|
 And.intro @ofVals_app <|
 And.intro @vi_nil <|
 And.intro @vb_nil <|
 And.intro @vt_nil <|
 And.intro @take_vi <|
 And.intro @take_vb <|
 And.intro @drop_vi <|
 And.intro @drop_vb <|
 And.intro @le_maxLen' @nat_le_maxLen
set_option linter.defProp false in
def ER:=And.intro @Rq_of' <| And.intro @wrap_i64_of <| And.intro @wrap_u8_of <| And.intro @wrap_u64_of @wrap_i32_of
end
section
open Go.RowKit Go.ChangeShapes Go.WideShapes
set_option linter.constructorNameAsVariable false
inductive Ty where
 | bool
 | int (k:IntKind)
 | str
 | sl (e:Ty)
 | st (l:List Ty)
 | arr (n:Nat) (e:Ty)
mutual
def Ty.sz:Ty -> Nat
 | .st l=>Ty.szs l
 | .arr n e=>n * e.sz
 | .bool=>1
 | .int _=>1
 | .str=>1
 | .sl _=>1
def Ty.szs:List Ty -> Nat
 | []=>0
 | t :: l=>t.sz + Ty.szs l
end
def tyFs (P:Program) (sub:TypeId -> Option Ty):List Field -> Nat -> Option (List Ty)
 | [],_=>some []
 | f :: r,off=>if f.offset = off then (sub f.type).bind fun T=>if P.cellsOf f.type = T.sz then (tyFs P sub r (off + T.sz)).map (T :: ·) else none else none
def tyOf (P:Program):Nat -> TypeId -> Option Ty
 | 0,_=>none
 | d + 1,t=>match P.underlying t with
  | some .bool=>some .bool
  | some (.int k)=>some (.int k)
  | some .string=>some .str
  | some (.slice e)=>(tyOf P d e).bind fun T=>if P.cellsOf e = T.sz /\ 0 < T.sz then some (.sl T) else none
  | some (.struct fs)=>(tyFs P (tyOf P d) fs.toList 0).bind fun l=>if P.cellsOf t = Ty.szs l then some (.st l) else none
  | some (.array n e)=>(tyOf P d e).bind fun T=>if P.cellsOf e = T.sz /\ P.cellsOf t = n * T.sz then some (.arr n T) else none
  | _=>none
mutual
def Ty.fits:Ty -> List V -> Prop
 | .bool,l=>∃ b,l = [.bool b]
 | .int k,l=>∃ n,l = [.int k n] /\ k.min <= n /\ n <= k.max
 | .str,l=>∃ s,l = [.str s] /\ s.length <= maxLen
 | .sl e,l=>∃ xs:List (List V),l = [.sl xs.length xs.flatten] /\ xs.length <= maxLen /\ ∀ x ∈ xs,e.fits x
 | .st ts,l=>Ty.fitss ts l
 | .arr n e,l=>∃ xs:List (List V),xs.length = n /\ l = xs.flatten /\ ∀ x ∈ xs,e.fits x
def Ty.fitss:List Ty -> List V -> Prop
 | [],l=>l = []
 | t :: ts,l=>∃ a b,l = a ++ b /\ t.fits a /\ Ty.fitss ts b
end
def Ty.isAgg:Ty -> Bool
 | .st _ | .arr .. => true
 | _=>false
def Ty.ok (T:Ty) (v:V):Prop:=if T.isAgg = true then ∃ l,v = .agg l /\ T.fits l else T.fits [v]
def Ty.oks:List Ty -> List V -> Prop
 | [],vs=>vs = []
 | T :: Ts,vs=>∃ v r,vs = v :: r /\ T.ok v /\ Ty.oks Ts r
def whole (w:World):H:=fun b=>match w.heap[b]? with
 | some (.cells c e _)=>some (.row false e c.toList 0)
 | _=>none
theorem whole_cell {w:World} {a:Addr} {v:Value} (h:w.cell? a = some v):a.spot = none /\ ∃ c e,whole w a.block = some (.row false e c 0) /\ c[a.off]? = some v:=by
 unfold World.cell? at h
 split at h
 ·rename_i c e fr hb
  split at h
  ·cases h
  ·rename_i hs
   refine ⟨by simpa using hs,c.toList,e,by simp [whole,hb],by simpa using h⟩
 ·cases h
theorem cells_seg {w:World} {base:Nat} {b o:Nat} {c:List Value} {e:TypeId} (hb:whole w b = some (.row false e c 0)) {n:Nat} {r:List Value} (h:w.cells? base ⟨b,o,none⟩ n = some r) :
  r.length = n /\ r = (c.drop o).take n /\ (n ≠ 0 -> o + n <= c.length):=by
 unfold World.cells? at h
 split at h
 ·obtain ⟨hl,hg⟩:=mapM_get h
  rw [List.length_range] at hl
  have key:∀ i,i < n -> r[i]? = c[o + i]?:=fun i hi=>by
   have hr:r[i]? = some (r[i]'(by omega)):=List.getElem?_eq_getElem (by omega)
   obtain ⟨x,hx,hc⟩:=hg i _ hr
   rw [List.getElem?_range hi] at hx
   cases hx
   rw [addr_add] at hc
   obtain ⟨_,c',e',h1,h2⟩:=whole_cell hc
   simp only at h1 h2
   rw [hb] at h1
   cases h1
   rw [hr,h2]
  refine ⟨hl,?_,fun hn=>?_⟩
  ·apply List.ext_getElem?
   intro i
   rw [List.getElem?_take]
   split
   ·rename_i hi; rw [List.getElem?_drop]; exact key i hi
   ·rw [List.getElem?_eq_none (by omega)]
  ·have:=key (n - 1) (by omega)
   have hr:r[n - 1]? = some (r[n - 1]'(by omega)):=List.getElem?_eq_getElem (by omega)
   rw [hr] at this
   rcases Nat.lt_or_ge (o + (n - 1)) c.length with h | h
   ·omega
   ·rw [List.getElem?_eq_none h] at this; cases this
 ·cases h
section
variable {HH:Type} {enc:TypeId × Value -> HH} {P:Program} {w:World}
theorem segs {F:H} {T:Ty} {sz:Nat} {cs:List Value}:∀ (n:Nat),n * sz <= cs.length -> (∀ i,i < n -> ∃ l,T.fits l /\ RL ι0 F l ((cs.drop (i * sz)).take sz)) ->
  ∃ xs:List (List V),xs.length = n /\ (∀ x ∈ xs,T.fits x) /\ RL ι0 F xs.flatten (cs.take (n * sz))
 | 0,_,_=>⟨[],rfl,by simp,by simp [RL]⟩
 | n + 1,hn,h=>by
  rw [Nat.add_mul,Nat.one_mul] at hn
  obtain ⟨xs,h1,h2,h3⟩:=segs n (by omega) (fun i hi=>h i (by omega))
  obtain ⟨l,h4,h5⟩:=h n (by omega)
  refine ⟨xs ++ [l],by simp [h1],?_,?_⟩
  ·intro x hx
   rcases List.mem_append.1 hx with hx | hx
   ·exact h2 x hx
   ·simp at hx; rw [hx]; exact h4
  ·rw [List.flatten_append,Nat.add_mul,Nat.one_mul,List.take_add]
   simpa using RL_append h3 h5
theorem mapM_at {β:Type} {f:Nat -> Option β} {n:Nat} {r:List β} (h:(List.range n).mapM f = some r):r.length = n /\ ∀ i,i < n -> ∃ y,f i = some y:=by
 obtain ⟨hl,hg⟩:=mapM_get h
 rw [List.length_range] at hl
 refine ⟨hl,fun i hi=>?_⟩
 have hr:r[i]? = some (r[i]'(by omega)):=List.getElem?_eq_getElem (by omega)
 obtain ⟨x,hx,hc⟩:=hg i _ hr
 rw [List.getElem?_range hi] at hx
 cases hx
 exact ⟨_,hc⟩
theorem addr_add' {a:Addr} (hs:a.spot = none) (n:Nat):a.add n = ⟨a.block,a.off + n,none⟩:=by
 cases a; simp only at hs; subst hs; exact addr_add _ _ _
abbrev trd (enc:TypeId × Value -> HH) (P:Program) (w:World):=DataW.trod enc P w 0 (fun _=>true) true
theorem trod_bool {t:TypeId} (hu:P.underlying t = some .bool) {fuel:Nat} {cs:List Value} {x:DataW HH × List MemPlace} (h:trd enc P w (fuel + 1) t cs = some x):∃ b,cs = [.bool b]:=by
 unfold trd DataW.trod at h
 rw [hu] at h
 split at h <;> first | exact ⟨_,rfl⟩ | simp_all
theorem trod_int {t:TypeId} {k:IntKind} (hu:P.underlying t = some (.int k)) {fuel:Nat} {cs:List Value} {x:DataW HH × List MemPlace} (h:trd enc P w (fuel + 1) t cs = some x) :
  ∃ n,cs = [.int k n] /\ k.min <= n /\ n <= k.max:=by
 unfold trd DataW.trod at h
 rw [hu] at h
 split at h <;> first | (rename_i he; cases he; done) | skip
 all_goals try (simp_all; done)
 rename_i k0 k' n he
 cases he
 split at h
 ·rename_i hc
  obtain ⟨rfl,hw⟩:=hc
  refine ⟨n,rfl,?_⟩
  simpa [Lit.wf] using hw
 ·cases h
theorem trod_str {t:TypeId} (hu:P.underlying t = some .string) {fuel:Nat} {cs:List Value} {x:DataW HH × List MemPlace} (h:trd enc P w (fuel + 1) t cs = some x):∃ s,cs = [.string s] /\ s.size <= maxLen:=by
 unfold trd DataW.trod at h
 rw [hu] at h
 split at h <;> first | (rename_i he; cases he; done) | skip
 all_goals try (simp_all; done)
theorem trod_slice {t e:TypeId} (hu:P.underlying t = some (.slice e)) {fuel:Nat} {cs:List Value} {x:DataW HH × List MemPlace} (h:trd enc P w (fuel + 1) t cs = some x) :
  cs = [.slice none 0 0] ∨ ∃ a len cap,cs = [.slice (some a) len cap] /\ len <= cap /\ cap <= maxLen /\ ∀ i,i < len -> ∃ y,(w.cells? 0 (a.add (i * P.cellsOf e)) (P.cellsOf e)).bind (trd enc P w fuel e) = some y:=by
 unfold trd DataW.trod at h
 rw [hu] at h
 split at h <;> first | (rename_i he; cases he; done) | skip
 all_goals try (simp_all; done)
 rename_i e0 a len cap he
 cases he
 split at h
 ·rename_i hc
  refine .inr ⟨a,len,cap,rfl,hc.2.1,hc.2.2,?_⟩
  simp only [Option.bind_eq_some_iff] at h
  obtain ⟨elems,hel,_⟩:=h
  exact (mapM_at hel).2
 ·cases h
theorem trod_struct {t:TypeId} {fs:Array Field} (hu:P.underlying t = some (.struct fs)) {fuel:Nat} {cs:List Value} {x:DataW HH × List MemPlace} (h:trd enc P w (fuel + 1) t cs = some x) :
  cs.length = P.cellsOf t /\ ∃ r,(fs.toList.mapM fun f=>trd enc P w fuel f.type ((cs.drop f.offset).take (P.cellsOf f.type))) = some r:=by
 unfold trd DataW.trod at h
 rw [hu] at h
 split at h <;> first | (rename_i he; cases he; done) | skip
 all_goals try (simp_all; done)
 rename_i fs0 he
 cases he
 split at h
 ·rename_i hc
  simp only [Option.map_eq_some_iff] at h
  obtain ⟨r,hr,_⟩:=h
  exact ⟨hc,r,hr⟩
 ·cases h
theorem trod_array {t e:TypeId} {n:Nat} (hu:P.underlying t = some (.array n e)) {fuel:Nat} {cs:List Value} {x:DataW HH × List MemPlace} (h:trd enc P w (fuel + 1) t cs = some x) :
  cs.length = P.cellsOf t /\ ∀ i,i < n -> ∃ y,trd enc P w fuel e ((cs.drop (i * P.cellsOf e)).take (P.cellsOf e)) = some y:=by
 unfold trd DataW.trod at h
 rw [hu] at h
 split at h <;> first | (rename_i he; cases he; done) | skip
 all_goals try (simp_all; done)
 rename_i n0 e0 he
 cases he
 split at h
 ·rename_i hc
  simp only [Option.map_eq_some_iff] at h
  obtain ⟨r,hr,_⟩:=h
  exact ⟨hc,(mapM_at hr).2⟩
 ·cases h
theorem fields_fit {sub:TypeId -> Option Ty} {g:TypeId -> List Value -> Option (DataW HH × List MemPlace)}
  (hsub:∀ t T,sub t = some T -> ∀ cs x,g t cs = some x -> ∃ l,T.fits l /\ RL ι0 (whole w) l cs) :
  ∀ (fs:List Field) (off:Nat) {Ts:List Ty},tyFs P sub fs off = some Ts -> ∀ {cs:List Value} {r},(fs.mapM fun f=>g f.type ((cs.drop f.offset).take (P.cellsOf f.type))) = some r ->
   off + Ty.szs Ts = cs.length -> ∃ l,Ty.fitss Ts l /\ RL ι0 (whole w) l (cs.drop off)
 | [],off,Ts,hT,cs,r,hr,hl=>by
  simp only [tyFs,Option.some.injEq] at hT
  subst hT
  simp only [Ty.szs] at hl
  exact ⟨[],by simp [Ty.fitss],by rw [List.drop_eq_nil_of_le (by omega)]; simp [RL]⟩
 | f :: fs,off,Ts,hT,cs,r,hr,hl=>by
  simp only [tyFs] at hT
  split at hT
  ·rename_i ho
   simp only [Option.bind_eq_some_iff] at hT
   obtain ⟨T,hsT,hT⟩:=hT
   split at hT
   ·rename_i hsz
    simp only [Option.map_eq_some_iff] at hT
    obtain ⟨Ts',hTs,rfl⟩:=hT
    simp only [Ty.szs] at hl
    rw [List.mapM_cons] at hr
    cases hg:g f.type ((cs.drop f.offset).take (P.cellsOf f.type)) with
    | none=>simp [hg] at hr
    | some y =>
     cases hm:fs.mapM fun f=>g f.type ((cs.drop f.offset).take (P.cellsOf f.type)) with
     | none=>simp [hg,hm] at hr
     | some r' =>
      obtain ⟨l1,h1,h2⟩:=hsub _ _ hsT _ _ hg
      obtain ⟨l2,h3,h4⟩:=fields_fit hsub fs (off + T.sz) hTs hm (by omega)
      refine ⟨l1 ++ l2,by simp only [Ty.fitss]; exact ⟨l1,l2,rfl,h1,h3⟩,?_⟩
      have:=RL_append h2 h4
      rw [ho,hsz] at this
      have he:cs.drop off = (cs.drop off).take T.sz ++ cs.drop (off + T.sz):=by
       rw [<-List.drop_drop,List.take_append_drop]
      rw [he]; exact this
   ·cases hT
  ·cases hT
set_option maxRecDepth 10000 in
theorem trod_fits:∀ (d:Nat) {T:Ty} {t:TypeId},tyOf P d t = some T -> ∀ (fuel:Nat) {cs:List Value} {x:DataW HH × List MemPlace},
  trd enc P w fuel t cs = some x -> ∃ l,T.fits l /\ RL ι0 (whole w) l cs
 | 0,T,t,hT,fuel,cs,x,h=>by simp [tyOf] at hT
 | d + 1,T,t,hT,0,cs,x,h=>by simp [DataW.trod] at h
 | d + 1,T,t,hT,fuel + 1,cs,x,h=>by
  simp only [tyOf] at hT
  split at hT
  ·rename_i hu
   cases hT
   obtain ⟨b,rfl⟩:=trod_bool hu h
   exact ⟨[.bool b],by simp [Ty.fits],by simp [RL,R]⟩
  ·rename_i k hu
   cases hT
   obtain ⟨n,rfl,h1,h2⟩:=trod_int hu h
   exact ⟨[.int k n],by simp [Ty.fits,h1,h2],by simp [RL,R]⟩
  ·rename_i hu
   cases hT
   obtain ⟨s,rfl,h1⟩:=trod_str hu h
   exact ⟨[.str s.data.toList],by simp only [Ty.fits]; exact ⟨_,rfl,by rw [Array.length_toList]; exact h1⟩,by simp [RL,R]⟩
  ·rename_i e hu
   simp only [Option.bind_eq_some_iff] at hT
   obtain ⟨E,hE,hT⟩:=hT
   split at hT
   ·rename_i hsz
    cases hT
    rcases trod_slice hu h with rfl | ⟨a,len,cap,rfl,h1,h2,h3⟩
    ·refine ⟨[.sl 0 []],by simp only [Ty.fits]; exact ⟨[],rfl,Nat.zero_le _,by simp⟩,?_⟩
     simp [RL,R]
    ·by_cases hlen:len = 0
     ·subst hlen
      refine ⟨[.sl 0 []],by simp only [Ty.fits]; exact ⟨[],rfl,Nat.zero_le _,by simp⟩,?_⟩
      simp [RL,R]
     ·-- where it lies
      have hcell:∀ i,i < len -> ∃ cs',w.cells? 0 (a.add (i * E.sz)) E.sz = some cs' /\ ∃ y,trd enc P w fuel e cs' = some y:=fun i hi=>by
       obtain ⟨y,hy⟩:=h3 i hi
       rw [hsz.1] at hy
       simp only [Option.bind_eq_some_iff] at hy
       obtain ⟨cs',h4,h5⟩:=hy
       exact ⟨cs',h4,y,h5⟩
      obtain ⟨c0,hc0,_⟩:=hcell 0 (by omega)
      have hw0:∃ v,w.cell? a = some v:=by
       unfold World.cells? at hc0
       split at hc0
       ·obtain ⟨_,hg⟩:=mapM_at hc0
        obtain ⟨y,hy⟩:=hg 0 hsz.2
        exact ⟨y,by simpa [Addr.add] using hy⟩
       ·cases hc0
      obtain ⟨v0,hv0⟩:=hw0
      obtain ⟨hs,c,ee,hb,_⟩:=whole_cell hv0
      have hseg:∀ i,i < len -> ∃ cs',cs' = (c.drop (a.off + i * E.sz)).take E.sz /\ a.off + i * E.sz + E.sz <= c.length /\ ∃ y,trd enc P w fuel e cs' = some y:=fun i hi=>by
       obtain ⟨cs',h4,h5⟩:=hcell i hi
       rw [addr_add' hs] at h4
       obtain ⟨_,h6,h7⟩:=cells_seg hb h4
       exact ⟨cs',h6,h7 (by omega),h5⟩
      obtain ⟨_,_,hend,_⟩:=hseg (len - 1) (by omega)
      have hend':a.off + len * E.sz <= c.length:=by
       have:len * E.sz = (len - 1) * E.sz + E.sz:=by
        conv=>lhs; rw [show len = (len - 1) + 1 by omega]
        rw [Nat.add_mul,Nat.one_mul]
       omega
      obtain ⟨xs,g1,g2,g3⟩:=segs (F:=whole w) (T:=E) (sz:=E.sz) (cs:=c.drop a.off) len (by simp; omega) (fun i hi=>by
       obtain ⟨cs',h4,_,y,h5⟩:=hseg i hi
       rw [List.drop_drop,<-h4]
       exact trod_fits d hE fuel h5)
      have hxl:=RL_len g3
      rw [List.length_take,List.length_drop] at hxl
      refine ⟨[.sl len xs.flatten],by simp only [Ty.fits]; exact ⟨xs,by rw [g1],by omega,g2⟩,?_⟩
      simp only [RL]
      refine ⟨_,[],rfl,?_,rfl⟩
      simp only [R]
      refine .inr ⟨a.block,a.off,cap,?_,h1,.inr ⟨false,ee,c,0,hb,by omega,?_⟩⟩
      ·cases a; simp only at hs; subst hs; rfl
      ·rw [show xs.flatten.length = len * E.sz by omega]; exact g3
   ·cases hT
  ·rename_i fs hu
   simp only [Option.bind_eq_some_iff] at hT
   obtain ⟨Ts,hTs,hT⟩:=hT
   split at hT
   ·rename_i hsz
    cases hT
    obtain ⟨h1,r,h2⟩:=trod_struct hu h
    obtain ⟨l,h3,h4⟩:=fields_fit (fun t T hT cs x hx=>trod_fits d hT fuel hx) fs.toList 0 hTs h2 (by omega)
    exact ⟨l,by simpa only [Ty.fits] using h3,by simpa using h4⟩
   ·cases hT
  ·rename_i n e hu
   simp only [Option.bind_eq_some_iff] at hT
   obtain ⟨E,hE,hT⟩:=hT
   split at hT
   ·rename_i hsz
    cases hT
    obtain ⟨h1,h2⟩:=trod_array hu h
    rw [hsz.1] at h2
    obtain ⟨xs,g1,g2,g3⟩:=segs (F:=whole w) (T:=E) (sz:=E.sz) (cs:=cs) n (by omega) (fun i hi=>by
     obtain ⟨y,hy⟩:=h2 i hi
     exact trod_fits d hE fuel hy)
    refine ⟨xs.flatten,by simp only [Ty.fits]; exact ⟨xs,g1,rfl,g2⟩,?_⟩
    rwa [List.take_of_length_le (by omega)] at g3
   ·cases hT
  ·cases hT
theorem arg_tree {d:Nat} {T:Ty} {t:TypeId} (hT:tyOf P d t = some T) {base:Nat} {v:Value} (hv:Value.okWide P w .any base t v) {x:DataW HH} {ps:List MemPlace}
  (h:DataW.Trod enc P w 0 (fun _=>true) true t v x ps):∃ y,T.ok y /\ R ι0 (whole w) y v:=by
 obtain ⟨fuel,h⟩:=h
 obtain ⟨l,h1,h2⟩:=trod_fits d hT fuel h
 cases d with
 | zero=>simp [tyOf] at hT
 | succ d =>
  simp only [tyOf] at hT
  simp only [Value.okWide] at hv
  have one:T.isAgg = false -> v.cells.toList = [v] -> ∃ y,T.ok y /\ R ι0 (whole w) y v:=fun ha hc=>by
   rw [hc] at h2
   have hl:=RL_len h2
   match l,hl,h1,h2 with
   | [y],_,h1,h2 =>
    simp only [RL] at h2
    obtain ⟨v',r',he,hr,_⟩:=h2
    simp only [List.cons.injEq] at he
    obtain ⟨rfl,rfl⟩:=he
    exact ⟨y,by simp only [Ty.ok,ha]; exact h1,hr⟩
  have agg:T.isAgg = true -> ∀ cs,v = .agg cs -> ∃ y,T.ok y /\ R ι0 (whole w) y v:=fun ha cs hc=>by
   subst hc
   refine ⟨.agg l,by simp only [Ty.ok,ha,if_true]; exact ⟨l,rfl,h1⟩,?_⟩
   simp only [R]
   exact ⟨cs.toList,rfl,h2⟩
  split at hT
  ·rename_i hu
   cases hT
   rw [hu] at hv
   simp only [Cell.okWide,hu] at hv
   refine one rfl ?_
   cases v <;> first | rfl | simp_all [Cell.ok]
  ·rename_i k hu
   cases hT
   rw [hu] at hv
   simp only [Cell.okWide,hu] at hv
   refine one rfl ?_
   cases v <;> first | rfl | simp_all [Cell.ok]
  ·rename_i hu
   cases hT
   rw [hu] at hv
   simp only [Cell.okWide,hu] at hv
   refine one rfl ?_
   cases v <;> first | rfl | simp_all [Cell.ok]
  ·rename_i e hu
   simp only [Option.bind_eq_some_iff] at hT
   obtain ⟨E,hE,hT⟩:=hT
   split at hT
   ·cases hT
    rw [hu] at hv
    simp only [Cell.okWide,hu] at hv
    refine one rfl ?_
    cases v <;> first | rfl | simp_all [Cell.ok]
   ·cases hT
  ·rename_i fs hu
   simp only [Option.bind_eq_some_iff] at hT
   obtain ⟨E,hE,hT⟩:=hT
   split at hT
   ·cases hT
    rw [hu] at hv
    obtain ⟨cs,rfl,_⟩:=hv
    exact agg rfl cs rfl
   ·cases hT
  ·rename_i n e hu
   simp only [Option.bind_eq_some_iff] at hT
   obtain ⟨E,hE,hT⟩:=hT
   split at hT
   ·cases hT
    rw [hu] at hv
    obtain ⟨cs,rfl,_⟩:=hv
    exact agg rfl cs rfl
   ·cases hT
  ·cases hT
def tysOf (P:Program) (d:Nat):List TypeId -> Option (List Ty)
 | []=>some []
 | t :: ts=>(tyOf P d t).bind fun T=>(tysOf P d ts).map (T :: ·)
theorem args_tree {d base:Nat}:∀ {ts:List TypeId} {Ts:List Ty} {vs:List Value} {ds:List (DataW HH)} {ps:List MemPlace},tysOf P d ts = some Ts ->
  (∀ (j:Nat) t v,ts[j]? = some t -> vs[j]? = some v -> Value.okWide P w .any base t v) -> DataW.TrodAll enc P w 0 (fun _=>true) true ts vs ds ps -> ∃ ys,Ty.oks Ts ys /\ RL ι0 (whole w) ys vs
 | [],Ts,vs,ds,ps,hT,hv,h=>by
  simp only [tysOf,Option.some.injEq] at hT
  subst hT
  cases vs with
  | nil=>exact ⟨[],rfl,by simp [RL]⟩
  | cons=>cases ds <;> simp [DataW.TrodAll] at h
 | t :: ts,Ts,vs,ds,ps,hT,hv,h=>by
  simp only [tysOf,Option.bind_eq_some_iff,Option.map_eq_some_iff] at hT
  obtain ⟨T,h1,Ts',h2,rfl⟩:=hT
  obtain ⟨v,vs',x,ds',p,q,rfl,rfl,rfl,h3,h4⟩:=trodAll_cons h
  obtain ⟨y,h5,h6⟩:=arg_tree h1 (hv 0 t v rfl rfl) h3
  obtain ⟨ys,h7,h8⟩:=args_tree h2 (fun j t' v' hj hj'=>hv (j + 1) t' v' hj hj') h4
  exact ⟨y :: ys,⟨y,ys,rfl,h5,h7⟩,by simp only [RL]; exact ⟨v,vs',rfl,h6,h8⟩⟩
theorem whole_sat (w:World):Sat ⟨w.heap.size,fun _=>True,0⟩ w w (whole w):=by
 refine ⟨Below.refl _ _,Nat.le_refl _,fun b k hb=>?_,Nat.zero_le _,fun _ _=>.inl trivial⟩
 unfold whole at hb
 split at hb
 ·rename_i c e fr ho
  simp only [Option.some.injEq] at hb
  subst hb
  refine ⟨⟨_,ho,c,fr,rfl,by simp,by rw [Array.length_toList,<-Array.length_toList,List.take_length],(fun h=>by cases h),(fun h=>by cases h)⟩,(fun h=>by cases h)⟩
 ·cases hb
theorem law_calls {P:Program} {HH:Type} {enc:TypeId × Value -> HH} {d:Nat} {k:FuncId} {fn:Func} {Ts:List Ty} (hT:tysOf P d fn.params.toList = some Ts) (hs:∀ xs,Ty.oks Ts xs -> PSpec P k xs fun r=>r = .bool true)
  {vars:List String} {W:World} {base:Nat} {args:Array Value} {ds gs:List (DataW HH)} {before:List MemPlace} (hval:∀ (j:Nat) t v,fn.params[j]? = some t -> args[j]? = some v -> Value.okWide P W .any base t v)
  (hW:DataW.Whole enc P fn.params.toList vars false W args.toList ds gs before):Calls P k args W fun e w'=>e = .returned (.bool true) /\ Below W.heap.size W w':=by
 obtain ⟨p,q,hA,_,_,_,_⟩:=hW
 obtain ⟨ys,h1,h2⟩:=args_tree hT (fun j t v hj hj'=>hval j t v (by simpa using hj) (by simpa using hj')) hA
 have h3:=hs ys h1 (whole W) args.toList h2 (whole W) (fun _ _ h=>h) _ W W (whole_sat W)
 refine h3.mono fun e w' ⟨r,dd,he,⟨v,hv,ho⟩,_,hs⟩=>⟨?_,hs.below⟩
 subst hv
 simp only [OV,R] at ho
 rw [he,ho.2]
def readables (P:Program) (ts:List TypeId):Bool:=ts.all fun t=>P.readableRec t && decide (t < P.types.size)
theorem trodAll_below {P:Program} {HH:Type} {enc:TypeId × Value -> HH} (hl:laidOutB P = true) {W W':World} (hb:Below W.heap.size W W') :
  ∀ {ts:List TypeId} {vs:List Value} {ds:List (DataW HH)} {ps:List MemPlace},readables P ts = true -> DataW.TrodAll enc P W 0 (fun _=>true) true ts vs ds ps ->
  DataW.TrodAll enc P W' 0 (fun b=>decide (b < W.heap.size)) true ts vs ds ps
 | [],vs,ds,ps,hr,h=>by cases vs <;> cases ds <;> simp_all [DataW.TrodAll]
 | t :: ts,vs,ds,ps,hr,h=>by
  obtain ⟨v,vs',x,ds',p,q,rfl,rfl,rfl,h3,h4⟩:=trodAll_cons h
  simp only [readables,List.all_cons,Bool.and_eq_true,decide_eq_true_eq] at hr
  refine trodAll_cons_mk (Below.trod hl hr.1.1 hr.1.2 h3 hb fun y hy=>?_) (trodAll_below hl hb hr.2 h4)
  obtain ⟨m,hm⟩:=h3; exact DataW.trod_lt m _ _ _ hm y hy
theorem trodAll_dlen {P:Program} {HH:Type} {enc:TypeId × Value -> HH} {w:World}:∀ {ts:List TypeId} {vs:List Value} {ds:List (DataW HH)} {ps:List MemPlace},DataW.TrodAll enc P w 0 (fun _=>true) true ts vs ds ps -> ds.length = ts.length
 | [],vs,ds,ps,h=>by cases vs <;> cases ds <;> simp_all [DataW.TrodAll]
 | t :: ts,vs,ds,ps,h=>by
  obtain ⟨v,vs',x,ds',p,q,rfl,rfl,rfl,h3,h4⟩:=trodAll_cons h
  simp [trodAll_dlen h4]
theorem law_post {P:Program} {HH:Type} {enc:TypeId × Value -> HH} {fn:Func} {s:ChangeSpec} (hl:laidOutB P = true) (hr:readables P fn.params.toList = true) {tb:TypeId} (hres:fn.resultTypes = #[tb]) (htb:P.underlying tb = some .bool)
  (hvars:s.vars = []) (hfn:∀ ds:List (DataW HH),ds.length = fn.params.toList.length -> s.fn HH ds = { results:=[.lit (.bool true)],args:=ds })
  {W W':World} {args:Array Value} {ds gs:List (DataW HH)} {before:List MemPlace} (hW:DataW.Whole enc P fn.params.toList s.vars false W args.toList ds gs before) (hb:Below W.heap.size W W') :
  s.post enc P fn false true false false W args (.bool true) W':=by
 have hW':=hW
 obtain ⟨p,q,hA,hV,_,_,_⟩:=hW
 rw [hvars] at hV
 obtain ⟨rfl,rfl⟩:=trodVars_none hV
 have hlen:=trodAll_dlen hA
 refine ⟨ds,[],before,[],p,[],hW',?_,?_,?_,hb.frame _,fun h=>by cases h⟩
 ·rw [List.append_nil,hfn ds hlen,hres]
  exact trodAll_mk1 (shut_bool htb _)
 ·rw [List.append_nil,hfn ds hlen]
  exact trodAll_below hl hb hr hA
 ·rw [List.append_nil,hfn ds hlen,hvars]
  rfl
end
end
section
set_option linter.constructorNameAsVariable false
structure Rec (α:Type) where
 enc:α -> List Int
 sz:Nat
 len:∀ a,(enc a).length = sz
 dflt:α
def vr {α:Type} (r:Rec α) (k:IntKind) (l:List α):List V:=(l.map fun a=>vi k (r.enc a)).flatten
section
variable {α:Type} {r:Rec α} {k:IntKind} {l m:List α} {i n:Nat} {a:α} {h:Hp}
theorem vr_eq:vr r k l = vi k (l.map r.enc).flatten:=by
 induction l with
 | nil=>rfl
 | cons a l ih=>simp only [vr,List.map_cons,List.flatten_cons] at ih ⊢; rw [ih,vi_app]
theorem vr_len:(vr r k l).length = l.length * r.sz:=by
 induction l with
 | nil=>simp [vr]
 | cons a l ih =>
  have:vr r k (a :: l) = vi k (r.enc a) ++ vr r k l:=by simp [vr]
  rw [this,List.length_append,ih,vi_len,r.len,List.length_cons,Nat.add_mul]; omega
theorem vr_cons:vr r k (a :: l) = vi k (r.enc a) ++ vr r k l:=by simp [vr]
theorem vr_app:vr r k l ++ vr r k m = vr r k (l ++ m):=by simp [vr]
theorem vr_drop:∀ {l:List α} {i:Nat},i <= l.length -> (vr r k l).drop (i * r.sz) = vr r k (l.drop i)
 | l,0,_=>by simp
 | [],i + 1,h=>by simp at h
 | a :: l,i + 1,h=>by
  rw [vr_cons,List.drop_succ_cons,<-vr_drop (l:=l) (i:=i) (by simp at h; exact h)]
  rw [show (i + 1) * r.sz = (vi k (r.enc a)).length + i * r.sz from by rw [vi_len,r.len,Nat.add_mul]; omega]
  rw [List.drop_append]
  simp
theorem vr_at (hi:i < l.length):((vr r k l).drop (i * r.sz)).take r.sz = vi k (r.enc (l.getD i r.dflt)):=by
 rw [vr_drop (Nat.le_of_lt hi),List.drop_eq_getElem_cons hi,vr_cons,List.take_left' (by rw [vi_len,r.len])]
 simp [List.getD,hi]
theorem vr_take:∀ {l:List α} {i:Nat},i <= l.length -> (vr r k l).take (i * r.sz) = vr r k (l.take i)
 | l,0,_=>by simp [vr]
 | [],i + 1,h=>by simp at h
 | a :: l,i + 1,h=>by
  rw [vr_cons,List.take_succ_cons,vr_cons,<-vr_take (l:=l) (i:=i) (by simp at h; exact h)]
  rw [show (i + 1) * r.sz = (vi k (r.enc a)).length + i * r.sz from by rw [vi_len,r.len,Nat.add_mul]; omega]
  rw [List.take_length_add_append]
theorem vr_set (hi:i < l.length):(vr r k l).take (i * r.sz) ++ vi k (r.enc a) ++ (vr r k l).drop ((i + 1) * r.sz) = vr r k (l.set i a):=by
 rw [vr_take (Nat.le_of_lt hi),vr_drop hi,List.append_assoc,<-vr_cons,vr_app]
 congr 1
 rw [List.set_eq_take_append_cons_drop,if_pos hi]
theorem vr_all:(vr r k l).all cell1 = true:=by rw [vr_eq,vi_all]
theorem vr_own:noOwn (vr r k l) = true:=by rw [vr_eq,vi_own]
theorem vr_vws:vws (vr r k l) = vr r k l:=by rw [vr_eq,vi_vws]
theorem vr_dvs:dvs h (vr r k l) = vr r k l:=by rw [vr_eq,vi_dvs]
theorem vr_clo:clos (vr r k l) = true:=by rw [vr_eq,vi_clo]
theorem vr_nrf:nrfs (vr r k l) = true:=by rw [vr_eq,vi_nrf]
theorem vr_fin:folds (fin (n + 1)) h (vr r k l) = some (vr r k l,h):=by rw [vr_eq,vi_fin]
theorem vr_rep:(List.replicate n (vi k (r.enc a))).flatten = vr r k (List.replicate n a):=by simp [vr]
end
def R2:Rec (Int × Int):=⟨fun a=>[a.1,a.2],2,fun _=>rfl,(0,0)⟩
def R3:Rec (Int × Int × Int):=⟨fun a=>[a.1,a.2.1,a.2.2],3,fun _=>rfl,(0,0,0)⟩
def v2 (k:IntKind) (l:List (Int × Int)):List V:=vr R2 k l
def v3 (k:IntKind) (l:List (Int × Int × Int)):List V:=vr R3 k l
def g2 (l:List (Int × Int)) (i:Nat):Int × Int:=l.getD i (0,0)
def g3 (l:List (Int × Int × Int)) (i:Nat):Int × Int × Int:=l.getD i (0,0,0)
section
variable {k:IntKind} {l m:List (Int × Int)} {p q:List (Int × Int × Int)} {i n:Nat} {a b c:Int} {h:Hp}
theorem v2_len:(v2 k l).length = l.length * 2:=vr_len
theorem v3_len:(v3 k p).length = p.length * 3:=vr_len
theorem v2_at (hi:i < l.length):((v2 k l).drop (i * 2)).take 2 = [.int k (g2 l i).1,.int k (g2 l i).2]:=vr_at (r:=R2) hi
theorem v3_at (hi:i < p.length):((v3 k p).drop (i * 3)).take 3 = [.int k (g3 p i).1,.int k (g3 p i).2.1,.int k (g3 p i).2.2]:=vr_at (r:=R3) hi
theorem v2_app:v2 k l ++ v2 k m = v2 k (l ++ m):=vr_app
theorem v3_app:v3 k p ++ v3 k q = v3 k (p ++ q):=vr_app
theorem v2_one:v2 k l ++ [.int k a,.int k b] = v2 k (l ++ [(a,b)]):=by rw [<-v2_app]; rfl
theorem v3_one:v3 k p ++ [.int k a,.int k b,.int k c] = v3 k (p ++ [(a,b,c)]):=by rw [<-v3_app]; rfl
theorem v2_set' (hi:i < l.length):List.take (i * 2) (v2 k l) ++ [.int k a,.int k b] ++ List.drop (i * 2 + 2) (v2 k l) = v2 k (l.set i (a,b)):=by
 have:=vr_set (r:=R2) (k:=k) (a:=(a,b)) hi
 rw [show (i + 1) * R2.sz = i * 2 + 2 from by show (i + 1) * 2 = _; omega] at this
 exact this
theorem v3_set' (hi:i < p.length):List.take (i * 3) (v3 k p) ++ [.int k a,.int k b,.int k c] ++ List.drop (i * 3 + 3) (v3 k p) = v3 k (p.set i (a,b,c)):=by
 have:=vr_set (r:=R3) (k:=k) (a:=(a,b,c)) hi
 rw [show (i + 1) * R3.sz = i * 3 + 3 from by show (i + 1) * 3 = _; omega] at this
 exact this
theorem v2_set (hi:i < l.length):setV (v2 k l) (i * 2) [.int k a,.int k b] = v2 k (l.set i (a,b)):=by
 rw [setV_more (by simp)]; exact v2_set' hi
theorem v3_set (hi:i < p.length):setV (v3 k p) (i * 3) [.int k a,.int k b,.int k c] = v3 k (p.set i (a,b,c)):=by
 rw [setV_more (by simp)]; exact v3_set' hi
theorem v2_all:(v2 k l).all cell1 = true:=vr_all
theorem v3_all:(v3 k p).all cell1 = true:=vr_all
theorem v2_own:noOwn (v2 k l) = true:=vr_own
theorem v3_own:noOwn (v3 k p) = true:=vr_own
theorem v2_vws:vws (v2 k l) = v2 k l:=vr_vws
theorem v3_vws:vws (v3 k p) = v3 k p:=vr_vws
theorem v2_dvs:dvs h (v2 k l) = v2 k l:=vr_dvs
theorem v3_dvs:dvs h (v3 k p) = v3 k p:=vr_dvs
theorem v2_clo:clos (v2 k l) = true:=vr_clo
theorem v3_clo:clos (v3 k p) = true:=vr_clo
theorem v2_nrf:nrfs (v2 k l) = true:=vr_nrf
theorem v3_nrf:nrfs (v3 k p) = true:=vr_nrf
theorem v2_fin:folds (fin (n + 1)) h (v2 k l) = some (v2 k l,h):=vr_fin
theorem v3_fin:folds (fin (n + 1)) h (v3 k p) = some (v3 k p,h):=vr_fin
theorem v2_rep:(List.replicate n [V.int k a,V.int k b]).flatten = v2 k (List.replicate n (a,b)):=vr_rep (r:=R2) (a:=(a,b))
theorem v3_rep:(List.replicate n [V.int k a,V.int k b,V.int k c]).flatten = v3 k (List.replicate n (a,b,c)):=vr_rep (r:=R3) (a:=(a,b,c))
theorem v2_tk (hn:n = l.length * 2):(v2 k l).take n = v2 k l:=List.take_of_length_le (by rw [v2_len]; omega)
theorem v3_tk (hn:n = p.length * 3):(v3 k p).take n = v3 k p:=List.take_of_length_le (by rw [v3_len]; omega)
theorem v2_nil:v2 k [] = []:=rfl
theorem v3_nil:v3 k [] = []:=rfl
end
theorem getD_ext {α:Type} {d:α} {l m:List α} (h1:l.length = m.length) (h2:∀ j,j < l.length -> l.getD j d = m.getD j d):l = m:=by
 refine List.ext_getElem h1 fun j hj hk=>?_
 have:=h2 j hj
 simpa [List.getD,hj,hk] using this
theorem gi_ext {l m:List Int} (h1:l.length = m.length) (h2:∀ j,j < l.length -> gi l j = gi m j):l = m:=getD_ext h1 h2
theorem all_getD {α:Type} {d:α} {p:α -> Bool} {l:List α}:l.all p = true ↔ ∀ j,j < l.length -> p (l.getD j d) = true:=by
 rw [List.all_eq_true]
 refine ⟨fun h j hj=>?_,fun h x hx=>?_⟩
 ·simp only [List.getD,hj,List.getElem?_eq_getElem,Option.getD_some]; exact h _ (List.getElem_mem hj)
 ·obtain ⟨j,hj,rfl⟩:=List.getElem_of_mem hx
  have:=h j hj
  simpa only [List.getD,hj,List.getElem?_eq_getElem,Option.getD_some] using this
theorem drop_getD {α:Type} {d:α} {l:List α} {i:Nat} (hi:i < l.length):l.drop i = l.getD i d :: l.drop (i + 1):=by
 rw [List.drop_eq_getElem_cons hi]; simp [List.getD,hi]
theorem tk_all {α:Type} {l:List α} {n:Nat} (hn:l.length <= n):l.take n = l:=List.take_of_length_le hn
theorem dr_all {α:Type} {l:List α} {n:Nat} (hn:l.length <= n):l.drop n = []:=List.drop_of_length_le hn
theorem tk_app {α:Type} {l r:List α} {n:Nat} (hn:l.length = n):(l ++ r).take n = l:=List.take_left' hn
theorem dr_app {α:Type} {l r:List α} {n:Nat} (hn:l.length = n):(l ++ r).drop n = r:=List.drop_left' hn
theorem dr_app2 {α:Type} {l r:List α} {n:Nat} (hn:l.length < n):(l ++ r).drop n = r.drop (n - l.length):=by rw [List.drop_append,List.drop_of_length_le (Nat.le_of_lt hn),List.nil_append]
theorem tk_app2 {α:Type} {l r:List α} {n:Nat} (hn:l.length < n):(l ++ r).take n = l ++ r.take (n - l.length):=by rw [List.take_append,List.take_of_length_le (Nat.le_of_lt hn)]
theorem setV_full {cs vs:List V} (h:cs.length = vs.length):setV cs 0 vs = vs:=by
 match vs,h with
 | [],h=>simp [setV]; simpa using h
 | [v],h =>
  match cs,h with
  | [c],_=>rfl
 | v :: w :: l,h=>simp [setV]; simp at h; omega
theorem setV_cv {x y:V} {k k':IntKind} {l m:List Int} (h:l.length = m.length):setV (x :: vi k l) 0 (y :: vi k' m) = y :: vi k' m:=setV_full (by simp [vi_len,h])
theorem setV_vv {k k':IntKind} {l m:List Int} (h:l.length = m.length):setV (vi k l) 0 (vi k' m) = vi k' m:=setV_full (by simp [vi_len,h])
theorem setV_bb {l m:List Bool} (h:l.length = m.length):setV (vb l) 0 (vb m) = vb m:=setV_full (by simp [vb_len,h])
theorem vb_cons {x:Bool} {l:List Bool}:V.bool x :: vb l = vb (x :: l):=rfl
theorem gi_c0 {a:Int} {l:List Int}:gi (a :: l) 0 = a:=rfl
theorem gi_c1 {a b:Int} {l:List Int}:gi (a :: b :: l) 1 = b:=rfl
theorem gi_c2 {a b c:Int} {l:List Int}:gi (a :: b :: c :: l) 2 = c:=rfl
theorem getD_1 {x d:V} {l:List V} {k:Nat}:(x :: l).getD (1 + k) d = l.getD k d:=by rw [Nat.add_comm]; rfl
theorem getD_17 {x d:V} {l:List V} {k:Nat}:(x :: l).getD (17 + k) d = l.getD (16 + k) d:=by rw [show 17 + k = (16 + k) + 1 from by omega]; rfl
theorem set_1 {x v:V} {l:List V} {k:Nat}:(x :: l).set (1 + k) v = x :: l.set k v:=by rw [Nat.add_comm]; rfl
theorem set_17 {x v:V} {l:List V} {k:Nat}:(x :: l).set (17 + k) v = x :: l.set (16 + k) v:=by rw [show 17 + k = (16 + k) + 1 from by omega]; rfl
theorem gi_appl {l m:List Int} {i:Nat} (h:i < l.length):gi (l ++ m) i = gi l i:=by rw [gi_app,if_pos h]
theorem gi_appr {l m:List Int} {i:Nat} (h:l.length <= i):gi (l ++ m) i = gi m (i - l.length):=by rw [gi_app,if_neg (by omega)]
theorem set_appl {l m:List Int} {i:Nat} {v:Int} (h:i < l.length):(l ++ m).set i v = l.set i v ++ m:=List.set_append_left _ _ h
theorem set_appr {l m:List Int} {i:Nat} {v:Int} (h:l.length <= i):(l ++ m).set i v = l ++ m.set (i - l.length) v:=List.set_append_right _ _ h
theorem prod_eta {α β:Type} {p:α × β}:(p.1,p.2) = p:=rfl
set_option linter.defProp false in
set_option maxRecDepth 10000 in
def E2:=And.intro @prod_eta <| And.intro @getD_1 <| And.intro @getD_17 <| And.intro @set_1 <| And.intro @set_17 <| And.intro @gi_appl <| And.intro @gi_appr <| And.intro @set_appl <| And.intro @set_appr <| And.intro @Nat.add_sub_cancel_left <| And.intro @Nat.add_lt_add_iff_left <| And.intro @gi_c0 <| And.intro @gi_c1 <| And.intro @gi_c2 <| And.intro @setV_bb <| And.intro @vb_cons <| And.intro @vi_cons <| And.intro @tk_app2 <| And.intro @setV_cv <| And.intro @setV_vv <| And.intro @tk_app <| And.intro @dr_app <| And.intro @dr_app2 <| And.intro @tk_all <| And.intro @dr_all <| And.intro @v2_len <| And.intro @v3_len <| And.intro @v2_at <| And.intro @v3_at <| And.intro @v2_app <| And.intro @v3_app <| And.intro @v2_one <| And.intro @v3_one <| And.intro @v2_set <| And.intro @v3_set <| And.intro @v2_set' <| And.intro @v3_set' <|
 And.intro @v2_all <| And.intro @v3_all <| And.intro @v2_own <| And.intro @v3_own <| And.intro @v2_vws <| And.intro @v3_vws <| And.intro @v2_dvs <| And.intro @v3_dvs <| And.intro @v2_clo <| And.intro @v3_clo <|
 And.intro @v2_nrf <| And.intro @v3_nrf <| And.intro @v2_fin <| And.intro @v3_fin <| And.intro @v2_rep <| And.intro @v3_rep <| And.intro @v2_tk <| And.intro @v3_tk <| And.intro @v2_nil @v3_nil
theorem sc_vi {ns:List Nat} {k:IntKind} {l:List Int}:scvs ns (vi k l) = true:=by induction l <;> simp_all [vi,scvs,scv]
theorem sc_vb {ns:List Nat} {l:List Bool}:scvs ns (vb l) = true:=by induction l <;> simp_all [vb,scvs,scv]
theorem sc_vt {ns:List Nat} {l:List (List UInt8)}:scvs ns (vt l) = true:=by induction l <;> simp_all [vt,scvs,scv]
theorem sc_v2 {ns:List Nat} {k:IntKind} {l:List (Int × Int)}:scvs ns (v2 k l) = true:=by unfold v2; rw [vr_eq]; exact sc_vi
theorem sc_v3 {ns:List Nat} {k:IntKind} {l:List (Int × Int × Int)}:scvs ns (v3 k l) = true:=by unfold v3; rw [vr_eq]; exact sc_vi
def vo (e:TypeId) (ls:List (List Int)):List V:=ls.map fun l=>V.own e 1 l.length (vi .i64 l)
def vl (ls:List (List Int)):List V:=ls.map fun l=>V.sl l.length (vi .i64 l)
def gl (ls:List (List Int)) (i:Nat):List Int:=ls.getD i []
section
variable {e:TypeId} {ls ms:List (List Int)} {l:List Int} {i n:Nat} {ns:List Nat} {h:Hp}
theorem vo_len:(vo e ls).length = ls.length:=by simp [vo]
theorem vl_len:(vl ls).length = ls.length:=by simp [vl]
theorem vo_get (hi:i < ls.length):(vo e ls).getD i .und = .own e 1 (gl ls i).length (vi .i64 (gl ls i)):=by simp [vo,gl,List.getD,hi]
theorem vl_get (hi:i < ls.length):(vl ls).getD i .und = .sl (gl ls i).length (vi .i64 (gl ls i)):=by simp [vl,gl,List.getD,hi]
theorem vo_one (hn:l.length = n):vo e ls ++ [.own e 1 n (vi .i64 l)] = vo e (ls ++ [l]):=by subst hn; simp [vo]
theorem vo_set (hn:l.length = n):(vo e ls).set i (.own e 1 n (vi .i64 l)) = vo e (ls.set i l):=by subst hn; simp [vo,List.map_set]
theorem vo_take:(vo e ls).take n = vo e (ls.take n):=by simp [vo,List.map_take]
theorem vl_take:(vl ls).take n = vl (ls.take n):=by simp [vl,List.map_take]
theorem vo_drop:(vo e ls).drop n = vo e (ls.drop n):=by simp [vo,List.map_drop]
theorem vl_drop:(vl ls).drop n = vl (ls.drop n):=by simp [vl,List.map_drop]
theorem vl_all:(vl ls).all cell1 = true:=by simp [vl,cell1]
theorem vl_own:noOwn (vl ls) = true:=by simp [noOwn,vl,plain1]
theorem vo_vws:vws (vo e ls) = vl ls:=by induction ls <;> simp_all [vo,vl,vws,vw,vi_vws]
theorem vl_vws:vws (vl ls) = vl ls:=by induction ls <;> simp_all [vl,vws,vw,vi_vws]
theorem vl_dvs:dvs h (vl ls) = vl ls:=by induction ls <;> simp_all [vl,dvs,dv,vi_vws]
theorem vo_clo:clos (vo e ls) = true:=by induction ls <;> simp_all [vo,clos,clo,vi_clo]
theorem vo_nrf:nrfs (vo e ls) = true:=by induction ls <;> simp_all [vo,nrfs,nrf,vi_nrf]
theorem vl_nrf:nrfs (vl ls) = true:=by induction ls <;> simp_all [vl,nrfs,nrf,vi_nrf]
theorem vo_fin:folds (fin (n + 1)) h (vo e ls) = some (vo e ls,h):=folds_still (by simp [vo,still])
theorem vl_fin:folds (fin (n + 1)) h (vl ls) = some (vl ls,h):=folds_still (by simp [vl,still])
theorem sc_vo:scvs ns (vo e ls) = true:=by induction ls <;> simp_all [vo,scvs,scv,sc_vi]
theorem sc_vl:scvs ns (vl ls) = true:=by induction ls <;> simp_all [vl,scvs,scv,vi_nrf]
theorem vo_nil:vo e [] = []:=rfl
theorem vl_nil:vl [] = []:=rfl
theorem vl_cons {n:Nat} (hn:l.length = n):V.sl n (vi .i64 l) :: vl ls = vl (l :: ls):=by subst hn; rfl
end
theorem gl_app {l m:List (List Int)} {i:Nat}:gl (l ++ m) i = if i < l.length then gl l i else gl m (i - l.length):=by
 simp only [gl,List.getD,List.getElem?_append]; split <;> rfl
def vn (k:Nat):List V:=List.replicate k .nils
section
variable {k n:Nat} {v:V} {h:Hp} {ns:List Nat} {a b:List V} {i:Nat}
theorem vn_len:(vn k).length = k:=by simp [vn]
theorem vn_set0 (hk:0 < k):(vn k).set 0 v = v :: vn (k - 1):=by
 cases k with
 | zero=>omega
 | succ k=>simp [vn,List.replicate_succ]
theorem vn_rep:(List.replicate k [V.nils]).flatten = vn k:=by
 induction k with
 | zero=>rfl
 | succ k ih=>simp only [List.replicate_succ,List.flatten_cons,ih]; simp [vn,List.replicate_succ]
theorem vn_fin:folds (fin (n + 1)) h (vn k) = some (vn k,h):=folds_still (by simp [vn,still])
theorem vn_nrf:nrfs (vn k) = true:=by induction k <;> simp_all [vn,List.replicate_succ,nrfs,nrf]
theorem vn_clo:clos (vn k) = true:=by induction k <;> simp_all [vn,List.replicate_succ,clos,clo]
theorem sc_vn:scvs ns (vn k) = true:=by induction k <;> simp_all [vn,List.replicate_succ,scvs,scv]
theorem setV_appr (hi:a.length <= i):(a ++ b).set i v = a ++ b.set (i - a.length) v:=List.set_append_right _ _ hi
end
section
variable {h:Hp} {q:Option Nat} {K:V -> Hp -> Prop} {b b2 o o2 n:Nat} {x x' y y':V}
@[congr] theorem pldb_congr (hx:x = x') (hy:y = y'):pldb h q K x y = pldb h q K x' y':=by rw [hx,hy]
theorem pldb_pp:pldb h q K (.ptr b o) (.ptr b2 o2) = Rq (b = b2) (pld h q K (.ptr b o)):=rfl
theorem pldb_pr:pldb h q K (.ptr b o) (.rf b2 o2 n) = Rq (b = b2) (pld h q K (.ptr b o)):=rfl
theorem pavsP_nil {x:V}:pavsP h x [] = True:=rfl
theorem pavsP_cons {x y:V} {ys:List V}:pavsP h x (y :: ys) = (pavoidP h x y /\ pavsP h x ys):=rfl
theorem pavoidP_pp {b o b2 o2:Nat}:pavoidP h (.ptr b2 o2) (.ptr b o) = (b ≠ b2 /\ isRow (h b)):=rfl
theorem pavoidP_pr {b o b2 o2 m:Nat}:pavoidP h (.ptr b2 o2) (.rf b o m) = (b ≠ b2 /\ isRow (h b)):=rfl
theorem pavoid_pr:pavoid h (.rf b2 o2 n) (.ptr b o) = (b ≠ b2 /\ isRow (h b)):=rfl
theorem pavoid_rr {m:Nat}:pavoid h (.rf b2 o2 n) (.rf b o m) = (b ≠ b2 /\ isRow (h b)):=rfl
theorem pavoid_pn:pavoid h .nils (.ptr b o) = True:=rfl
theorem pavoid_rn {m:Nat}:pavoid h .nils (.rf b o m) = True:=rfl
theorem isRow_row {e:TypeId} {sz:Nat} {cs:List V}:isRow (.row e sz cs) = True:=rfl
end
set_option linter.defProp false in
def E3:=And.intro @pavsP_nil <| And.intro @pavsP_cons <| And.intro @pavoidP_pp <| And.intro @pavoidP_pr <| And.intro @pldb_pp <| And.intro @pldb_pr <| And.intro @pavoid_pr <| And.intro @pavoid_rr <| And.intro @pavoid_pn <| And.intro @pavoid_rn <| And.intro @isRow_row <| And.intro @vn_len <| And.intro @vn_set0 <| And.intro @vn_rep <| And.intro @vn_fin <| And.intro @vn_nrf <| And.intro @vn_clo <| And.intro @setV_appr <| And.intro @vo_len <| And.intro @vl_len <| And.intro @vo_get <| And.intro @vl_get <| And.intro @vo_one <| And.intro @vo_set <| And.intro @vo_take <| And.intro @vl_take <| And.intro @vo_drop <| And.intro @vl_drop <|
 And.intro @vl_all <| And.intro @vl_own <| And.intro @vo_vws <| And.intro @vl_vws <| And.intro @vl_dvs <| And.intro @vo_clo <| And.intro @vo_nrf <| And.intro @vl_nrf <| And.intro @vo_fin <| And.intro @vl_fin <|
 And.intro @vo_nil <| And.intro @vl_nil <| And.intro @vl_cons @folds_app
theorem ok_sl {T:Ty} {v:V} (h:Ty.ok (.sl T) v):∃ xs:List (List V),v = .sl xs.length xs.flatten /\ xs.length <= 9223372036854775807 /\ ∀ x ∈ xs,T.fits x:=by
 simpa [Ty.ok,Ty.isAgg,Ty.fits,maxLen] using h
theorem fits_list {α:Type} {T:Ty} {enc:α -> List V} {Q:α -> Prop} (hT:∀ x,T.fits x -> ∃ a,x = enc a /\ Q a):∀ {xs:List (List V)},(∀ x ∈ xs,T.fits x) -> ∃ l:List α,xs = l.map enc /\ ∀ a ∈ l,Q a
 | [],_=>⟨[],rfl,by simp⟩
 | x :: xs,h=>by
  obtain ⟨a,rfl,ha⟩:=hT x (h x (by simp))
  obtain ⟨l,rfl,h2⟩:=fits_list hT (xs:=xs) fun y hy=>h y (by simp [hy])
  exact ⟨a :: l,rfl,by simpa using ⟨ha,h2⟩⟩
theorem fits_int {k:IntKind} (x:List V) (h:Ty.fits (.int k) x):∃ a,x = [.int k a] /\ k.min <= a /\ a <= k.max:=by simpa [Ty.fits] using h
theorem flat_vi {k:IntKind} {l:List Int}:(l.map fun a=>[V.int k a]).flatten = vi k l:=by
 induction l <;> simp_all [vi]
theorem ok_ints {k:IntKind} {v:V} (h:Ty.ok (.sl (.int k)) v):∃ l:List Int,v = .sl l.length (vi k l) /\ l.length <= 9223372036854775807 /\ ∀ a ∈ l,k.min <= a /\ a <= k.max:=by
 obtain ⟨xs,rfl,h1,h2⟩:=ok_sl h
 obtain ⟨l,rfl,h3⟩:=fits_list fits_int h2
 exact ⟨l,by rw [flat_vi]; simp,by simpa using h1,h3⟩
set_option linter.defProp false in
def EW:=And.intro EV <| And.intro EL <| And.intro E2 <| And.intro E3 <| And.intro ER @false_imp_iff
set_option linter.defProp false in
def LN:=And.intro @List.length_append.{0} <| And.intro @List.length_cons.{0} <| And.intro @List.length_nil.{0} <| And.intro @List.length_replicate.{0} <| And.intro @List.length_set.{0} <| And.intro @List.length_take.{0} <| And.intro @List.length_drop.{0} <|
 And.intro @vi_len <| And.intro @vb_len <| And.intro @vo_len <| And.intro @vl_len @vn_len
set_option linter.defProp false in
def FRB:=And.intro @vi_nrf <| And.intro @vb_nrf <| And.intro @vt_nrf <| And.intro @v2_nrf <| And.intro @v3_nrf <| And.intro @sc_vi <| And.intro @sc_vb <| And.intro @sc_vt <| And.intro @sc_v2 <| And.intro @sc_v3 <| And.intro @sc_vo <| And.intro @sc_vl <|
 And.intro @vo_nrf <| And.intro @vl_nrf <| And.intro @sc_vn @vn_nrf
set_option linter.defProp false in
def SD:=And.intro @decide_eq_true_eq <| And.intro @decide_eq_false_iff_not <| And.intro @beq_iff_eq.{0} <| And.intro @bne_iff_ne.{0} <| And.intro @beq_eq_false_iff_ne.{0} <| And.intro @bne_eq_false_iff_eq.{0} <| And.intro @Bool.not_eq_true' <| And.intro @Bool.not_eq_false' <|
 And.intro @Bool.and_eq_true <| And.intro @Bool.or_eq_true <| And.intro @Bool.and_eq_false_iff <| And.intro @Bool.or_eq_false_iff <| And.intro @Int.not_lt <| And.intro @Int.not_le <| And.intro Bool.false_eq_true <| And.intro Bool.true_eq_false <|
 And.intro @false_and <| And.intro @and_false <| And.intro @true_and <| And.intro @and_true <| And.intro @or_false <| And.intro @false_or <| And.intro @or_true <| And.intro @true_or <| And.intro not_true_eq_false not_false_eq_true
end
section
set_option maxRecDepth 1000000
def laws_FnTrees_F (x0:V) (hi:Hp) (Rt:Hp -> V -> Prop):Prop :=
pcal Tryz.prog 5 114 hi (fun a1 b1 =>
pcond (
Rt b1 (.bool true)) (
pcal Tryz.prog 6 116 b1 (fun c1 d1 =>
pcal Tryz.prog 7 119 d1 (fun e1 f1 =>
VL (vext 0 e1) fun g1 =>
VL (vext 1 e1) fun h1 =>
palloc f1 68 28 ([(.int .i64 0)] ++ (vi .u8 (List.replicate 32 0))) fun i1 =>
pst i1 33 (cellsV g1) (fun j1 k1 =>
pcal Tryz.prog 8 124 k1 (fun l1 m1 =>
VL (vext 0 l1) fun n1 =>
VL (vext 1 l1) fun o1 =>
palloc m1 70 28 ([(.int .i64 0)] ++ (vi .u8 (List.replicate 32 0))) fun p1 =>
pst p1 33 (cellsV n1) (fun q1 r1 =>
VL (lift2 (abin .neq) h1 o1) fun s1 =>
pgk false r1 (fun t1 u1=>pld r1 (some 33) (fun v1 w1 =>
u1 v1 w1) (.ptr 68 0)) (fun y1 z1 a2 =>
pgk false a2 (fun b2 c2=>pld a2 (some 33) (fun d2 e2 =>
c2 d2 e2) (.ptr 70 0)) (fun f2 g2 h2 =>
pgk false h2 (fun i2 j2=>VL (veqa true true [(.i .i64),(.i .u8),(.i .u8),(.i .u8),(.i .u8),(.i .u8),(.i .u8),(.i .u8),(.i .u8),(.i .u8),(.i .u8),(.i .u8),(.i .u8),(.i .u8),(.i .u8),(.i .u8),(.i .u8),(.i .u8),(.i .u8),(.i .u8),(.i .u8),(.i .u8),(.i .u8),(.i .u8),(.i .u8),(.i .u8),(.i .u8),(.i .u8),(.i .u8),(.i .u8),(.i .u8),(.i .u8),(.i .u8)] z1 g2) fun k2 =>
j2 k2 h2) (fun l2 m2 n2 =>
VL (vpick l2 (.bool true) m2) fun o2 =>
pcond (
Rt n2 (.bool false)) (
JN (fun p2 =>
VL (lift2 (abin .eql) h1 (.int .i64 0)) fun q2 =>
pcond (
pld n2 (some 33) (fun r2 s2 =>
pcal Tryz.prog 9 139 s2 (fun t2 u2 =>
VL (vext 0 t2) fun v2 =>
VL (vext 1 t2) fun w2 =>
pld u2 (some 33) (fun y2 z2 =>
pcal Tryz.prog 10 144 z2 (fun a3 b3 =>
VL (vext 0 a3) fun c3 =>
VL (vext 1 a3) fun d3 =>
pld b3 (some 33) (fun e3 f3 =>
pcal Tryz.prog 11 149 f3 (fun g3 h3 =>
VL (vext 0 g3) fun i3 =>
VL (vext 1 g3) fun j3 =>
pld h3 (some 33) (fun k3 l3 =>
pcal Tryz.prog 12 154 l3 (fun m3 n3 =>
VL (vext 0 m3) fun o3 =>
VL (vext 1 m3) fun p3 =>
pcal Tryz.prog 7 159 n3 (fun q3 r3 =>
VL (vext 0 q3) fun s3 =>
VL (vext 1 q3) fun t3 =>
palloc r3 80 28 ([(.int .i64 0)] ++ (vi .u8 (List.replicate 32 0))) fun u3 =>
pst u3 33 (cellsV s3) (fun v3 w3 =>
pld w3 (some 33) (fun y3 z3 =>
pld z3 (some 33) (fun a4 b4 =>
pcal Tryz.prog 13 165 b4 (fun c4 d4 =>
VL (vext 0 c4) fun e4 =>
VL (vext 1 c4) fun f4 =>
VL (lift2 (abin .neq) w2 (.int .i64 0)) fun g4 =>
pgk false d4 (fun h4 i4=>i4 d3 d4) (fun j4 k4 l4 =>
pgk false l4 (fun m4 n4=>VL (lift2 (abin .neq) k4 (.int .i64 0)) fun o4 =>
n4 o4 l4) (fun p4 q4 r4 =>
VL (vpick p4 (.bool true) q4) fun s4 =>
pgk false r4 (fun t4 u4=>u4 j3 r4) (fun v4 w4 y4 =>
pgk false y4 (fun z4 a5=>VL (lift2 (abin .neq) w4 (.int .i64 0)) fun b5 =>
a5 b5 y4) (fun c5 d5 e5 =>
VL (vpick c5 (.bool true) d5) fun f5 =>
pgk false e5 (fun g5 h5=>h5 p3 e5) (fun i5 j5 k5 =>
pgk false k5 (fun l5 m5=>VL (lift2 (abin .neq) j5 (.int .i64 0)) fun n5 =>
m5 n5 k5) (fun o5 p5 q5 =>
VL (vpick o5 (.bool true) p5) fun r5 =>
pgk false q5 (fun s5 t5=>t5 t3 q5) (fun u5 v5 w5 =>
pgk false w5 (fun y5 z5=>VL (lift2 (abin .neq) v5 (.int .i64 0)) fun a6 =>
z5 a6 w5) (fun b6 c6 d6 =>
VL (vpick b6 (.bool true) c6) fun e6 =>
pgk false d6 (fun f6 g6=>g6 f4 d6) (fun h6 i6 j6 =>
pgk false j6 (fun k6 l6=>VL (lift2 (abin .neq) i6 (.int .i64 0)) fun m6 =>
l6 m6 j6) (fun n6 o6 p6 =>
VL (vpick n6 (.bool true) o6) fun q6 =>
pgk false p6 (fun r6 s6=>s6 v2 p6) (fun t6 u6 v6 =>
pgk false v6 (fun w6 y6=>y6 c1 v6) (fun z6 a7 b7 =>
pgk false b7 (fun c7 d7=>VL (lift2 (abin .neq) u6 a7) fun e7 =>
d7 e7 b7) (fun f7 g7 h7 =>
VL (vpick f7 (.bool true) g7) fun i7 =>
pgk false h7 (fun j7 k7=>k7 c3 h7) (fun l7 m7 n7 =>
pgk false n7 (fun o7 p7=>VL (lift1 (aun .not) m7) fun q7 =>
p7 q7 n7) (fun r7 s7 t7 =>
VL (vpick r7 (.bool true) s7) fun u7 =>
pgk false t7 (fun v7 w7=>w7 i3 t7) (fun y7 z7 a8 =>
pgk false a8 (fun b8 c8=>VL (lift2 (abin .neq) z7 (.int .i64 0)) fun d8 =>
c8 d8 a8) (fun e8 f8 g8 =>
VL (vpick e8 (.bool true) f8) fun h8 =>
pgk false g8 (fun i8 j8=>j8 e4 g8) (fun k8 l8 m8 =>
pgk false m8 (fun n8 o8=>VL (lift1 (aun .not) l8) fun p8 =>
o8 p8 m8) (fun q8 r8 s8 =>
VL (vpick q8 (.bool true) r8) fun t8 =>
pgk false s8 (fun v8 w8=>w8 o3 s8) (fun y8 z8 a9 =>
pgk false a9 (fun b9 c9=>c9 c1 a9) (fun d9 e9 f9 =>
pgk false f9 (fun g9 h9=>VL (lift2 (abin .gtr) z8 e9) fun i9 =>
h9 i9 f9) (fun j9 k9 l9 =>
VL (vpick j9 (.bool true) k9) fun m9 =>
pcond (
Rt l9 (.bool false)) (
p2 [x0] l9) m9) d9) y8) t8) k8) h8) y7) u7) l7) i7) z6) t6) q6) h6) e6) u5) r5) i5) f5) v4) s4) j4) g4) [y3,a4]) (.ptr 80 0)) (.ptr 68 0)) (.ptr 80 0)) [o3]) [k3]) (.ptr 68 0)) [e3]) (.ptr 68 0)) [y2]) (.ptr 68 0)) [r2,(.int .i64 0)]) (.ptr 68 0)) (
p2 [x0] n2) q2) fun n9 o9 =>
pcal Tryz.prog 14 213 o9 (fun p9 q9 =>
palloc q9 84 28 ([(.int .i64 0)] ++ (vi .u8 (List.replicate 32 0))) fun r9 =>
pst r9 33 (cellsV p9) (fun s9 t9 =>
pld t9 (some 33) (fun u9 v9 =>
pcal Tryz.prog 15 216 v9 (fun w9 y9 =>
VL (vext 0 w9) fun z9 =>
VL (vext 1 w9) fun a10 =>
pld y9 (some 33) (fun b10 c10 =>
pcal Tryz.prog 16 221 c10 (fun d10 e10 =>
VL (vext 0 d10) fun f10 =>
VL (vext 1 d10) fun g10 =>
VL (lift2 (abin .neq) a10 g10) fun h10 =>
pgk false e10 (fun i10 j10=>j10 z9 e10) (fun k10 l10 m10 =>
pgk false m10 (fun n10 o10=>o10 f10 m10) (fun p10 q10 r10 =>
pgk false r10 (fun s10 t10=>VL (lift2 (abin .neq) l10 q10) fun u10 =>
t10 u10 r10) (fun v10 w10 y10 =>
VL (vpick v10 (.bool true) w10) fun z10 =>
pcond (
Rt y10 (.bool false)) (
VL (lift2 (abin .eql) a10 (.int .i64 0)) fun a11 =>
pgk true y10 (fun b11 c11=>c11 z9 y10) (fun d11 e11 f11 =>
pgk true f11 (fun g11 h11=>VL (lift2 (abin .lss) e11 (.int .i64 1)) fun i11 =>
h11 i11 f11) (fun j11 k11 l11 =>
pgk true l11 (fun m11 n11=>n11 k11 l11) (fun o11 p11 q11 =>
pgk false q11 (fun r11 s11=>s11 (.ptr 84 0) q11) (fun t11 u11 v11 =>
pgk false v11 (fun w11 y11=>pld v11 none (fun z11 a12 =>
y11 z11 a12) u11) (fun b12 c12 d12 =>
pgk false d12 (fun e12 f12=>f12 z9 d12) (fun g12 h12 i12 =>
pgk false i12 (fun j12 k12=>VL (lift2 (abin .rem) c12 h12) fun l12 =>
k12 l12 i12) (fun m12 n12 o12 =>
pgk false o12 (fun p12 q12=>VL (lift2 (abin .neq) n12 (.int .i64 0)) fun r12 =>
q12 r12 o12) (fun s12 t12 u12 =>
pgk true u12 (fun v12 w12=>VL (vpick s12 (.bool true) t12) fun y12 =>
w12 y12 u12) (fun z12 a13 b13 =>
VL (vpick z12 a13 (.bool false)) fun c13 =>
pcond (
Rt b13 (.bool false)) (
pcal Tryz.prog 17 247 b13 (fun d13 e13 =>
VL (vext 0 d13) fun f13 =>
VL (vext 1 d13) fun g13 =>
palloc e13 89 28 ([(.int .i64 0)] ++ (vi .u8 (List.replicate 32 0))) fun h13 =>
pst h13 33 (cellsV f13) (fun i13 j13 =>
pld j13 (some 33) (fun k13 l13 =>
pcal Tryz.prog 9 253 l13 (fun m13 n13 =>
VL (vext 0 m13) fun o13 =>
VL (vext 1 m13) fun p13 =>
pld n13 (some 33) (fun q13 r13 =>
pcal Tryz.prog 18 259 r13 (fun s13 t13 =>
VL (vext 0 s13) fun u13 =>
VL (vext 1 s13) fun v13 =>
VL (lift2 (abin .neq) p13 v13) fun w13 =>
pgk false t13 (fun y13 z13=>z13 o13 t13) (fun a14 b14 c14 =>
pgk false c14 (fun d14 e14=>e14 u13 c14) (fun f14 g14 h14 =>
pgk false h14 (fun i14 j14=>VL (lift2 (abin .neq) b14 g14) fun k14 =>
j14 k14 h14) (fun l14 m14 n14 =>
VL (vpick l14 (.bool true) m14) fun o14 =>
pcond (
Rt n14 (.bool false)) (
JN (fun p14 =>
VL (lift2 (abin .eql) p13 (.int .i64 0)) fun q14 =>
pcond (
pcal Tryz.prog 7 274 n14 (fun r14 s14 =>
VL (vext 0 r14) fun t14 =>
VL (vext 1 r14) fun u14 =>
palloc s14 95 28 ([(.int .i64 0)] ++ (vi .u8 (List.replicate 32 0))) fun v14 =>
pst v14 33 (cellsV t14) (fun w14 y14 =>
pld y14 (some 33) (fun z14 a15 =>
pld a15 (some 33) (fun b15 c15 =>
pcal Tryz.prog 13 280 c15 (fun d15 e15 =>
VL (vext 0 d15) fun f15 =>
VL (vext 1 d15) fun g15 =>
pld e15 (some 33) (fun h15 i15 =>
pcal Tryz.prog 12 285 i15 (fun j15 k15 =>
VL (vext 0 j15) fun l15 =>
VL (vext 1 j15) fun m15 =>
pld k15 (some 33) (fun n15 o15 =>
pcal Tryz.prog 12 290 o15 (fun p15 q15 =>
VL (vext 0 p15) fun r15 =>
VL (vext 1 p15) fun s15 =>
VL (lift2 (abin .neq) u14 (.int .i64 0)) fun t15 =>
pgk false q15 (fun u15 v15=>v15 g15 q15) (fun w15 y15 z15 =>
pgk false z15 (fun a16 b16=>VL (lift2 (abin .neq) y15 (.int .i64 0)) fun c16 =>
b16 c16 z15) (fun d16 e16 f16 =>
VL (vpick d16 (.bool true) e16) fun g16 =>
pgk false f16 (fun h16 i16=>i16 m15 f16) (fun j16 k16 l16 =>
pgk false l16 (fun m16 n16=>VL (lift2 (abin .neq) k16 (.int .i64 0)) fun o16 =>
n16 o16 l16) (fun p16 q16 r16 =>
VL (vpick p16 (.bool true) q16) fun s16 =>
pgk false r16 (fun t16 u16=>u16 s15 r16) (fun v16 w16 y16 =>
pgk false y16 (fun z16 a17=>VL (lift2 (abin .neq) w16 (.int .i64 0)) fun b17 =>
a17 b17 y16) (fun c17 d17 e17 =>
VL (vpick c17 (.bool true) d17) fun f17 =>
pgk false e17 (fun g17 h17=>h17 f15 e17) (fun i17 j17 k17 =>
pgk false k17 (fun l17 m17=>VL (lift1 (aun .not) j17) fun n17 =>
m17 n17 k17) (fun o17 p17 q17 =>
VL (vpick o17 (.bool true) p17) fun r17 =>
pgk false q17 (fun s17 t17=>t17 l15 q17) (fun u17 v17 w17 =>
pgk false w17 (fun y17 z17=>z17 r15 w17) (fun a18 b18 c18 =>
pgk false c18 (fun d18 e18=>VL (lift2 (abin .neq) v17 b18) fun f18 =>
e18 f18 c18) (fun g18 h18 i18 =>
VL (vpick g18 (.bool true) h18) fun j18 =>
pcond (
Rt i18 (.bool false)) (
p14 [(n9.getD 0 .und)] i18) j18) a18) u17) r17) i17) f17) v16) s16) j16) g16) w15) t15) [n15]) (.ptr 95 0)) [h15]) (.ptr 89 0)) [z14,b15]) (.ptr 95 0)) (.ptr 89 0)) (.ptr 95 0)) [o13]) (
p14 [(n9.getD 0 .und)] n14) q14) fun k18 l18 =>
pcal Tryz.prog 19 317 l18 (fun m18 n18 =>
palloc n18 103 28 ([(.int .i64 0)] ++ (vi .u8 (List.replicate 32 0))) fun o18 =>
pst o18 33 (cellsV m18) (fun p18 q18 =>
pld q18 (some 33) (fun r18 s18 =>
pcal Tryz.prog 12 320 s18 (fun t18 u18 =>
VL (vext 0 t18) fun v18 =>
VL (vext 1 t18) fun w18 =>
pld u18 (some 33) (fun y18 z18 =>
pcal Tryz.prog 20 325 z18 (fun a19 b19 =>
VL (vext 0 a19) fun c19 =>
VL (vext 1 a19) fun d19 =>
pcal Tryz.prog 21 329 b19 (fun e19 f19 =>
palloc f19 108 28 ([(.int .i64 0)] ++ (vi .u8 (List.replicate 32 0))) fun g19 =>
pst g19 33 (cellsV e19) (fun h19 i19 =>
pld i19 (some 33) (fun j19 k19 =>
pcal Tryz.prog 10 332 k19 (fun l19 m19 =>
VL (vext 0 l19) fun n19 =>
VL (vext 1 l19) fun o19 =>
pld m19 (some 33) (fun p19 q19 =>
pcal Tryz.prog 22 337 q19 (fun r19 s19 =>
VL (vext 0 r19) fun t19 =>
VL (vext 1 r19) fun u19 =>
VL (lift2 (abin .eql) w18 d19) fun v19 =>
pgk true s19 (fun w19 y19=>y19 v18 s19) (fun z19 a20 b20 =>
pgk true b20 (fun c20 d20=>d20 c19 b20) (fun e20 f20 g20 =>
pgk true g20 (fun h20 i20=>VL (lift2 (abin .eql) a20 f20) fun j20 =>
i20 j20 g20) (fun k20 l20 m20 =>
VL (vpick k20 l20 (.bool false)) fun n20 =>
pgk true m20 (fun o20 p20=>p20 o19 m20) (fun q20 r20 s20 =>
pgk true s20 (fun t20 u20=>u20 u19 s20) (fun v20 w20 y20 =>
pgk true y20 (fun z20 a21=>VL (lift2 (abin .eql) r20 w20) fun b21 =>
a21 b21 y20) (fun c21 d21 e21 =>
VL (vpick c21 d21 (.bool false)) fun f21 =>
pgk true e21 (fun g21 h21=>h21 n19 e21) (fun i21 j21 k21 =>
pgk true k21 (fun l21 m21=>m21 t19 k21) (fun n21 o21 p21 =>
pgk true p21 (fun q21 r21=>VL (veqa false false [.b] j21 o21) fun s21 =>
r21 s21 p21) (fun t21 u21 v21 =>
VL (vpick t21 u21 (.bool false)) fun w21 =>
Rt v21 w21) n21) i21) f21) v20) q20) n20) e20) z19) v19) [p19]) (.ptr 108 0)) [j19]) (.ptr 108 0)) (.ptr 108 0)) [(k18.getD 0 .und)]) [y18]) (.ptr 103 0)) [r18]) (.ptr 103 0)) (.ptr 103 0)) [(k18.getD 0 .und)]) o14) f14) a14) w13) [q13,g13]) (.ptr 89 0)) [k13,g13]) (.ptr 89 0)) (.ptr 89 0)) [(n9.getD 0 .und)]) c13) o11) m12) g12) b12) t11) p11) j11) d11) a11) z10) p10) k10) h10) [b10]) (.ptr 84 0)) [u9]) (.ptr 84 0)) (.ptr 84 0)) [(n9.getD 0 .und)]) o2) f2) y1) s1) (.ptr 70 0)) [c1]) (.ptr 68 0)) [c1]) [x0]) a1) [x0]
theorem laws_FnTrees_f {x0:V}:Prt Tryz.prog 3 [x0] (laws_FnTrees_F x0):=pfun (fn:=Tryz.f3) (m:=[.s,.s,.s,.s,.s,.s,.s,.s,.s,.s,.j [0],.s,.s,.s,.s,.s,.s,.s,.s,.s,.s,.s,.s,.s,.s,.s,.s,.s,.s,.s,.s,.s,.s,.s,.s,.j [0],.s,.s,.s,.s,.s,.s,.s,.s,.s,.s,.s,.s,.s,.s]) (c:=1 <= 294) rfl (fun h0 Rt=>by kernel_rfl) (by decide)
def laws_big_F (x0:V) (hi:Hp) (Rt:Hp -> V -> Prop):Prop :=
VL (vlenS x0) fun a1 =>
VL (lift2 (abin .gtr) a1 (.int .i64 4096)) fun b1 =>
Rt hi b1
theorem laws_big_f {x0:V}:Prt Tryz.prog 5 [x0] (laws_big_F x0):=pfun (fn:=Tryz.f5) (m:=[.s,.s]) (c:=1 <= 6) rfl (fun h0 Rt=>by kernel_rfl) (by decide)
def spec_DrawTreeOfWord_F (x0:V) (hi:Hp) (Rt:Hp -> V -> Prop):Prop :=
pcal Tryz.prog 49 70 hi (fun a1 b1 =>
pcal Tryz.prog 51 73 b1 (fun c1 d1 =>
VL (lift2 (abin .add) (.int .i64 1) c1) fun e1 =>
pcal Tryz.prog 50 75 d1 (fun f1 g1 =>
pcal Tryz.prog 51 77 g1 (fun h1 i1 =>
VL (lift2 (abin .eql) h1 (.int .i64 0)) fun j1 =>
pcond (
pcal Tryz.prog 52 81 i1 (fun k1 l1 =>
Rt l1 k1) [a1,f1]) (
Rt i1 f1) j1) [a1,(.int .i64 8)]) [a1,e1]) [a1,(.int .i64 16)]) [x0]
theorem spec_DrawTreeOfWord_f {x0:V}:Prt Tryz.prog 6 [x0] (spec_DrawTreeOfWord_F x0):=pfun (fn:=Tryz.f6) (m:=[.s,.s,.s,.s,.s,.s,.s]) (c:=1 <= 19) rfl (fun h0 Rt=>by kernel_rfl) (by decide)
def impl_TreeOfWord_F (x0:V) (hi:Hp) (Rt:Hp -> V -> Prop):Prop :=
palloc hi 66 28 ([(.int .i64 0)] ++ (vi .u8 (List.replicate 32 0))) fun a1 =>
pcal Tryz.prog 53 69 a1 (fun b1 c1 =>
VL (lift1 (aun .not) b1) fun d1 =>
pcond (
VL (vbld (vfill ([(.int .i64 0)] ++ (vi .u8 (List.replicate 32 0))) [])) fun e1 =>
pst c1 33 (cellsV e1) (fun f1 g1 =>
VL (pcellV g1 (some 33) (.ptr 66 0)) fun h1 =>
Rt g1 (.tup [h1,(.int .i64 1)])) (.ptr 66 0)) (
pcal Tryz.prog 54 73 c1 (fun i1 j1 =>
pst j1 33 (cellsV i1) (fun k1 l1 =>
VL (pcellV l1 (some 33) (.ptr 66 0)) fun m1 =>
Rt l1 (.tup [m1,(.int .i64 0)])) (.ptr 66 0)) [x0]) d1) [x0]
theorem impl_TreeOfWord_f {x0:V}:Prt Tryz.prog 7 [x0] (impl_TreeOfWord_F x0):=pfun (fn:=Tryz.f7) (m:=[.s,.s,.s,.s,.s]) (c:=1 <= 10) rfl (fun h0 Rt=>by kernel_rfl) (by decide)
def spec_TreeOfWord_F (x0:V) (hi:Hp) (Rt:Hp -> V -> Prop):Prop :=
palloc hi 66 28 ([(.int .i64 0)] ++ (vi .u8 (List.replicate 32 0))) fun a1 =>
pcal Tryz.prog 55 69 a1 (fun b1 c1 =>
VL (lift1 (aun .not) b1) fun d1 =>
pcond (
VL (vbld (vfill ([(.int .i64 0)] ++ (vi .u8 (List.replicate 32 0))) [])) fun e1 =>
pst c1 33 (cellsV e1) (fun f1 g1 =>
VL (pcellV g1 (some 33) (.ptr 66 0)) fun h1 =>
Rt g1 (.tup [h1,(.int .i64 1)])) (.ptr 66 0)) (
pcal Tryz.prog 56 73 c1 (fun i1 j1 =>
pst j1 33 (cellsV i1) (fun k1 l1 =>
VL (pcellV l1 (some 33) (.ptr 66 0)) fun m1 =>
Rt l1 (.tup [m1,(.int .i64 0)])) (.ptr 66 0)) [x0]) d1) [x0]
theorem spec_TreeOfWord_f {x0:V}:Prt Tryz.prog 8 [x0] (spec_TreeOfWord_F x0):=pfun (fn:=Tryz.f8) (m:=[.s,.s,.s,.s,.s]) (c:=1 <= 10) rfl (fun h0 Rt=>by kernel_rfl) (by decide)
def impl_WordOfTree_F (x0 x1:V) (hi:Hp) (Rt:Hp -> V -> Prop):Prop :=
pbox hi 66 28 (cellsV x0) fun a1 =>
pld a1 (some 33) (fun b1 c1 =>
pmks c1 73 2 1 1 (fun d1 =>
pcal Tryz.prog 57 74 d1 (fun e1 f1 =>
VL (lift2 (abin .neq) e1 (.int .i64 0)) fun g1 =>
pcond (
Rt f1 (.tup [(.str []),e1])) (
pld f1 (some 33) (fun h1 i1 =>
pcal Tryz.prog 58 80 i1 (fun j1 k1 =>
Rt k1 (.tup [j1,(.int .i64 0)])) [h1,x1]) (.ptr 66 0)) g1) [b1,(.rf 73 0 1)]) (vfill [(.int .i64 0)] [(0,1,x1)])) (.ptr 66 0)
theorem impl_WordOfTree_f {x0 x1:V}:Prt Tryz.prog 9 [x0,x1] (impl_WordOfTree_F x0 x1):=pfun (fn:=Tryz.f9) (m:=[.s,.s,.s,.s,.s,.s]) (c:=2 <= 17) rfl (fun h0 Rt=>by kernel_rfl) (by decide)
def impl_IsTree_F (x0:V) (hi:Hp) (Rt:Hp -> V -> Prop):Prop :=
pbox hi 65 28 (cellsV x0) fun a1 =>
pld a1 (some 33) (fun b1 c1 =>
pcal Tryz.prog 43 69 c1 (fun d1 e1 =>
VL (lift1 (aun .not) d1) fun f1 =>
pcond (
Rt e1 (.tup [(.bool false),(.int .i64 1)])) (
pld e1 (some 33) (fun g1 h1 =>
pcal Tryz.prog 59 72 h1 (fun i1 j1 =>
Rt j1 (.tup [i1,(.int .i64 0)])) [g1]) (.ptr 65 0)) f1) [b1]) (.ptr 65 0)
theorem impl_IsTree_f {x0:V}:Prt Tryz.prog 10 [x0] (impl_IsTree_F x0):=pfun (fn:=Tryz.f10) (m:=[.s,.s,.s,.s,.s]) (c:=1 <= 9) rfl (fun h0 Rt=>by kernel_rfl) (by decide)
def impl_GenusOf_F (x0:V) (hi:Hp) (Rt:Hp -> V -> Prop):Prop :=
pbox hi 65 28 (cellsV x0) fun a1 =>
pld a1 (some 33) (fun b1 c1 =>
pcal Tryz.prog 43 69 c1 (fun d1 e1 =>
VL (lift1 (aun .not) d1) fun f1 =>
pcond (
Rt e1 (.tup [(.int .i64 0),(.int .i64 1)])) (
pld e1 (some 33) (fun g1 h1 =>
pcal Tryz.prog 60 72 h1 (fun i1 j1 =>
Rt j1 (.tup [i1,(.int .i64 0)])) [g1]) (.ptr 65 0)) f1) [b1]) (.ptr 65 0)
theorem impl_GenusOf_f {x0:V}:Prt Tryz.prog 11 [x0] (impl_GenusOf_F x0):=pfun (fn:=Tryz.f11) (m:=[.s,.s,.s,.s,.s]) (c:=1 <= 9) rfl (fun h0 Rt=>by kernel_rfl) (by decide)
def impl_CanonicalWord_F (x0:V) (hi:Hp) (Rt:Hp -> V -> Prop):Prop :=
pbox hi 65 28 (cellsV x0) fun a1 =>
pld a1 (some 33) (fun b1 c1 =>
pcal Tryz.prog 57 72 c1 (fun d1 e1 =>
VL (lift2 (abin .neq) d1 (.int .i64 0)) fun f1 =>
pcond (
Rt e1 (.tup [(.str []),d1])) (
pld e1 (some 33) (fun g1 h1 =>
pcal Tryz.prog 61 78 h1 (fun i1 j1 =>
VL (vext 0 i1) fun k1 =>
VL (vext 1 i1) fun l1 =>
Rt j1 (.tup [k1,(.int .i64 0)])) [g1]) (.ptr 65 0)) f1) [b1,.nils]) (.ptr 65 0)
theorem impl_CanonicalWord_f {x0:V}:Prt Tryz.prog 12 [x0] (impl_CanonicalWord_F x0):=pfun (fn:=Tryz.f12) (m:=[.s,.s,.s,.s,.s,.s,.s]) (c:=1 <= 18) rfl (fun h0 Rt=>by kernel_rfl) (by decide)
def impl_AreAlike_F (x0 x1:V) (hi:Hp) (Rt:Hp -> V -> Prop):Prop :=
pbox hi 66 28 (cellsV x0) fun a1 =>
pbox a1 67 28 (cellsV x1) fun b1 =>
pld b1 (some 33) (fun c1 d1 =>
pcal Tryz.prog 43 71 d1 (fun e1 f1 =>
VL (lift1 (aun .not) e1) fun g1 =>
pgk false f1 (fun h1 i1=>pld f1 (some 33) (fun j1 k1 =>
i1 j1 k1) (.ptr 67 0)) (fun l1 m1 n1 =>
pgk false n1 (fun o1 p1=>pcal Tryz.prog 43 75 n1 (fun q1 r1 =>
p1 q1 r1) [m1]) (fun s1 t1 u1 =>
pgk false u1 (fun v1 w1=>VL (lift1 (aun .not) t1) fun y1 =>
w1 y1 u1) (fun z1 a2 b2 =>
VL (vpick z1 (.bool true) a2) fun c2 =>
pcond (
Rt b2 (.tup [(.bool false),(.int .i64 1)])) (
pld b2 none (fun d2 e2 =>
pld e2 none (fun f2 g2 =>
VL (lift2 (abin .eql) d2 f2) fun h2 =>
pgk true g2 (fun i2 j2=>pld g2 (some 33) (fun k2 l2 =>
j2 k2 l2) (.ptr 66 0)) (fun m2 n2 o2 =>
pgk true o2 (fun p2 q2=>pld o2 (some 33) (fun r2 s2 =>
q2 r2 s2) (.ptr 67 0)) (fun t2 u2 v2 =>
pgk true v2 (fun w2 y2=>pcalp Tryz.prog 62 85 v2 (fun z2 a3 =>
y2 z2 a3) [n2]) (fun b3 c3 d3 =>
pgk true d3 (fun e3 f3=>pcal Tryz.prog 62 87 d3 (fun g3 h3 =>
f3 g3 h3) [u2]) (fun i3 j3 k3 =>
pgk true k3 (fun l3 m3=>VL (veqa false true [(.i .i64),(.i .u8),(.i .u8),(.i .u8),(.i .u8),(.i .u8),(.i .u8),(.i .u8),(.i .u8),(.i .u8),(.i .u8),(.i .u8),(.i .u8),(.i .u8),(.i .u8),(.i .u8),(.i .u8),(.i .u8),(.i .u8),(.i .u8),(.i .u8),(.i .u8),(.i .u8),(.i .u8),(.i .u8),(.i .u8),(.i .u8),(.i .u8),(.i .u8),(.i .u8),(.i .u8),(.i .u8),(.i .u8)] c3 j3) fun n3 =>
m3 n3 k3) (fun o3 p3 q3 =>
VL (vpick o3 p3 (.bool false)) fun r3 =>
Rt q3 (.tup [r3,(.int .i64 0)])) i3) b3) t2) m2) h2) (.ptr 67 0)) (.ptr 66 0)) c2) s1) l1) g1) [c1]) (.ptr 66 0)
theorem impl_AreAlike_f {x0 x1:V}:Prt Tryz.prog 13 [x0,x1] (impl_AreAlike_F x0 x1):=pfun (fn:=Tryz.f13) (m:=[.s,.s,.s,.s,.s]) (c:=2 <= 26) rfl (fun h0 Rt=>by kernel_rfl) (by decide)
def spec_DrawSymmetryOf_F (x0:V) (hi:Hp) (Rt:Hp -> V -> Prop):Prop :=
palloc hi 66 28 ([(.int .i64 0)] ++ (vi .u8 (List.replicate 32 0))) fun a1 =>
pcal Tryz.prog 49 68 a1 (fun b1 c1 =>
pcal Tryz.prog 63 69 c1 (fun d1 e1 =>
pst e1 33 (cellsV d1) (fun f1 g1 =>
VL (pcellV g1 (some 33) (.ptr 66 0)) fun h1 =>
Rt g1 h1) (.ptr 66 0)) [b1]) [x0]
theorem spec_DrawSymmetryOf_f {x0:V}:Prt Tryz.prog 14 [x0] (spec_DrawSymmetryOf_F x0):=pfun (fn:=Tryz.f14) (m:=[.s,.s]) (c:=1 <= 6) rfl (fun h0 Rt=>by kernel_rfl) (by decide)
def impl_SymmetryOf_F (x0:V) (hi:Hp) (Rt:Hp -> V -> Prop):Prop :=
pbox hi 65 28 (cellsV x0) fun a1 =>
pld a1 (some 33) (fun b1 c1 =>
pcal Tryz.prog 57 72 c1 (fun d1 e1 =>
VL (lift2 (abin .neq) d1 (.int .i64 0)) fun f1 =>
pcond (
Rt e1 (.tup [(.int .i64 0),d1])) (
pld e1 (some 33) (fun g1 h1 =>
pcal Tryz.prog 61 78 h1 (fun i1 j1 =>
VL (vext 0 i1) fun k1 =>
VL (vext 1 i1) fun l1 =>
Rt j1 (.tup [l1,(.int .i64 0)])) [g1]) (.ptr 65 0)) f1) [b1,.nils]) (.ptr 65 0)
theorem impl_SymmetryOf_f {x0:V}:Prt Tryz.prog 15 [x0] (impl_SymmetryOf_F x0):=pfun (fn:=Tryz.f15) (m:=[.s,.s,.s,.s,.s,.s,.s]) (c:=1 <= 18) rfl (fun h0 Rt=>by kernel_rfl) (by decide)
def spec_SymmetryOf_F (x0:V) (hi:Hp) (Rt:Hp -> V -> Prop):Prop :=
pbox hi 65 28 (cellsV x0) fun a1 =>
pld a1 (some 33) (fun b1 c1 =>
pcal Tryz.prog 64 72 c1 (fun d1 e1 =>
VL (lift2 (abin .neq) d1 (.int .i64 0)) fun f1 =>
pcond (
Rt e1 (.tup [(.int .i64 0),d1])) (
pld e1 (some 33) (fun g1 h1 =>
pcal Tryz.prog 65 78 h1 (fun i1 j1 =>
VL (vext 0 i1) fun k1 =>
VL (vext 1 i1) fun l1 =>
Rt j1 (.tup [l1,(.int .i64 0)])) [g1]) (.ptr 65 0)) f1) [b1]) (.ptr 65 0)
theorem spec_SymmetryOf_f {x0:V}:Prt Tryz.prog 16 [x0] (spec_SymmetryOf_F x0):=pfun (fn:=Tryz.f16) (m:=[.s,.s,.s,.s,.s,.s,.s]) (c:=1 <= 18) rfl (fun h0 Rt=>by kernel_rfl) (by decide)
def spec_DrawWordOfTree_F (x0:V) (hi:Hp) (Rt:Hp -> V -> Prop):Prop :=
palloc hi 66 28 ([(.int .i64 0)] ++ (vi .u8 (List.replicate 32 0))) fun a1 =>
pcal Tryz.prog 49 71 a1 (fun b1 c1 =>
pcal Tryz.prog 63 73 c1 (fun d1 e1 =>
palloc e1 69 28 ([(.int .i64 0)] ++ (vi .u8 (List.replicate 32 0))) fun f1 =>
pst f1 33 (cellsV d1) (fun g1 h1 =>
pldb h1 (some 33) (fun i1 j1 =>
pldb j1 none (fun k1 l1 =>
pcala Tryz.prog 51 79 l1 (fun m1 n1 =>
VL (lift2 (abin .quo) m1 (.int .i64 23)) fun o1 =>
VL (lift2 (abin .add) k1 o1) fun p1 =>
pcala Tryz.prog 51 82 n1 (fun q1 r1 =>
pcala Tryz.prog 51 84 r1 (fun s1 t1 =>
VL (lift2 (abin .quo) s1 (.int .i64 39)) fun u1 =>
VL (lift2 (abin .sub) q1 u1) fun v1 =>
pst t1 33 (cellsV i1) (fun w1 y1 =>
VL (pcellV y1 (some 33) (.ptr 66 0)) fun z1 =>
Rt y1 (.tup [z1,v1])) (.ptr 66 0)) [(.ptr 69 0)] [b1,(.int .i64 40)]) [(.ptr 69 0)] [b1,p1]) [(.ptr 69 0),(.ptr 69 0)] [b1,(.int .i64 24)]) (.ptr 69 0) (.ptr 69 0)) (.ptr 69 0) (.ptr 69 0)) (.ptr 69 0)) [b1]) [x0]
theorem spec_DrawWordOfTree_f {x0:V}:Prt Tryz.prog 17 [x0] (spec_DrawWordOfTree_F x0):=pfun (fn:=Tryz.f17) (m:=[.s,.s,.s,.s]) (c:=1 <= 23) rfl (fun h0 Rt=>by kernel_rfl) (by decide)
def spec_WordOfTree_F (x0 x1:V) (hi:Hp) (Rt:Hp -> V -> Prop):Prop :=
pbox hi 66 28 (cellsV x0) fun a1 =>
pld a1 (some 33) (fun b1 c1 =>
pcal Tryz.prog 66 72 c1 (fun d1 e1 =>
VL (lift1 (aun .not) d1) fun f1 =>
pcond (
Rt e1 (.tup [(.str []),(.int .i64 1)])) (
pld e1 none (fun g1 h1 =>
VL (lift2 (abin .sub) g1 (.int .i64 1)) fun i1 =>
pcal Tryz.prog 67 79 h1 (fun j1 k1 =>
VL (lift1 (aun .not) j1) fun l1 =>
pcond (
Rt k1 (.tup [(.str []),(.int .i64 2)])) (
pld k1 (some 33) (fun m1 n1 =>
pcal Tryz.prog 68 83 n1 (fun o1 p1 =>
VL (lift1 (aun .not) o1) fun q1 =>
pcond (
Rt p1 (.tup [(.str []),(.int .i64 5)])) (
pld p1 (some 33) (fun r1 s1 =>
pcal Tryz.prog 69 87 s1 (fun t1 u1 =>
Rt u1 (.tup [t1,(.int .i64 0)])) [r1,x1]) (.ptr 66 0)) q1) [m1]) (.ptr 66 0)) l1) [x1,(.int .i64 0),i1]) (.ptr 66 0)) f1) [b1]) (.ptr 66 0)
theorem spec_WordOfTree_f {x0 x1:V}:Prt Tryz.prog 18 [x0,x1] (spec_WordOfTree_F x0 x1):=pfun (fn:=Tryz.f18) (m:=[.s,.s,.s,.s,.s,.s,.s,.s,.s]) (c:=2 <= 24) rfl (fun h0 Rt=>by kernel_rfl) (by decide)
def spec_DrawCanonicalWord_F (x0:V) (hi:Hp) (Rt:Hp -> V -> Prop):Prop :=
palloc hi 66 28 ([(.int .i64 0)] ++ (vi .u8 (List.replicate 32 0))) fun a1 =>
pcal Tryz.prog 49 68 a1 (fun b1 c1 =>
pcal Tryz.prog 63 69 c1 (fun d1 e1 =>
pst e1 33 (cellsV d1) (fun f1 g1 =>
VL (pcellV g1 (some 33) (.ptr 66 0)) fun h1 =>
Rt g1 h1) (.ptr 66 0)) [b1]) [x0]
theorem spec_DrawCanonicalWord_f {x0:V}:Prt Tryz.prog 19 [x0] (spec_DrawCanonicalWord_F x0):=pfun (fn:=Tryz.f19) (m:=[.s,.s]) (c:=1 <= 6) rfl (fun h0 Rt=>by kernel_rfl) (by decide)
def spec_CanonicalWord_F (x0:V) (hi:Hp) (Rt:Hp -> V -> Prop):Prop :=
pbox hi 65 28 (cellsV x0) fun a1 =>
pld a1 (some 33) (fun b1 c1 =>
pcal Tryz.prog 64 72 c1 (fun d1 e1 =>
VL (lift2 (abin .neq) d1 (.int .i64 0)) fun f1 =>
pcond (
Rt e1 (.tup [(.str []),d1])) (
pld e1 (some 33) (fun g1 h1 =>
pcal Tryz.prog 65 78 h1 (fun i1 j1 =>
VL (vext 0 i1) fun k1 =>
VL (vext 1 i1) fun l1 =>
Rt j1 (.tup [k1,(.int .i64 0)])) [g1]) (.ptr 65 0)) f1) [b1]) (.ptr 65 0)
theorem spec_CanonicalWord_f {x0:V}:Prt Tryz.prog 20 [x0] (spec_CanonicalWord_F x0):=pfun (fn:=Tryz.f20) (m:=[.s,.s,.s,.s,.s,.s,.s]) (c:=1 <= 18) rfl (fun h0 Rt=>by kernel_rfl) (by decide)
def spec_DrawIsTree_F (x0:V) (hi:Hp) (Rt:Hp -> V -> Prop):Prop :=
palloc hi 66 28 ([(.int .i64 0)] ++ (vi .u8 (List.replicate 32 0))) fun a1 =>
pcal Tryz.prog 49 69 a1 (fun b1 c1 =>
pcal Tryz.prog 51 71 c1 (fun d1 e1 =>
VL (lift2 (abin .eql) d1 (.int .i64 0)) fun f1 =>
pcond (
pcal Tryz.prog 70 74 e1 (fun g1 h1 =>
pst h1 33 (cellsV g1) (fun i1 j1 =>
VL (pcellV j1 (some 33) (.ptr 66 0)) fun k1 =>
Rt j1 k1) (.ptr 66 0)) [b1,(.int .i64 6)]) (
pcal Tryz.prog 63 76 e1 (fun l1 m1 =>
pst m1 33 (cellsV l1) (fun n1 o1 =>
VL (pcellV o1 (some 33) (.ptr 66 0)) fun p1 =>
Rt o1 p1) (.ptr 66 0)) [b1]) f1) [b1,(.int .i64 3)]) [x0]
theorem spec_DrawIsTree_f {x0:V}:Prt Tryz.prog 21 [x0] (spec_DrawIsTree_F x0):=pfun (fn:=Tryz.f21) (m:=[.s,.s,.s,.s,.s,.s]) (c:=1 <= 13) rfl (fun h0 Rt=>by kernel_rfl) (by decide)
def spec_IsTree_F (x0:V) (hi:Hp) (Rt:Hp -> V -> Prop):Prop :=
pbox hi 65 28 (cellsV x0) fun a1 =>
pld a1 (some 33) (fun b1 c1 =>
pcal Tryz.prog 66 69 c1 (fun d1 e1 =>
VL (lift1 (aun .not) d1) fun f1 =>
pcond (
Rt e1 (.tup [(.bool false),(.int .i64 1)])) (
pld e1 (some 33) (fun g1 h1 =>
pcal Tryz.prog 68 72 h1 (fun i1 j1 =>
Rt j1 (.tup [i1,(.int .i64 0)])) [g1]) (.ptr 65 0)) f1) [b1]) (.ptr 65 0)
theorem spec_IsTree_f {x0:V}:Prt Tryz.prog 22 [x0] (spec_IsTree_F x0):=pfun (fn:=Tryz.f22) (m:=[.s,.s,.s,.s,.s]) (c:=1 <= 9) rfl (fun h0 Rt=>by kernel_rfl) (by decide)
def impl_IsDessin_F (x0:V) (hi:Hp) (Rt:Hp -> V -> Prop):Prop :=
pbox hi 65 28 (cellsV x0) fun a1 =>
pld a1 none (fun b1 c1 =>
pld c1 (some 16) (fun d1 e1 =>
pcal Tryz.prog 86 73 e1 (fun f1 g1 =>
pgk true g1 (fun h1 i1=>i1 (.ptr 65 17) g1) (fun j1 k1 l1 =>
pgk true l1 (fun m1 n1=>pld l1 (some 16) (fun o1 p1 =>
n1 o1 p1) k1) (fun q1 r1 s1 =>
pgk true s1 (fun t1 u1=>u1 b1 s1) (fun v1 w1 y1 =>
pgk true y1 (fun z1 a2=>pcal Tryz.prog 86 78 y1 (fun b2 c2 =>
a2 b2 c2) [r1,w1]) (fun d2 e2 f2 =>
VL (vpick d2 e2 (.bool false)) fun g2 =>
pgk true f2 (fun h2 i2=>i2 b1 f2) (fun j2 k2 l2 =>
pgk true l2 (fun m2 n2=>n2 (.ptr 65 1) l2) (fun o2 p2 q2 =>
pgk true q2 (fun r2 s2=>pld q2 (some 16) (fun t2 u2 =>
s2 t2 u2) p2) (fun v2 w2 y2 =>
pgk true y2 (fun z2 a3=>a3 (.ptr 65 17) y2) (fun b3 c3 d3 =>
pgk true d3 (fun e3 f3=>pld d3 (some 16) (fun g3 h3 =>
f3 g3 h3) c3) (fun i3 j3 k3 =>
pgk true k3 (fun l3 m3=>pmks k3 86 26 32 2 (fun n3 =>
m3 (.rf 86 0 2) n3) (vfill (vi .u8 (List.replicate 32 0)) [(0,16,w2),(16,16,j3)])) (fun o3 p3 q3 =>
pgk true q3 (fun r3 s3=>pcal Tryz.prog 87 87 q3 (fun t3 u3 =>
s3 t3 u3) [k2,p3]) (fun v3 w3 y3 =>
pgk true y3 (fun z3 a4=>a4 b1 y3) (fun b4 c4 d4 =>
pgk true d4 (fun e4 f4=>VL (lift2 (abin .eql) w3 c4) fun g4 =>
f4 g4 d4) (fun h4 i4 j4 =>
VL (vpick h4 i4 (.bool false)) fun k4 =>
Rt j4 k4) b4) v3) o3) i3) b3) v2) o2) j2) g2) v1) q1) j1) f1) [d1,b1]) (.ptr 65 1)) (.ptr 65 0)
theorem impl_IsDessin_f {x0:V}:Prt Tryz.prog 43 [x0] (impl_IsDessin_F x0):=pfun (fn:=Tryz.f43) (m:=[.s,.s,.s]) (c:=1 <= 27) rfl (fun h0 Rt=>by kernel_rfl) (by decide)
def spec_l01From_F (x0:V) (hi:Hp) (Rt:Hp -> V -> Prop):Prop :=
VL (vlenS x0) fun a1 =>
VL (lift1 (acvi .u64) a1) fun b1 =>
VL (lift2 (abin .add) (.int .u64 8117) b1) fun c1 =>
VL (vbld (vfill [.nils,(.int .i64 0),(.int .u64 0)] [(0,1,x0),(2,1,c1)])) fun d1 =>
pbox hi 75 96 (cellsV d1) fun e1 =>
LP [4] [0,3] (fun f1 g1 h1 i1 =>
VL (vlenS (g1.getD 0 .und)) fun j1 =>
VL (lift2 (abin .lss) (f1.getD 0 .und) j1) fun k1 =>
pgk true h1 (fun l1 m1=>m1 (f1.getD 0 .und) h1) (fun n1 o1 p1 =>
pgk true p1 (fun q1 r1=>VL (lift2 (abin .lss) o1 (.int .i64 4096)) fun s1 =>
r1 s1 p1) (fun t1 u1 v1 =>
VL (vpick t1 u1 (.bool false)) fun w1 =>
pcond (
VL (vfa 0 (g1.getD 1 .und)) fun y1 =>
VL (vfa 2 y1) fun z1 =>
pld v1 none (fun a2 b2 =>
VL (lift2 (abin .mul) a2 (.int .u64 1099511628211)) fun c2 =>
VL (vixS 1 (g1.getD 0 .und) (f1.getD 0 .und)) fun d2 =>
pld b2 none (fun e2 f2 =>
VL (lift1 (acvi .u64) e2) fun g2 =>
VL (lift2 (abin .add) c2 g2) fun h2 =>
VL (lift2 (abin .add) h2 (.int .u64 23)) fun i2 =>
VL (vfa 0 (g1.getD 1 .und)) fun j2 =>
VL (vfa 2 j2) fun k2 =>
pst f2 1 (cellsV i2) (fun l2 m2 =>
VL (lift2 (abin .add) (f1.getD 0 .und) (.int .i64 1)) fun n2 =>
i1 [n2] [(g1.getD 0 .und),(g1.getD 1 .und)] m2) k2) d2) z1) (
Rt v1 (g1.getD 1 .und)) w1) n1) k1) [(.int .i64 0)] [x0,(.ptr 75 0)] e1
theorem spec_l01From_f {x0:V}:Prt Tryz.prog 49 [x0] (spec_l01From_F x0):=pfun (fn:=Tryz.f49) (m:=[.s,.s,.s,.s,.l [4] [0,3],.s,.s,.s,.s]) (c:=1 <= 38) rfl (fun h0 Rt=>by kernel_rfl) (by decide)
def spec_l05DrawWord_F (x0 x1:V) (hi:Hp) (Rt:Hp -> V -> Prop):Prop :=
LP [5,6,7] [0] (fun a1 b1 c1 d1 =>
VL (lift2 (abin .gtr) (a1.getD 1 .und) (.int .i64 0)) fun e1 =>
pgk false c1 (fun f1 g1=>g1 (a1.getD 2 .und) c1) (fun h1 i1 j1 =>
pgk false j1 (fun k1 l1=>VL (lift2 (abin .gtr) i1 (.int .i64 0)) fun m1 =>
l1 m1 j1) (fun n1 o1 p1 =>
VL (vpick n1 (.bool true) o1) fun q1 =>
pcond (
VL (lift2 (abin .gtr) (a1.getD 1 .und) (.int .i64 0)) fun r1 =>
pgk true p1 (fun s1 t1=>t1 (a1.getD 2 .und) p1) (fun u1 v1 w1 =>
pgk true w1 (fun y1 z1=>VL (lift2 (abin .eql) v1 (.int .i64 0)) fun a2 =>
z1 a2 w1) (fun b2 c2 d2 =>
pgk true d2 (fun e2 f2=>f2 c2 d2) (fun g2 h2 i2 =>
pgk false i2 (fun j2 k2=>k2 (b1.getD 0 .und) i2) (fun l2 m2 n2 =>
pgk false n2 (fun o2 p2=>pcal Tryz.prog 51 86 n2 (fun q2 r2 =>
p2 q2 r2) [m2,(.int .i64 2)]) (fun s2 t2 u2 =>
pgk false u2 (fun v2 w2=>VL (lift2 (abin .eql) t2 (.int .i64 0)) fun y2 =>
w2 y2 u2) (fun z2 a3 b3 =>
pgk true b3 (fun c3 d3=>VL (vpick z2 (.bool true) a3) fun e3 =>
d3 e3 b3) (fun f3 g3 h3 =>
VL (vpick f3 g3 (.bool false)) fun i3 =>
pcond (
VL (lift2 (abin .add) (a1.getD 0 .und) (.str [40])) fun j3 =>
VL (lift2 (abin .sub) (a1.getD 1 .und) (.int .i64 1)) fun k3 =>
VL (lift2 (abin .add) (a1.getD 2 .und) (.int .i64 1)) fun l3 =>
d1 [j3,k3,l3] [(b1.getD 0 .und)] h3) (
VL (lift2 (abin .add) (a1.getD 0 .und) (.str [41])) fun m3 =>
VL (lift2 (abin .sub) (a1.getD 2 .und) (.int .i64 1)) fun n3 =>
d1 [m3,(a1.getD 1 .und),n3] [(b1.getD 0 .und)] h3) i3) g2) s2) l2) h2) b2) u1) r1) (
Rt p1 (a1.getD 0 .und)) q1) h1) e1) [(.str []),x1,(.int .i64 0)] [x0] hi
theorem spec_l05DrawWord_f {x0 x1:V}:Prt Tryz.prog 50 [x0,x1] (spec_l05DrawWord_F x0 x1):=pfun (fn:=Tryz.f50) (m:=[.s,.s,.s,.l [5,6,7] [0],.s,.s,.s,.s,.s,.s,.s]) (c:=2 <= 37) rfl (fun h0 Rt=>by kernel_rfl) (by decide)
def spec_l01Next_F (x0 x1:V) (hi:Hp) (Rt:Hp -> V -> Prop):Prop :=
VL (lift2 (abin .lss) x1 (.int .i64 1)) fun a1 =>
pcond (
Rt hi (.int .i64 0)) (
VL (vfa 0 x0) fun b1 =>
VL (vfa 2 b1) fun c1 =>
pld hi none (fun d1 e1 =>
VL (lift2 (abin .mul) d1 (.int .u64 6364136223846793005)) fun f1 =>
VL (lift2 (abin .add) f1 (.int .u64 1442695040888963407)) fun g1 =>
VL (vfa 0 x0) fun h1 =>
VL (vfa 2 h1) fun i1 =>
pst e1 1 (cellsV g1) (fun j1 k1 =>
VL (vfa 0 x0) fun l1 =>
VL (vfa 2 l1) fun m1 =>
pld k1 none (fun n1 o1 =>
VL (lift2 (abin .shr) n1 (.int .u64 33)) fun p1 =>
VL (lift2 (abin .and) p1 (.int .u64 16777215)) fun q1 =>
VL (lift1 (acvi .i64) q1) fun r1 =>
JN (fun s1 =>
VL (vfa 0 x0) fun t1 =>
VL (vfa 1 t1) fun u1 =>
pld o1 none (fun v1 w1 =>
VL (vfa 0 x0) fun y1 =>
VL (vfa 0 y1) fun z1 =>
pld w1 none (fun a2 b2 =>
VL (vlenS a2) fun c2 =>
VL (lift2 (abin .lss) v1 c2) fun d2 =>
pcond (
VL (vfa 0 x0) fun e2 =>
VL (vfa 0 e2) fun f2 =>
pld b2 none (fun g2 h2 =>
VL (vfa 0 x0) fun i2 =>
VL (vfa 1 i2) fun j2 =>
pld h2 none (fun k2 l2 =>
VL (vixS 1 g2 k2) fun m2 =>
pld l2 none (fun n2 o2 =>
VL (lift1 (acvi .i64) n2) fun p2 =>
VL (lift2 (abin .add) r1 p2) fun q2 =>
VL (vfa 0 x0) fun r2 =>
VL (vfa 1 r2) fun s2 =>
pld o2 none (fun t2 u2 =>
VL (lift2 (abin .add) t2 (.int .i64 1)) fun v2 =>
VL (vfa 0 x0) fun w2 =>
VL (vfa 1 w2) fun y2 =>
pst u2 1 (cellsV v2) (fun z2 a3 =>
s1 [x1,q2] a3) y2) s2) m2) j2) f2) (
s1 [x1,r1] b2) d2) z1) u1) fun b3 c3 =>
VL (lift2 (abin .rem) (b3.getD 1 .und) (b3.getD 0 .und)) fun d3 =>
Rt c3 d3) m1) i1) c1) a1
theorem spec_l01Next_f {x0 x1:V}:Prt Tryz.prog 51 [x0,x1] (spec_l01Next_F x0 x1):=pfun (fn:=Tryz.f51) (m:=[.s,.s,.s,.s,.s,.s,.j [1,5],.s,.s,.s]) (c:=2 <= 58) rfl (fun h0 Rt=>by kernel_rfl) (by decide)
def spec_l01Damage_F (x0 x1:V) (hi:Hp) (Rt:Hp -> V -> Prop):Prop :=
pmks hi 72 9 13 13 (fun a1 =>
VL (vlenS (.rf 72 0 13)) fun b1 =>
pcal Tryz.prog 51 77 a1 (fun c1 d1 =>
VL (vixS 1 (.rf 72 0 13) c1) fun e1 =>
pld d1 none (fun f1 g1 =>
VL (vlenT x1) fun h1 =>
VL (lift2 (abin .eql) h1 (.int .i64 0)) fun i1 =>
pcond (
Rt g1 f1) (
VL (vlenT x1) fun j1 =>
pcal Tryz.prog 51 87 g1 (fun k1 l1 =>
pcal Tryz.prog 51 89 l1 (fun m1 n1 =>
VL (lift2 (abin .eql) m1 (.int .i64 0)) fun o1 =>
pcond (
VL (vslT x1 none (some k1)) fun p1 =>
VL (lift2 (abin .add) p1 f1) fun q1 =>
VL (lift2 (abin .add) k1 (.int .i64 1)) fun r1 =>
VL (vslT x1 (some r1) none) fun s1 =>
VL (lift2 (abin .add) q1 s1) fun t1 =>
Rt n1 t1) (
VL (lift2 (abin .eql) m1 (.int .i64 1)) fun u1 =>
pcond (
VL (vslT x1 none (some k1)) fun v1 =>
VL (lift2 (abin .add) k1 (.int .i64 1)) fun w1 =>
VL (vslT x1 (some w1) none) fun y1 =>
VL (lift2 (abin .add) v1 y1) fun z1 =>
Rt n1 z1) (
VL (vslT x1 none (some k1)) fun a2 =>
VL (lift2 (abin .add) a2 f1) fun b2 =>
VL (vslT x1 (some k1) none) fun c2 =>
VL (lift2 (abin .add) b2 c2) fun d2 =>
Rt n1 d2) u1) o1) [x0,(.int .i64 3)]) [x0,j1]) i1) e1) [x0,b1]) (vfill (vt (List.replicate 13 [])) [(0,1,(.str [48])),(1,1,(.str [49])),(2,1,(.str [50])),(3,1,(.str [57])),(4,1,(.str [120])),(5,1,(.str [40])),(6,1,(.str [41])),(7,1,(.str [32])),(8,1,(.str [124])),(9,1,(.str [44])),(10,1,(.str [45])),(11,1,(.str [43])),(12,1,(.str [10]))])
theorem spec_l01Damage_f {x0 x1:V}:Prt Tryz.prog 52 [x0,x1] (spec_l01Damage_F x0 x1):=pfun (fn:=Tryz.f52) (m:=[.s,.s,.s,.s,.s,.s,.s,.s,.s,.s,.s,.s,.s,.s]) (c:=2 <= 57) rfl (fun h0 Rt=>by kernel_rfl) (by decide)
def impl_isBrackets_F (x0:V) (hi:Hp) (Rt:Hp -> V -> Prop):Prop :=
VL (vlenT x0) fun a1 =>
VL (lift2 (abin .lss) a1 (.int .i64 2)) fun b1 =>
pgk false hi (fun c1 d1=>d1 x0 hi) (fun e1 f1 g1 =>
pgk false g1 (fun h1 i1=>VL (vlenT f1) fun j1 =>
i1 j1 g1) (fun k1 l1 m1 =>
pgk false m1 (fun n1 o1=>VL (lift2 (abin .gtr) l1 (.int .i64 32)) fun p1 =>
o1 p1 m1) (fun q1 r1 s1 =>
VL (vpick q1 (.bool true) r1) fun t1 =>
pcond (
Rt s1 (.bool false)) (
VL (vlenT x0) fun u1 =>
LP [3,15] [0,14] (fun v1 w1 y1 z1 =>
VL (lift2 (abin .lss) (v1.getD 1 .und) (w1.getD 1 .und)) fun a2 =>
pcond (
JN (fun b2 =>
VL (vixT (w1.getD 0 .und) (v1.getD 1 .und)) fun c2 =>
VL (lift2 (abin .eql) c2 (.int .u8 40)) fun d2 =>
pcond (
VL (lift2 (abin .add) (v1.getD 0 .und) (.int .i64 1)) fun e2 =>
b2 [(w1.getD 0 .und),e2,(w1.getD 1 .und),(v1.getD 1 .und)] y1) (
VL (lift2 (abin .eql) c2 (.int .u8 41)) fun f2 =>
pcond (
VL (lift2 (abin .sub) (v1.getD 0 .und) (.int .i64 1)) fun g2 =>
b2 [(w1.getD 0 .und),g2,(w1.getD 1 .und),(v1.getD 1 .und)] y1) (
Rt y1 (.bool false)) f2) d2) fun h2 i2 =>
VL (lift2 (abin .lss) (h2.getD 1 .und) (.int .i64 0)) fun j2 =>
pcond (
Rt i2 (.bool false)) (
VL (lift2 (abin .add) (h2.getD 3 .und) (.int .i64 1)) fun k2 =>
z1 [(h2.getD 1 .und),k2] [(h2.getD 0 .und),(h2.getD 2 .und)] i2) j2) (
VL (lift2 (abin .eql) (v1.getD 0 .und) (.int .i64 0)) fun l2 =>
Rt y1 l2) a2) [(.int .i64 0),(.int .i64 0)] [x0,u1] s1) t1) k1) e1) b1
theorem impl_isBrackets_f {x0:V}:Prt Tryz.prog 53 [x0] (impl_isBrackets_F x0):=pfun (fn:=Tryz.f53) (m:=[.s,.s,.s,.s,.s,.s,.s,.l [3,15] [0,14],.s,.s,.s,.s,.j [0,3,14,15],.s,.s,.s,.s,.s,.s,.s]) (c:=1 <= 34) rfl (fun h0 Rt=>by kernel_rfl) (by decide)
def impl_treeOfWord_F (x0:V) (hi:Hp) (Rt:Hp -> V -> Prop):Prop :=
palloc hi 66 28 ([(.int .i64 0)] ++ (vi .u8 (List.replicate 32 0))) fun a1 =>
VL (vlenT x0) fun b1 =>
VL (lift2 (abin .quo) b1 (.int .i64 2)) fun c1 =>
VL (vbld (vfill ([(.int .i64 0)] ++ (vi .u8 (List.replicate 32 0))) [(0,1,c1)])) fun d1 =>
palloc a1 67 28 ([(.int .i64 0)] ++ (vi .u8 (List.replicate 32 0))) fun e1 =>
pst e1 33 (cellsV d1) (fun f1 g1 =>
pmks g1 77 5 0 0 (fun h1 =>
pmks h1 78 22 1 1 (fun i1 =>
palloc i1 68 99 [.nils] fun j1 =>
pst j1 1 (cellsV (.rf 78 0 1)) (fun k1 l1 =>
VL (vmkf (.func 90) [] [(.ptr 68 0),(.ptr 67 0)]) fun m1 =>
VL (vlenT x0) fun n1 =>
LP [5,18] [0,2,3,4,6,17] (fun o1 p1 q1 r1 =>
VL (lift2 (abin .lss) (o1.getD 1 .und) (p1.getD 5 .und)) fun s1 =>
pcond (
JN (fun t1 =>
VL (vixT (p1.getD 0 .und) (o1.getD 1 .und)) fun u1 =>
VL (lift2 (abin .eql) u1 (.int .u8 41)) fun v1 =>
pcond (
pcallv Tryz.prog [] 90 q1 (fun w1 y1 =>
t1 [(p1.getD 0 .und),(p1.getD 1 .und),(p1.getD 2 .und),(p1.getD 3 .und),(o1.getD 0 .und),(p1.getD 4 .und),(p1.getD 5 .und),(o1.getD 1 .und)] y1) (p1.getD 4 .und)) (
pld q1 none (fun z1 a2 =>
VL (vlenS z1) fun b2 =>
VL (lift2 (abin .sub) b2 (.int .i64 1)) fun c2 =>
pldb a2 none (fun d2 e2 =>
pld e2 none (fun f2 g2 =>
VL (vixS 1 f2 c2) fun h2 =>
pld g2 none (fun i2 j2 =>
pmks j2 101 5 1 1 (fun k2 =>
papp k2 (fun l2 m2=>papV 5 1 1 102 k2 (fun n2 o2 =>
VL (vixS 1 d2 c2) fun p2 =>
pst o2 1 (cellsV n2) (fun q2 r2 =>
pld r2 none (fun s2 t2 =>
pmks t2 106 5 1 1 (fun u2 =>
pmks u2 107 22 1 1 (fun v2 =>
papp v2 (fun w2 y2=>papV 22 1 24 108 v2 (fun z2 a3 =>
pst a3 1 (cellsV z2) (fun b3 c3 =>
VL (lift2 (abin .add) (o1.getD 0 .und) (.int .u8 1)) fun d3 =>
t1 [(p1.getD 0 .und),(p1.getD 1 .und),(p1.getD 2 .und),(p1.getD 3 .und),d3,(p1.getD 4 .und),(p1.getD 5 .und),(o1.getD 1 .und)] c3) (p1.getD 3 .und)) w2 y2 s2) (pavs v2 s2 []) (preadS 1 v2 (.rf 107 0 1))) (vfill [.nils] [(0,1,(.rf 106 0 1))])) (vfill [(.int .u8 0)] [(0,1,(o1.getD 0 .und))])) (p1.getD 3 .und)) p2) l2 m2 i2) (pavs k2 i2 [(p1.getD 3 .und)]) (preadS 1 k2 (.rf 101 0 1))) (vfill [(.int .u8 0)] [(0,1,(o1.getD 0 .und))])) h2) (p1.getD 3 .und)) (p1.getD 3 .und) (p1.getD 3 .und)) (p1.getD 3 .und)) v1) fun e3 f3 =>
VL (lift2 (abin .add) (e3.getD 7 .und) (.int .i64 1)) fun g3 =>
r1 [(e3.getD 4 .und),g3] [(e3.getD 0 .und),(e3.getD 1 .und),(e3.getD 2 .und),(e3.getD 3 .und),(e3.getD 5 .und),(e3.getD 6 .und)] f3) (
pcallv Tryz.prog [] 113 q1 (fun h3 i3 =>
pld i3 (some 33) (fun j3 k3 =>
pst k3 33 (cellsV j3) (fun l3 m3 =>
VL (pcellV m3 (some 33) (p1.getD 1 .und)) fun n3 =>
Rt m3 n3) (p1.getD 1 .und)) (p1.getD 2 .und)) (p1.getD 4 .und)) s1) [(.int .u8 0),(.int .i64 0)] [x0,(.ptr 66 0),(.ptr 67 0),(.ptr 68 0),m1,n1] l1) (.ptr 68 0)) (vfill [.nils] [(0,1,(.rf 77 0 0))])) (vfill [] [])) (.ptr 67 0)
theorem impl_treeOfWord_f {x0:V}:Prt Tryz.prog 54 [x0] (impl_treeOfWord_F x0):=pfun (fn:=Tryz.f54) (m:=[.s,.s,.s,.s,.s,.s,.s,.l [5,18] [0,2,3,4,6,17],.s,.s,.j [0,2,3,4,5,6,17,18],.s,.s,.s,.s,.s,.s,.s,.s,.s]) (c:=1 <= 51) rfl (fun h0 Rt=>by kernel_rfl) (by decide)
def spec_l05Word_F (x0:V) (hi:Hp) (Rt:Hp -> V -> Prop):Prop :=
LP [3,4] [0] (fun a1 b1 c1 d1 =>
VL (vlenT (b1.getD 0 .und)) fun e1 =>
VL (lift2 (abin .lss) (a1.getD 1 .und) e1) fun f1 =>
pcond (
JN (fun g1 =>
VL (vixT (b1.getD 0 .und) (a1.getD 1 .und)) fun h1 =>
VL (lift2 (abin .eql) h1 (.int .u8 40)) fun i1 =>
pcond (
VL (lift2 (abin .add) (a1.getD 0 .und) (.int .i64 1)) fun j1 =>
g1 [(b1.getD 0 .und),j1,(a1.getD 1 .und)] c1) (
VL (lift2 (abin .eql) h1 (.int .u8 41)) fun k1 =>
pcond (
VL (lift2 (abin .sub) (a1.getD 0 .und) (.int .i64 1)) fun l1 =>
g1 [(b1.getD 0 .und),l1,(a1.getD 1 .und)] c1) (
Rt c1 (.bool false)) k1) i1) fun m1 n1 =>
VL (lift2 (abin .lss) (m1.getD 1 .und) (.int .i64 0)) fun o1 =>
pcond (
Rt n1 (.bool false)) (
VL (lift2 (abin .add) (m1.getD 2 .und) (.int .i64 1)) fun p1 =>
d1 [(m1.getD 1 .und),p1] [(m1.getD 0 .und)] n1) o1) (
VL (lift2 (abin .eql) (a1.getD 0 .und) (.int .i64 0)) fun q1 =>
pgk true c1 (fun r1 s1=>s1 (b1.getD 0 .und) c1) (fun t1 u1 v1 =>
pgk true v1 (fun w1 y1=>VL (vlenT u1) fun z1 =>
y1 z1 v1) (fun a2 b2 c2 =>
pgk true c2 (fun d2 e2=>VL (lift2 (abin .geq) b2 (.int .i64 2)) fun f2 =>
e2 f2 c2) (fun g2 h2 i2 =>
VL (vpick g2 h2 (.bool false)) fun j2 =>
pgk true i2 (fun k2 l2=>l2 (b1.getD 0 .und) i2) (fun m2 n2 o2 =>
pgk true o2 (fun p2 q2=>VL (vlenT n2) fun r2 =>
q2 r2 o2) (fun s2 t2 u2 =>
pgk true u2 (fun v2 w2=>VL (lift2 (abin .leq) t2 (.int .i64 32)) fun y2 =>
w2 y2 u2) (fun z2 a3 b3 =>
VL (vpick z2 a3 (.bool false)) fun c3 =>
Rt b3 c3) s2) m2) j2) a2) t1) q1) f1) [(.int .i64 0),(.int .i64 0)] [x0] hi
theorem spec_l05Word_f {x0:V}:Prt Tryz.prog 55 [x0] (spec_l05Word_F x0):=pfun (fn:=Tryz.f55) (m:=[.s,.s,.s,.s,.l [3,4] [0],.s,.s,.s,.j [0,3,4],.s,.s,.s,.s,.s,.s,.s]) (c:=1 <= 36) rfl (fun h0 Rt=>by kernel_rfl) (by decide)
def spec_l05Made_F (x0:V) (hi:Hp) (Rt:Hp -> V -> Prop):Prop :=
palloc hi 66 28 ([(.int .i64 0)] ++ (vi .u8 (List.replicate 32 0))) fun a1 =>
pmks a1 77 2 1 1 (fun b1 =>
pmks b1 78 2 1 1 (fun c1 =>
VL (vlenT x0) fun d1 =>
VL (lift2 (abin .quo) d1 (.int .i64 2)) fun e1 =>
VL (vbld (vfill ([(.int .i64 0)] ++ (vi .u8 (List.replicate 32 0))) [(0,1,e1)])) fun f1 =>
palloc c1 71 28 ([(.int .i64 0)] ++ (vi .u8 (List.replicate 32 0))) fun g1 =>
pst g1 33 (cellsV f1) (fun h1 i1 =>
LP [3,4,5,6,8] [0,2,7] (fun j1 k1 l1 m1 =>
VL (vlenT (k1.getD 0 .und)) fun n1 =>
VL (lift2 (abin .lss) (j1.getD 4 .und) n1) fun o1 =>
pcond (
JN (fun p1 =>
VL (vlenS (j1.getD 0 .und)) fun q1 =>
VL (lift2 (abin .sub) q1 (.int .i64 1)) fun r1 =>
VL (vixT (k1.getD 0 .und) (j1.getD 4 .und)) fun s1 =>
VL (lift2 (abin .eql) s1 (.int .u8 40)) fun t1 =>
pcond (
VL (lift2 (abin .add) (j1.getD 2 .und) (.int .i64 1)) fun u1 =>
VL (vixS 1 (j1.getD 1 .und) r1) fun v1 =>
pld l1 none (fun w1 y1 =>
JN (fun z1 =>
VL (lift2 (abin .lss) w1 (.int .i64 0)) fun a2 =>
pcond (
VL (vixS 1 (j1.getD 0 .und) r1) fun b2 =>
pld y1 none (fun c2 d2 =>
z1 [(k1.getD 0 .und),(k1.getD 1 .und),(j1.getD 0 .und),(j1.getD 1 .und),u1,(j1.getD 3 .und),(k1.getD 2 .und),(j1.getD 4 .und),r1,(j1.getD 2 .und),c2] d2) b2) (
z1 [(k1.getD 0 .und),(k1.getD 1 .und),(j1.getD 0 .und),(j1.getD 1 .und),u1,(j1.getD 3 .und),(k1.getD 2 .und),(j1.getD 4 .und),r1,(j1.getD 2 .und),w1] y1) a2) fun e2 f2 =>
JN (fun g2 =>
VL (lift2 (abin .lss) (e2.getD 10 .und) (.int .i64 0)) fun h2 =>
pcond (
g2 [(e2.getD 0 .und),(e2.getD 1 .und),(e2.getD 2 .und),(e2.getD 3 .und),(e2.getD 4 .und),(e2.getD 9 .und),(e2.getD 6 .und),(e2.getD 7 .und),(e2.getD 8 .und),(e2.getD 9 .und)] f2) (
VL (lift2 (abin .rem) (e2.getD 8 .und) (.int .i64 2)) fun i2 =>
VL (lift2 (abin .eql) i2 (.int .i64 0)) fun j2 =>
pcond (
VL (lift1 (acvi .u8) (e2.getD 9 .und)) fun k2 =>
VL (vfa 1 (e2.getD 6 .und)) fun l2 =>
VL (vixA 16 1 l2 (e2.getD 10 .und)) fun m2 =>
pst f2 1 (cellsV k2) (fun n2 o2 =>
g2 [(e2.getD 0 .und),(e2.getD 1 .und),(e2.getD 2 .und),(e2.getD 3 .und),(e2.getD 4 .und),(e2.getD 5 .und),(e2.getD 6 .und),(e2.getD 7 .und),(e2.getD 8 .und),(e2.getD 9 .und)] o2) m2) (
VL (lift1 (acvi .u8) (e2.getD 9 .und)) fun p2 =>
VL (vfa 17 (e2.getD 6 .und)) fun q2 =>
VL (vixA 16 1 q2 (e2.getD 10 .und)) fun r2 =>
pst f2 1 (cellsV p2) (fun s2 t2 =>
g2 [(e2.getD 0 .und),(e2.getD 1 .und),(e2.getD 2 .und),(e2.getD 3 .und),(e2.getD 4 .und),(e2.getD 5 .und),(e2.getD 6 .und),(e2.getD 7 .und),(e2.getD 8 .und),(e2.getD 9 .und)] t2) r2) j2) h2) fun u2 v2 =>
VL (vixS 1 (u2.getD 3 .und) (u2.getD 8 .und)) fun w2 =>
pst v2 1 (cellsV (u2.getD 9 .und)) (fun y2 z2 =>
pmks z2 131 2 1 1 (fun a3 =>
papp a3 (fun b3 c3=>papV 2 1 8 132 a3 (fun d3 e3 =>
pmks e3 134 2 1 1 (fun f3 =>
papp f3 (fun g3 h3=>papV 2 1 8 135 f3 (fun i3 j3 =>
p1 [(u2.getD 0 .und),(u2.getD 1 .und),d3,i3,(u2.getD 4 .und),(u2.getD 5 .und),(u2.getD 6 .und),(u2.getD 7 .und)] j3) g3 h3 (u2.getD 3 .und)) (pavs f3 (u2.getD 3 .und) []) (preadS 1 f3 (.rf 134 0 1))) (vfill [(.int .i64 0)] [(0,1,(.int .i64 (-1)))])) b3 c3 (u2.getD 2 .und)) (pavs a3 (u2.getD 2 .und) []) (preadS 1 a3 (.rf 131 0 1))) (vfill [(.int .i64 0)] [(0,1,(u2.getD 9 .und))])) w2) v1) (
VL (vixS 1 (j1.getD 1 .und) r1) fun k3 =>
pld l1 none (fun l3 m3 =>
JN (fun n3 =>
VL (lift2 (abin .lss) l3 (.int .i64 0)) fun o3 =>
pcond (
VL (vixS 1 (j1.getD 0 .und) r1) fun p3 =>
pld m3 none (fun q3 r3 =>
n3 [(k1.getD 0 .und),(k1.getD 1 .und),(j1.getD 0 .und),(j1.getD 1 .und),(j1.getD 2 .und),(j1.getD 3 .und),(k1.getD 2 .und),(j1.getD 4 .und),r1,q3] r3) p3) (
n3 [(k1.getD 0 .und),(k1.getD 1 .und),(j1.getD 0 .und),(j1.getD 1 .und),(j1.getD 2 .und),(j1.getD 3 .und),(k1.getD 2 .und),(j1.getD 4 .und),r1,l3] m3) o3) fun s3 t3 =>
JN (fun u3 =>
VL (lift2 (abin .rem) (s3.getD 8 .und) (.int .i64 2)) fun v3 =>
VL (lift2 (abin .eql) v3 (.int .i64 0)) fun w3 =>
pcond (
VL (vixS 1 (s3.getD 2 .und) (s3.getD 8 .und)) fun y3 =>
pld t3 none (fun z3 a4 =>
VL (lift1 (acvi .u8) z3) fun b4 =>
VL (vfa 1 (s3.getD 6 .und)) fun c4 =>
VL (vixA 16 1 c4 (s3.getD 9 .und)) fun d4 =>
pst a4 1 (cellsV b4) (fun e4 f4 =>
u3 [(s3.getD 0 .und),(s3.getD 1 .und),(s3.getD 2 .und),(s3.getD 3 .und),(s3.getD 4 .und),(s3.getD 5 .und),(s3.getD 6 .und),(s3.getD 7 .und),(s3.getD 8 .und)] f4) d4) y3) (
VL (vixS 1 (s3.getD 2 .und) (s3.getD 8 .und)) fun g4 =>
pld t3 none (fun h4 i4 =>
VL (lift1 (acvi .u8) h4) fun j4 =>
VL (vfa 17 (s3.getD 6 .und)) fun k4 =>
VL (vixA 16 1 k4 (s3.getD 9 .und)) fun l4 =>
pst i4 1 (cellsV j4) (fun m4 n4 =>
u3 [(s3.getD 0 .und),(s3.getD 1 .und),(s3.getD 2 .und),(s3.getD 3 .und),(s3.getD 4 .und),(s3.getD 5 .und),(s3.getD 6 .und),(s3.getD 7 .und),(s3.getD 8 .und)] n4) l4) g4) w3) fun o4 p4 =>
VL (vslS 1 (o4.getD 2 .und) none (some (o4.getD 8 .und))) fun q4 =>
VL (vslS 1 (o4.getD 3 .und) none (some (o4.getD 8 .und))) fun r4 =>
p1 [(o4.getD 0 .und),(o4.getD 1 .und),q4,r4,(o4.getD 4 .und),(o4.getD 5 .und),(o4.getD 6 .und),(o4.getD 7 .und)] p4) k3) t1) fun s4 t4 =>
VL (lift2 (abin .add) (s4.getD 7 .und) (.int .i64 1)) fun u4 =>
m1 [(s4.getD 2 .und),(s4.getD 3 .und),(s4.getD 4 .und),(s4.getD 5 .und),u4] [(s4.getD 0 .und),(s4.getD 1 .und),(s4.getD 6 .und)] t4) (
VL (vixS 1 (j1.getD 1 .und) (.int .i64 0)) fun v4 =>
pld l1 none (fun w4 y4 =>
VL (lift1 (acvi .u8) (j1.getD 3 .und)) fun z4 =>
VL (vfa 1 (k1.getD 2 .und)) fun a5 =>
VL (vixA 16 1 a5 w4) fun b5 =>
pst y4 1 (cellsV z4) (fun c5 d5 =>
pld d5 (some 33) (fun e5 f5 =>
pst f5 33 (cellsV e5) (fun g5 h5 =>
VL (pcellV h5 (some 33) (k1.getD 1 .und)) fun i5 =>
Rt h5 i5) (k1.getD 1 .und)) (k1.getD 2 .und)) b5) v4) o1) [(.rf 77 0 1),(.rf 78 0 1),(.int .i64 0),(.int .i64 0),(.int .i64 0)] [x0,(.ptr 66 0),(.ptr 71 0)] i1) (.ptr 71 0)) (vfill [(.int .i64 0)] [(0,1,(.int .i64 (-1)))])) (vfill [(.int .i64 0)] [(0,1,(.int .i64 (-1)))])
theorem spec_l05Made_f {x0:V}:Prt Tryz.prog 56 [x0] (spec_l05Made_F x0):=pfun (fn:=Tryz.f56) (m:=[.s,.s,.s,.s,.s,.s,.l [3,4,5,6,8] [0,2,7],.s,.s,.j [0,2,3,4,5,6,7,8],.s,.s,.s,.s,.s,.s,.j [0,2,3,4,5,6,7,8,9,10,11],.s,.j [0,2,3,4,5,6,7,8,9,10],.s,.s,.s,.s,.s,.s,.j [0,2,3,4,5,6,7,8,9,12],.s,.j [0,2,3,4,5,6,7,8,9],.s,.s,.s,.s]) (c:=1 <= 115) rfl (fun h0 Rt=>by kernel_rfl) (by decide)
def impl_treeCode_F (x0 x1:V) (hi:Hp) (Rt:Hp -> V -> Prop):Prop :=
pbox hi 66 28 (cellsV x0) fun a1 =>
pld a1 (some 33) (fun b1 c1 =>
pcal Tryz.prog 43 71 c1 (fun d1 e1 =>
VL (lift1 (aun .not) d1) fun f1 =>
pcond (
Rt e1 (.int .i64 1)) (
pld e1 (some 33) (fun g1 h1 =>
pcal Tryz.prog 91 76 h1 (fun i1 j1 =>
VL (lift1 (aun .not) i1) fun k1 =>
pcond (
Rt j1 (.int .i64 2)) (
pld j1 (some 33) (fun l1 m1 =>
pcal Tryz.prog 59 80 m1 (fun n1 o1 =>
VL (lift1 (aun .not) n1) fun p1 =>
pcond (
Rt o1 (.int .i64 5)) (
Rt o1 (.int .i64 0)) p1) [l1]) (.ptr 66 0)) k1) [g1,x1]) (.ptr 66 0)) f1) [b1]) (.ptr 66 0)
theorem impl_treeCode_f {x0 x1:V}:Prt Tryz.prog 57 [x0,x1] (impl_treeCode_F x0 x1):=pfun (fn:=Tryz.f57) (m:=[.s,.s,.s,.s,.s,.s,.s,.s,.s]) (c:=2 <= 18) rfl (fun h0 Rt=>by kernel_rfl) (by decide)
def impl_wordOfTree_F (x0 x1:V) (hi:Hp) (Rt:Hp -> V -> Prop):Prop :=
pbox hi 66 28 (cellsV x0) fun a1 =>
pld a1 (some 16) (fun b1 c1 =>
pld c1 (some 16) (fun d1 e1 =>
pcal Tryz.prog 92 74 e1 (fun f1 g1 =>
Rt g1 f1) [b1,d1,x1,(.bool true)]) (.ptr 66 17)) (.ptr 66 1)
theorem impl_wordOfTree_f {x0 x1:V}:Prt Tryz.prog 58 [x0,x1] (impl_wordOfTree_F x0 x1):=pfun (fn:=Tryz.f58) (m:=[.s,.s]) (c:=2 <= 11) rfl (fun h0 Rt=>by kernel_rfl) (by decide)
def impl_isTree_F (x0:V) (hi:Hp) (Rt:Hp -> V -> Prop):Prop :=
pbox hi 65 28 (cellsV x0) fun a1 =>
pld a1 (some 33) (fun b1 c1 =>
pcal Tryz.prog 78 69 c1 (fun d1 e1 =>
VL (vixS 1 d1 (.int .i64 2)) fun f1 =>
pld e1 none (fun g1 h1 =>
VL (vlenS g1) fun i1 =>
VL (lift2 (abin .eql) i1 (.int .i64 1)) fun j1 =>
pgk true h1 (fun k1 l1=>l1 d1 h1) (fun m1 n1 o1 =>
pgk true o1 (fun p1 q1=>VL (vixS 1 n1 (.int .i64 0)) fun r1 =>
q1 r1 o1) (fun s1 t1 u1 =>
pgk true u1 (fun v1 w1=>pld u1 none (fun y1 z1 =>
w1 y1 z1) t1) (fun a2 b2 c2 =>
pgk true c2 (fun d2 e2=>VL (vlenS b2) fun f2 =>
e2 f2 c2) (fun g2 h2 i2 =>
pgk true i2 (fun j2 k2=>k2 d1 i2) (fun l2 m2 n2 =>
pgk true n2 (fun o2 p2=>VL (vixS 1 m2 (.int .i64 1)) fun q2 =>
p2 q2 n2) (fun r2 s2 t2 =>
pgk true t2 (fun u2 v2=>pld t2 none (fun w2 y2 =>
v2 w2 y2) s2) (fun z2 a3 b3 =>
pgk true b3 (fun c3 d3=>VL (vlenS a3) fun e3 =>
d3 e3 b3) (fun f3 g3 h3 =>
pgk true h3 (fun i3 j3=>VL (lift2 (abin .add) h2 g3) fun k3 =>
j3 k3 h3) (fun l3 m3 n3 =>
pgk true n3 (fun o3 p3=>p3 (.ptr 65 0) n3) (fun q3 r3 s3 =>
pgk true s3 (fun t3 u3=>pld s3 none (fun v3 w3 =>
u3 v3 w3) r3) (fun y3 z3 a4 =>
pgk true a4 (fun b4 c4=>VL (lift2 (abin .add) z3 (.int .i64 1)) fun d4 =>
c4 d4 a4) (fun e4 f4 g4 =>
pgk true g4 (fun h4 i4=>VL (lift2 (abin .eql) m3 f4) fun j4 =>
i4 j4 g4) (fun k4 l4 m4 =>
VL (vpick k4 l4 (.bool false)) fun n4 =>
Rt m4 n4) e4) y3) q3) l3) f3) z2) r2) l2) g2) a2) s1) m1) j1) f1) [b1]) (.ptr 65 0)
theorem impl_isTree_f {x0:V}:Prt Tryz.prog 59 [x0] (impl_isTree_F x0):=pfun (fn:=Tryz.f59) (m:=[.s,.s,.s]) (c:=1 <= 26) rfl (fun h0 Rt=>by kernel_rfl) (by decide)
def impl_genus_F (x0:V) (hi:Hp) (Rt:Hp -> V -> Prop):Prop :=
pbox hi 65 28 (cellsV x0) fun a1 =>
pld a1 (some 33) (fun b1 c1 =>
pld c1 none (fun d1 e1 =>
pcalp Tryz.prog 78 68 e1 (fun f1 g1 =>
pcal Tryz.prog 77 71 g1 (fun h1 i1 =>
VL (lift2 (abin .quo) h1 (.int .i64 2)) fun j1 =>
VL (lift2 (abin .sub) (.int .i64 1) j1) fun k1 =>
Rt i1 k1) [f1,d1]) [b1]) (.ptr 65 0)) (.ptr 65 0)
theorem impl_genus_f {x0:V}:Prt Tryz.prog 60 [x0] (impl_genus_F x0):=pfun (fn:=Tryz.f60) (m:=[.s,.s]) (c:=1 <= 10) rfl (fun h0 Rt=>by kernel_rfl) (by decide)
def impl_leastWord_F (x0:V) (hi:Hp) (Rt:Hp -> V -> Prop):Prop :=
pbox hi 65 28 (cellsV x0) fun a1 =>
pld a1 (some 33) (fun b1 c1 =>
pcal Tryz.prog 58 73 c1 (fun d1 e1 =>
pld e1 none (fun f1 g1 =>
LP [4,5,12] [1,11] (fun h1 i1 j1 k1 =>
VL (lift2 (abin .lss) (h1.getD 2 .und) (i1.getD 1 .und)) fun l1 =>
pcond (
JN (fun m1 =>
pld j1 (some 33) (fun n1 o1 =>
pcal Tryz.prog 58 81 o1 (fun p1 q1 =>
VL (lift2 (abin .lss) p1 (h1.getD 0 .und)) fun r1 =>
pcond (
m1 [(i1.getD 0 .und),p1,(.int .i64 1),(i1.getD 1 .und),(h1.getD 2 .und)] q1) (
VL (lift2 (abin .eql) p1 (h1.getD 0 .und)) fun s1 =>
pcond (
VL (lift2 (abin .add) (h1.getD 1 .und) (.int .i64 1)) fun t1 =>
m1 [(i1.getD 0 .und),(h1.getD 0 .und),t1,(i1.getD 1 .und),(h1.getD 2 .und)] q1) (
m1 [(i1.getD 0 .und),(h1.getD 0 .und),(h1.getD 1 .und),(i1.getD 1 .und),(h1.getD 2 .und)] q1) s1) r1) [n1,(h1.getD 2 .und)]) (i1.getD 0 .und)) fun u1 v1 =>
VL (lift2 (abin .add) (u1.getD 4 .und) (.int .i64 1)) fun w1 =>
k1 [(u1.getD 1 .und),(u1.getD 2 .und),w1] [(u1.getD 0 .und),(u1.getD 3 .und)] v1) (
Rt j1 (.tup [(h1.getD 0 .und),(h1.getD 1 .und)])) l1) [d1,(.int .i64 0),(.int .i64 0)] [(.ptr 65 0),f1] g1) (.ptr 65 0)) [b1,(.int .i64 0)]) (.ptr 65 0)
theorem impl_leastWord_f {x0:V}:Prt Tryz.prog 61 [x0] (impl_leastWord_F x0):=pfun (fn:=Tryz.f61) (m:=[.s,.s,.s,.s,.l [4,5,12] [1,11],.s,.s,.j [1,4,5,11,12],.s,.s,.s,.s,.s]) (c:=1 <= 32) rfl (fun h0 Rt=>by kernel_rfl) (by decide)
def impl_canonical_F (x0:V) (hi:Hp) (Rt:Hp -> V -> Prop):Prop :=
pbox hi 65 28 (cellsV x0) fun a1 =>
palloc a1 66 28 ([(.int .i64 0)] ++ (vi .u8 (List.replicate 32 0))) fun b1 =>
pld b1 (some 33) (fun c1 d1 =>
pld d1 (some 33) (fun e1 f1 =>
pcalp Tryz.prog 94 72 f1 (fun g1 h1 =>
pcalp Tryz.prog 93 73 h1 (fun i1 j1 =>
palloc j1 67 28 ([(.int .i64 0)] ++ (vi .u8 (List.replicate 32 0))) fun k1 =>
pst k1 33 (cellsV i1) (fun l1 m1 =>
LP [4] [1,2,3] (fun n1 o1 p1 q1 =>
VL (vfa 0 (o1.getD 0 .und)) fun r1 =>
pld p1 none (fun s1 t1 =>
VL (lift2 (abin .lss) (n1.getD 0 .und) s1) fun u1 =>
pcond (
JN (fun v1 =>
pld t1 (some 33) (fun w1 y1 =>
pld y1 (some 33) (fun z1 a2 =>
pcalp Tryz.prog 94 83 a2 (fun b2 c2 =>
pcalp Tryz.prog 93 84 c2 (fun d2 e2 =>
palloc e2 69 28 ([(.int .i64 0)] ++ (vi .u8 (List.replicate 32 0))) fun f2 =>
pst f2 33 (cellsV d2) (fun g2 h2 =>
pld h2 (some 33) (fun i2 j2 =>
pld j2 (some 33) (fun k2 l2 =>
pcal Tryz.prog 95 87 l2 (fun m2 n2 =>
VL (lift2 (abin .lss) m2 (.int .i64 0)) fun o2 =>
pcond (
pld n2 (some 33) (fun p2 q2 =>
pst q2 33 (cellsV p2) (fun r2 s2 =>
v1 [(o1.getD 0 .und),(o1.getD 1 .und),(o1.getD 2 .und),(n1.getD 0 .und)] s2) (o1.getD 2 .und)) (.ptr 69 0)) (
v1 [(o1.getD 0 .und),(o1.getD 1 .und),(o1.getD 2 .und),(n1.getD 0 .und)] n2) o2) [i2,k2]) (o1.getD 2 .und)) (.ptr 69 0)) (.ptr 69 0)) [w1,b2]) [z1,(n1.getD 0 .und)]) (o1.getD 0 .und)) (o1.getD 0 .und)) fun t2 u2 =>
VL (lift2 (abin .add) (t2.getD 3 .und) (.int .i64 1)) fun v2 =>
q1 [v2] [(t2.getD 0 .und),(t2.getD 1 .und),(t2.getD 2 .und)] u2) (
pld t1 (some 33) (fun w2 y2 =>
pst y2 33 (cellsV w2) (fun z2 a3 =>
VL (pcellV a3 (some 33) (o1.getD 1 .und)) fun b3 =>
Rt a3 b3) (o1.getD 1 .und)) (o1.getD 2 .und)) u1) r1) [(.int .i64 1)] [(.ptr 65 0),(.ptr 66 0),(.ptr 67 0)] m1) (.ptr 67 0)) [c1,g1]) [e1,(.int .i64 0)]) (.ptr 65 0)) (.ptr 65 0)
theorem impl_canonical_f {x0:V}:Prt Tryz.prog 62 [x0] (impl_canonical_F x0):=pfun (fn:=Tryz.f62) (m:=[.s,.s,.s,.s,.l [4] [1,2,3],.s,.s,.j [1,2,3,4],.s,.s,.s]) (c:=1 <= 27) rfl (fun h0 Rt=>by kernel_rfl) (by decide)
def spec_l05Spoil_F (x0:V) (hi:Hp) (Rt:Hp -> V -> Prop):Prop :=
palloc hi 66 28 ([(.int .i64 0)] ++ (vi .u8 (List.replicate 32 0))) fun a1 =>
pcal Tryz.prog 51 69 a1 (fun b1 c1 =>
VL (lift2 (abin .eql) b1 (.int .i64 0)) fun d1 =>
pcond (
pcal Tryz.prog 70 72 c1 (fun e1 f1 =>
pst f1 33 (cellsV e1) (fun g1 h1 =>
VL (pcellV h1 (some 33) (.ptr 66 0)) fun i1 =>
Rt h1 i1) (.ptr 66 0)) [x0,(.int .i64 10)]) (
pcal Tryz.prog 96 74 c1 (fun j1 k1 =>
palloc k1 67 28 ([(.int .i64 0)] ++ (vi .u8 (List.replicate 32 0))) fun l1 =>
pst l1 33 (cellsV j1) (fun m1 n1 =>
pld n1 (some 33) (fun o1 p1 =>
pcal Tryz.prog 66 76 p1 (fun q1 r1 =>
VL (lift1 (aun .not) q1) fun s1 =>
pcond (
pcal Tryz.prog 97 78 r1 (fun t1 u1 =>
pst u1 33 (cellsV t1) (fun v1 w1 =>
VL (pcellV w1 (some 33) (.ptr 66 0)) fun y1 =>
Rt w1 y1) (.ptr 66 0)) [(.int .i64 4)]) (
pld r1 (some 33) (fun z1 a2 =>
pst a2 33 (cellsV z1) (fun b2 c2 =>
VL (pcellV c2 (some 33) (.ptr 66 0)) fun d2 =>
Rt c2 d2) (.ptr 66 0)) (.ptr 67 0)) s1) [o1]) (.ptr 67 0)) (.ptr 67 0)) [x0]) d1) [x0,(.int .i64 12)]
theorem spec_l05Spoil_f {x0:V}:Prt Tryz.prog 63 [x0] (spec_l05Spoil_F x0):=pfun (fn:=Tryz.f63) (m:=[.s,.s,.s,.s,.s,.s,.s,.s,.s]) (c:=1 <= 16) rfl (fun h0 Rt=>by kernel_rfl) (by decide)
def spec_l05Code_F (x0:V) (hi:Hp) (Rt:Hp -> V -> Prop):Prop :=
pbox hi 65 28 (cellsV x0) fun a1 =>
pld a1 (some 33) (fun b1 c1 =>
pcal Tryz.prog 66 69 c1 (fun d1 e1 =>
VL (lift1 (aun .not) d1) fun f1 =>
pcond (
Rt e1 (.int .i64 1)) (
pld e1 (some 33) (fun g1 h1 =>
pcal Tryz.prog 68 73 h1 (fun i1 j1 =>
VL (lift1 (aun .not) i1) fun k1 =>
pcond (
Rt j1 (.int .i64 5)) (
Rt j1 (.int .i64 0)) k1) [g1]) (.ptr 65 0)) f1) [b1]) (.ptr 65 0)
theorem spec_l05Code_f {x0:V}:Prt Tryz.prog 64 [x0] (spec_l05Code_F x0):=pfun (fn:=Tryz.f64) (m:=[.s,.s,.s,.s,.s,.s,.s]) (c:=1 <= 11) rfl (fun h0 Rt=>by kernel_rfl) (by decide)
def spec_l05Canonical_F (x0:V) (hi:Hp) (Rt:Hp -> V -> Prop):Prop :=
pbox hi 65 28 (cellsV x0) fun a1 =>
pld a1 (some 33) (fun b1 c1 =>
pcal Tryz.prog 69 73 c1 (fun d1 e1 =>
LP [4,5,6] [1] (fun f1 g1 h1 i1 =>
VL (vfa 0 (g1.getD 0 .und)) fun j1 =>
pld h1 none (fun k1 l1 =>
VL (lift2 (abin .lss) (f1.getD 2 .und) k1) fun m1 =>
pcond (
JN (fun n1 =>
pld l1 (some 33) (fun o1 p1 =>
pcal Tryz.prog 69 82 p1 (fun q1 r1 =>
VL (lift2 (abin .eql) q1 (f1.getD 0 .und)) fun s1 =>
pcond (
VL (lift2 (abin .add) (f1.getD 1 .und) (.int .i64 1)) fun t1 =>
n1 [(g1.getD 0 .und),(f1.getD 0 .und),t1,(f1.getD 2 .und)] r1) (
VL (lift2 (abin .lss) q1 (f1.getD 0 .und)) fun u1 =>
pcond (
n1 [(g1.getD 0 .und),q1,(.int .i64 1),(f1.getD 2 .und)] r1) (
n1 [(g1.getD 0 .und),(f1.getD 0 .und),(f1.getD 1 .und),(f1.getD 2 .und)] r1) u1) s1) [o1,(f1.getD 2 .und)]) (g1.getD 0 .und)) fun v1 w1 =>
VL (lift2 (abin .add) (v1.getD 3 .und) (.int .i64 1)) fun y1 =>
i1 [(v1.getD 1 .und),(v1.getD 2 .und),y1] [(v1.getD 0 .und)] w1) (
Rt l1 (.tup [(f1.getD 0 .und),(f1.getD 1 .und)])) m1) j1) [d1,(.int .i64 1),(.int .i64 1)] [(.ptr 65 0)] e1) [b1,(.int .i64 0)]) (.ptr 65 0)
theorem spec_l05Canonical_f {x0:V}:Prt Tryz.prog 65 [x0] (spec_l05Canonical_F x0):=pfun (fn:=Tryz.f65) (m:=[.s,.s,.s,.s,.l [4,5,6] [1],.s,.s,.j [1,4,5,6],.s,.s,.s,.s,.s]) (c:=1 <= 32) rfl (fun h0 Rt=>by kernel_rfl) (by decide)
def spec_l01Is_F (x0:V) (hi:Hp) (Rt:Hp -> V -> Prop):Prop :=
pbox hi 65 28 (cellsV x0) fun a1 =>
pld a1 (some 16) (fun b1 c1 =>
pld c1 none (fun d1 e1 =>
pcal Tryz.prog 98 71 e1 (fun f1 g1 =>
pgk true g1 (fun h1 i1=>i1 (.ptr 65 17) g1) (fun j1 k1 l1 =>
pgk true l1 (fun m1 n1=>pld l1 (some 16) (fun o1 p1 =>
n1 o1 p1) k1) (fun q1 r1 s1 =>
pgk true s1 (fun t1 u1=>u1 (.ptr 65 0) s1) (fun v1 w1 y1 =>
pgk true y1 (fun z1 a2=>pld y1 none (fun b2 c2 =>
a2 b2 c2) w1) (fun d2 e2 f2 =>
pgk true f2 (fun g2 h2=>pcal Tryz.prog 98 77 f2 (fun i2 j2 =>
h2 i2 j2) [r1,e2]) (fun k2 l2 m2 =>
VL (vpick k2 l2 (.bool false)) fun n2 =>
pgk true m2 (fun o2 p2=>p2 (.ptr 65 0) m2) (fun q2 r2 s2 =>
pgk true s2 (fun t2 u2=>pld s2 none (fun v2 w2 =>
u2 v2 w2) r2) (fun y2 z2 a3 =>
pgk true a3 (fun b3 c3=>c3 (.ptr 65 1) a3) (fun d3 e3 f3 =>
pgk true f3 (fun g3 h3=>pld f3 (some 16) (fun i3 j3 =>
h3 i3 j3) e3) (fun k3 l3 m3 =>
pgk true m3 (fun n3 o3=>o3 (.ptr 65 17) m3) (fun p3 q3 r3 =>
pgk true r3 (fun s3 t3=>pld r3 (some 16) (fun u3 v3 =>
t3 u3 v3) q3) (fun w3 y3 z3 =>
pgk true z3 (fun a4 b4=>pcal Tryz.prog 99 86 z3 (fun c4 d4 =>
b4 c4 d4) [z2,l3,y3]) (fun e4 f4 g4 =>
VL (vpick e4 f4 (.bool false)) fun h4 =>
Rt g4 h4) w3) p3) k3) d3) y2) q2) n2) d2) v1) q1) j1) f1) [b1,d1]) (.ptr 65 0)) (.ptr 65 1)
theorem spec_l01Is_f {x0:V}:Prt Tryz.prog 66 [x0] (spec_l01Is_F x0):=pfun (fn:=Tryz.f66) (m:=[.s,.s]) (c:=1 <= 24) rfl (fun h0 Rt=>by kernel_rfl) (by decide)
def spec_l01In_F (x0 x1 x2:V) (hi:Hp) (Rt:Hp -> V -> Prop):Prop :=
VL (lift2 (abin .geq) x0 x1) fun a1 =>
pgk true hi (fun b1 c1=>c1 x0 hi) (fun d1 e1 f1 =>
pgk true f1 (fun g1 h1=>h1 x2 f1) (fun i1 j1 k1 =>
pgk true k1 (fun l1 m1=>VL (lift2 (abin .leq) e1 j1) fun n1 =>
m1 n1 k1) (fun o1 p1 q1 =>
VL (vpick o1 p1 (.bool false)) fun r1 =>
Rt q1 r1) i1) d1) a1
theorem spec_l01In_f {x0 x1 x2:V}:Prt Tryz.prog 67 [x0,x1,x2] (spec_l01In_F x0 x1 x2):=pfun (fn:=Tryz.f67) (m:=[.s,.s]) (c:=3 <= 15) rfl (fun h0 Rt=>by kernel_rfl) (by decide)
def spec_l05Tree_F (x0:V) (hi:Hp) (Rt:Hp -> V -> Prop):Prop :=
pbox hi 65 28 (cellsV x0) fun a1 =>
pld a1 (some 33) (fun b1 c1 =>
pcal Tryz.prog 100 69 c1 (fun d1 e1 =>
VL (vixS 1 d1 (.int .i64 2)) fun f1 =>
pld e1 none (fun g1 h1 =>
VL (vlenS g1) fun i1 =>
VL (lift2 (abin .eql) i1 (.int .i64 1)) fun j1 =>
pgk true h1 (fun k1 l1=>l1 d1 h1) (fun m1 n1 o1 =>
pgk true o1 (fun p1 q1=>VL (vixS 1 n1 (.int .i64 0)) fun r1 =>
q1 r1 o1) (fun s1 t1 u1 =>
pgk true u1 (fun v1 w1=>pld u1 none (fun y1 z1 =>
w1 y1 z1) t1) (fun a2 b2 c2 =>
pgk true c2 (fun d2 e2=>VL (vlenS b2) fun f2 =>
e2 f2 c2) (fun g2 h2 i2 =>
pgk true i2 (fun j2 k2=>k2 d1 i2) (fun l2 m2 n2 =>
pgk true n2 (fun o2 p2=>VL (vixS 1 m2 (.int .i64 1)) fun q2 =>
p2 q2 n2) (fun r2 s2 t2 =>
pgk true t2 (fun u2 v2=>pld t2 none (fun w2 y2 =>
v2 w2 y2) s2) (fun z2 a3 b3 =>
pgk true b3 (fun c3 d3=>VL (vlenS a3) fun e3 =>
d3 e3 b3) (fun f3 g3 h3 =>
pgk true h3 (fun i3 j3=>VL (lift2 (abin .add) h2 g3) fun k3 =>
j3 k3 h3) (fun l3 m3 n3 =>
pgk true n3 (fun o3 p3=>p3 (.ptr 65 0) n3) (fun q3 r3 s3 =>
pgk true s3 (fun t3 u3=>pld s3 none (fun v3 w3 =>
u3 v3 w3) r3) (fun y3 z3 a4 =>
pgk true a4 (fun b4 c4=>VL (lift2 (abin .add) z3 (.int .i64 1)) fun d4 =>
c4 d4 a4) (fun e4 f4 g4 =>
pgk true g4 (fun h4 i4=>VL (lift2 (abin .eql) m3 f4) fun j4 =>
i4 j4 g4) (fun k4 l4 m4 =>
VL (vpick k4 l4 (.bool false)) fun n4 =>
Rt m4 n4) e4) y3) q3) l3) f3) z2) r2) l2) g2) a2) s1) m1) j1) f1) [b1]) (.ptr 65 0)
theorem spec_l05Tree_f {x0:V}:Prt Tryz.prog 68 [x0] (spec_l05Tree_F x0):=pfun (fn:=Tryz.f68) (m:=[.s,.s,.s]) (c:=1 <= 26) rfl (fun h0 Rt=>by kernel_rfl) (by decide)
def spec_l05At_F (x0 x1:V) (hi:Hp) (Rt:Hp -> V -> Prop):Prop :=
pbox hi 66 28 (cellsV x0) fun a1 =>
pld a1 (some 33) (fun b1 c1 =>
pcal Tryz.prog 101 73 c1 (fun d1 e1 =>
VL (lift2 (abin .add) (.str [40]) d1) fun f1 =>
VL (lift2 (abin .add) f1 (.str [41])) fun g1 =>
VL (vixA 16 1 (.ptr 66 1) x1) fun h1 =>
pld e1 none (fun i1 j1 =>
VL (lift1 (acvi .i64) i1) fun k1 =>
LP [5,6] [1,2] (fun l1 m1 n1 o1 =>
VL (lift2 (abin .neq) (l1.getD 1 .und) (m1.getD 0 .und)) fun p1 =>
pcond (
VL (lift2 (abin .add) (l1.getD 0 .und) (.str [40])) fun q1 =>
pld n1 (some 33) (fun r1 s1 =>
pcal Tryz.prog 101 93 s1 (fun t1 u1 =>
VL (lift2 (abin .add) q1 t1) fun v1 =>
VL (lift2 (abin .add) v1 (.str [41])) fun w1 =>
VL (vfa 1 (m1.getD 1 .und)) fun y1 =>
VL (vixA 16 1 y1 (l1.getD 1 .und)) fun z1 =>
pld u1 none (fun a2 b2 =>
VL (lift1 (acvi .i64) a2) fun c2 =>
o1 [w1,c2] [(m1.getD 0 .und),(m1.getD 1 .und)] b2) z1) [r1,(l1.getD 1 .und),(.bool true)]) (m1.getD 1 .und)) (
Rt n1 (l1.getD 0 .und)) p1) [g1,k1] [x1,(.ptr 66 0)] j1) h1) [b1,x1,(.bool true)]) (.ptr 66 0)
theorem spec_l05At_f {x0 x1:V}:Prt Tryz.prog 69 [x0,x1] (spec_l05At_F x0 x1):=pfun (fn:=Tryz.f69) (m:=[.s,.s,.s,.s,.l [5,6] [1,2],.s,.s,.s,.s]) (c:=2 <= 33) rfl (fun h0 Rt=>by kernel_rfl) (by decide)
def spec_l01Spoil_F (x0 x1:V) (hi:Hp) (Rt:Hp -> V -> Prop):Prop :=
palloc hi 68 28 ([(.int .i64 0)] ++ (vi .u8 (List.replicate 32 0))) fun a1 =>
pcal Tryz.prog 102 72 a1 (fun b1 c1 =>
palloc c1 69 28 ([(.int .i64 0)] ++ (vi .u8 (List.replicate 32 0))) fun d1 =>
pst d1 33 (cellsV b1) (fun e1 f1 =>
JN (fun g1 =>
pcal Tryz.prog 51 74 f1 (fun h1 i1 =>
VL (lift2 (abin .eql) h1 (.int .i64 0)) fun j1 =>
pcond (
VL (vixA 16 1 (.ptr 69 1) (.int .i64 0)) fun k1 =>
pld i1 none (fun l1 m1 =>
VL (lift2 (abin .add) l1 (.int .u8 1)) fun n1 =>
VL (vixA 16 1 (.ptr 69 1) (.int .i64 0)) fun o1 =>
pst m1 1 (cellsV n1) (fun p1 q1 =>
g1 [(.ptr 68 0),(.ptr 69 0)] q1) o1) k1) (
VL (lift2 (abin .eql) h1 (.int .i64 1)) fun r1 =>
pcond (
pld i1 none (fun s1 t1 =>
VL (lift2 (abin .add) s1 (.int .i64 1)) fun u1 =>
pld t1 none (fun v1 w1 =>
VL (lift2 (abin .sub) v1 (.int .i64 1)) fun y1 =>
pmks w1 92 2 5 5 (fun z1 =>
pcal Tryz.prog 103 93 z1 (fun a2 b2 =>
pst b2 1 (cellsV a2) (fun c2 d2 =>
g1 [(.ptr 68 0),(.ptr 69 0)] d2) (.ptr 69 0)) [x0,(.rf 92 0 5)]) (vfill (vi .i64 (List.replicate 5 0)) [(0,1,(.int .i64 0)),(1,1,(.int .i64 17)),(2,1,(.int .i64 (-1))),(3,1,u1),(4,1,y1)])) (.ptr 69 0)) (.ptr 69 0)) (
VL (lift2 (abin .eql) h1 (.int .i64 2)) fun e2 =>
pcond (
pld i1 none (fun f2 g2 =>
VL (lift2 amin f2 (.int .i64 16)) fun h2 =>
pcal Tryz.prog 104 100 g2 (fun i2 j2 =>
pst j2 16 (cellsV i2) (fun k2 l2 =>
g1 [(.ptr 68 0),(.ptr 69 0)] l2) (.ptr 69 17)) [h2]) (.ptr 69 0)) (
VL (lift2 (abin .eql) h1 (.int .i64 3)) fun m2 =>
pcond (
pmks i1 105 2 2 2 (fun n2 =>
pcal Tryz.prog 103 106 n2 (fun o2 p2 =>
VL (lift1 (acvi .u8) o2) fun q2 =>
VL (vixA 16 1 (.ptr 69 17) (.int .i64 15)) fun r2 =>
pst p2 1 (cellsV q2) (fun s2 t2 =>
g1 [(.ptr 68 0),(.ptr 69 0)] t2) r2) [x0,(.rf 105 0 2)]) (vfill [(.int .i64 0),(.int .i64 0)] [(0,1,(.int .i64 1)),(1,1,(.int .i64 255))])) (
g1 [(.ptr 68 0),(.ptr 69 0)] i1) m2) e2) r1) j1) [x0,(.int .i64 40)]) fun u2 v2 =>
pld v2 (some 33) (fun w2 y2 =>
pst y2 33 (cellsV w2) (fun z2 a3 =>
VL (pcellV a3 (some 33) (u2.getD 0 .und)) fun b3 =>
Rt a3 b3) (u2.getD 0 .und)) (u2.getD 1 .und)) (.ptr 69 0)) [x0,x1]
theorem spec_l01Spoil_f {x0 x1:V}:Prt Tryz.prog 70 [x0,x1] (spec_l01Spoil_F x0 x1):=pfun (fn:=Tryz.f70) (m:=[.s,.s,.j [4,5],.s,.s,.s,.s,.s,.s]) (c:=2 <= 47) rfl (fun h0 Rt=>by kernel_rfl) (by decide)
def impl_eulerOf_F (x0 x1:V) (hi:Hp) (Rt:Hp -> V -> Prop):Prop :=
VL (vixS 1 x0 (.int .i64 0)) fun a1 =>
pld hi none (fun b1 c1 =>
VL (vlenS b1) fun d1 =>
VL (vixS 1 x0 (.int .i64 1)) fun e1 =>
pld c1 none (fun f1 g1 =>
VL (vlenS f1) fun h1 =>
VL (lift2 (abin .add) d1 h1) fun i1 =>
VL (vixS 1 x0 (.int .i64 2)) fun j1 =>
pld g1 none (fun k1 l1 =>
VL (vlenS k1) fun m1 =>
VL (lift2 (abin .add) i1 m1) fun n1 =>
VL (lift2 (abin .sub) n1 x1) fun o1 =>
Rt l1 o1) j1) e1) a1
theorem impl_eulerOf_f {x0 x1:V}:Prt Tryz.prog 77 [x0,x1] (impl_eulerOf_F x0 x1):=pfun (fn:=Tryz.f77) (m:=[.s,.s]) (c:=2 <= 21) rfl (fun h0 Rt=>by kernel_rfl) (by decide)
def impl_passport_F (x0:V) (hi:Hp) (Rt:Hp -> V -> Prop):Prop :=
pbox hi 65 28 (cellsV x0) fun a1 =>
pld a1 (some 16) (fun b1 c1 =>
pld c1 none (fun d1 e1 =>
pld e1 (some 16) (fun f1 g1 =>
pld g1 none (fun h1 i1 =>
pld i1 (some 33) (fun j1 k1 =>
pld k1 none (fun l1 m1 =>
pcalp Tryz.prog 106 71 m1 (fun n1 o1 =>
pcalp Tryz.prog 106 76 o1 (fun p1 q1 =>
pcalp Tryz.prog 107 78 q1 (fun r1 s1 =>
pcal Tryz.prog 106 81 s1 (fun t1 u1 =>
pmks u1 82 52 3 3 (fun v1 =>
Rt v1 (.rf 82 0 3)) (vfill [.nils,.nils,.nils] [(0,1,n1),(1,1,p1),(2,1,t1)])) [r1,l1]) [j1]) [f1,h1]) [b1,d1]) (.ptr 65 0)) (.ptr 65 0)) (.ptr 65 0)) (.ptr 65 17)) (.ptr 65 0)) (.ptr 65 1)
theorem impl_passport_f {x0:V}:Prt Tryz.prog 78 [x0] (impl_passport_F x0):=pfun (fn:=Tryz.f78) (m:=[.s,.s]) (c:=1 <= 19) rfl (fun h0 Rt=>by kernel_rfl) (by decide)
def impl_IsPermutation_F (x0 x1:V) (hi:Hp) (Rt:Hp -> V -> Prop):Prop :=
pbox hi 66 26 (cellsV x0) fun a1 =>
pcal Tryz.prog 111 73 a1 (fun b1 c1 =>
VL (lift1 (aun .not) b1) fun d1 =>
pcond (
Rt c1 (.bool false)) (
VL (vbld (vfill (vb (List.replicate 16 false)) [])) fun e1 =>
palloc c1 69 120 (vb (List.replicate 16 false)) fun f1 =>
pst f1 16 (cellsV e1) (fun g1 h1 =>
pld h1 (some 16) (fun i1 j1 =>
LP [13] [1,5,12] (fun k1 l1 m1 n1 =>
VL (lift2 (abin .lss) (k1.getD 0 .und) (.int .i64 16)) fun o1 =>
pcond (
JN (fun p1 =>
VL (vixV 16 1 none (l1.getD 2 .und) (k1.getD 0 .und)) fun q1 =>
VL (lift2 (abin .geq) (k1.getD 0 .und) (l1.getD 0 .und)) fun r1 =>
pcond (
VL (lift2 (abin .neq) q1 (.int .u8 0)) fun s1 =>
pcond (
Rt m1 (.bool false)) (
p1 [(l1.getD 0 .und),(l1.getD 1 .und),(l1.getD 2 .und),(k1.getD 0 .und)] m1) s1) (
VL (lift1 (acvi .i64) q1) fun t1 =>
VL (lift2 (abin .geq) t1 (l1.getD 0 .und)) fun u1 =>
pgk false m1 (fun v1 w1=>w1 q1 m1) (fun y1 z1 a2 =>
pgk false a2 (fun b2 c2=>VL (vixA 16 1 (l1.getD 1 .und) z1) fun d2 =>
c2 d2 a2) (fun e2 f2 g2 =>
pgk false g2 (fun h2 i2=>pld g2 none (fun j2 k2 =>
i2 j2 k2) f2) (fun l2 m2 n2 =>
VL (vpick l2 (.bool true) m2) fun o2 =>
pcond (
Rt n2 (.bool false)) (
VL (vixA 16 1 (l1.getD 1 .und) q1) fun p2 =>
pst n2 1 (cellsV (.bool true)) (fun q2 r2 =>
p1 [(l1.getD 0 .und),(l1.getD 1 .und),(l1.getD 2 .und),(k1.getD 0 .und)] r2) p2) o2) e2) y1) u1) r1) fun s2 t2 =>
VL (lift2 (abin .add) (s2.getD 3 .und) (.int .i64 1)) fun u2 =>
n1 [u2] [(s2.getD 0 .und),(s2.getD 1 .und),(s2.getD 2 .und)] t2) (
Rt m1 (.bool true)) o1) [(.int .i64 0)] [x1,(.ptr 69 0),i1] j1) (.ptr 66 0)) (.ptr 69 0)) d1) [x1]
theorem impl_IsPermutation_f {x0 x1:V}:Prt Tryz.prog 86 [x0,x1] (impl_IsPermutation_F x0 x1):=pfun (fn:=Tryz.f86) (m:=[.s,.s,.s,.s,.s,.s,.s,.l [13] [1,5,12],.s,.s,.j [1,5,12,13],.s,.s,.s,.s,.s,.s,.s,.s,.s,.s]) (c:=2 <= 34) rfl (fun h0 Rt=>by kernel_rfl) (by decide)
def impl_reached_F (x0 x1:V) (hi:Hp) (Rt:Hp -> V -> Prop):Prop :=
VL (vbld (vfill (vb (List.replicate 16 false)) [(0,1,(.bool true))])) fun a1 =>
palloc hi 69 120 (vb (List.replicate 16 false)) fun b1 =>
pst b1 16 (cellsV a1) (fun c1 d1 =>
pmks d1 76 5 1 1 (fun e1 =>
LP [6,7] [1,5] (fun f1 g1 h1 i1 =>
VL (vlenS (f1.getD 0 .und)) fun j1 =>
VL (lift2 (abin .lss) (f1.getD 1 .und) j1) fun k1 =>
pcond (
VL (vlenS (g1.getD 0 .und)) fun l1 =>
LP [6,21] [1,5,7,19,20] (fun m1 n1 o1 p1 =>
VL (lift2 (abin .lss) (m1.getD 1 .und) (n1.getD 4 .und)) fun q1 =>
pcond (
JN (fun r1 =>
VL (vixS 16 (n1.getD 3 .und) (m1.getD 1 .und)) fun s1 =>
pld o1 (some 16) (fun t1 u1 =>
palloc u1 73 26 (vi .u8 (List.replicate 16 0)) fun v1 =>
pst v1 16 (cellsV t1) (fun w1 y1 =>
VL (vixS 1 (m1.getD 0 .und) (n1.getD 2 .und)) fun z1 =>
pld y1 none (fun a2 b2 =>
VL (vixA 16 1 (.ptr 73 0) a2) fun c2 =>
pld b2 none (fun d2 e2 =>
VL (vixA 16 1 (n1.getD 1 .und) d2) fun f2 =>
pld e2 none (fun g2 h2 =>
VL (lift1 (aun .not) g2) fun i2 =>
pcond (
VL (vixA 16 1 (n1.getD 1 .und) d2) fun j2 =>
pst h2 1 (cellsV (.bool true)) (fun k2 l2 =>
pmks l2 103 5 1 1 (fun m2 =>
papp m2 (fun n2 o2=>papV 5 1 1 104 m2 (fun p2 q2 =>
r1 [(n1.getD 0 .und),(n1.getD 1 .und),p2,(n1.getD 2 .und),(n1.getD 3 .und),(n1.getD 4 .und),(m1.getD 1 .und)] q2) n2 o2 (m1.getD 0 .und)) (pavs m2 (m1.getD 0 .und) []) (preadS 1 m2 (.rf 103 0 1))) (vfill [(.int .u8 0)] [(0,1,d2)])) j2) (
r1 [(n1.getD 0 .und),(n1.getD 1 .und),(m1.getD 0 .und),(n1.getD 2 .und),(n1.getD 3 .und),(n1.getD 4 .und),(m1.getD 1 .und)] h2) i2) f2) c2) z1) (.ptr 73 0)) s1) fun r2 s2 =>
VL (lift2 (abin .add) (r2.getD 6 .und) (.int .i64 1)) fun t2 =>
p1 [(r2.getD 2 .und),t2] [(r2.getD 0 .und),(r2.getD 1 .und),(r2.getD 3 .und),(r2.getD 4 .und),(r2.getD 5 .und)] s2) (
VL (lift2 (abin .add) (n1.getD 2 .und) (.int .i64 1)) fun u2 =>
i1 [(m1.getD 0 .und),u2] [(n1.getD 0 .und),(n1.getD 1 .und)] o1) q1) [(f1.getD 0 .und),(.int .i64 0)] [(g1.getD 0 .und),(g1.getD 1 .und),(f1.getD 1 .und),(g1.getD 0 .und),l1] h1) (
VL (vlenS (f1.getD 0 .und)) fun v2 =>
Rt h1 v2) k1) [(.rf 76 0 1),(.int .i64 0)] [x1,(.ptr 69 0)] e1) (vfill [(.int .u8 0)] [(0,1,(.int .u8 0))])) (.ptr 69 0)
theorem impl_reached_f {x0 x1:V}:Prt Tryz.prog 87 [x0,x1] (impl_reached_F x0 x1):=pfun (fn:=Tryz.f87) (m:=[.s,.s,.s,.s,.s,.l [6,7] [1,5],.s,.s,.s,.s,.l [6,21] [1,5,7,19,20],.s,.s,.j [1,5,6,7,19,20,21],.s,.s,.s,.s,.s]) (c:=2 <= 44) rfl (fun h0 Rt=>by kernel_rfl) (by decide)
def impl_treeOfWord_1_F (x0 x1:V) (hi:Hp) (Rt:Hp -> V -> Prop):Prop :=
pld hi none (fun a1 b1 =>
VL (vlenS a1) fun c1 =>
VL (lift2 (abin .sub) c1 (.int .i64 1)) fun d1 =>
pld b1 none (fun e1 f1 =>
VL (vixS 1 e1 d1) fun g1 =>
pld f1 none (fun h1 i1 =>
VL (vfa 1 x1) fun j1 =>
JN (fun k1 =>
VL (lift2 (abin .rem) d1 (.int .i64 2)) fun l1 =>
VL (lift2 (abin .eql) l1 (.int .i64 1)) fun m1 =>
pcond (
VL (vfa 17 x1) fun n1 =>
k1 [x0,d1,h1,n1] i1) (
k1 [x0,d1,h1,j1] i1) m1) fun o1 p1 =>
VL (vlenS (o1.getD 2 .und)) fun q1 =>
LP [21] [0,2,3,4,19,20] (fun r1 s1 t1 u1 =>
VL (lift2 (abin .lss) (r1.getD 0 .und) (s1.getD 5 .und)) fun v1 =>
pcond (
VL (vixS 1 (s1.getD 4 .und) (r1.getD 0 .und)) fun w1 =>
pld t1 none (fun y1 z1 =>
VL (lift2 (abin .add) (r1.getD 0 .und) (.int .i64 1)) fun a2 =>
VL (vlenS (s1.getD 2 .und)) fun b2 =>
VL (lift2 (abin .rem) a2 b2) fun c2 =>
VL (vixS 1 (s1.getD 2 .und) c2) fun d2 =>
pld z1 none (fun e2 f2 =>
VL (vfa 0 (s1.getD 3 .und)) fun g2 =>
VL (vixA 16 1 g2 y1) fun h2 =>
pst f2 1 (cellsV e2) (fun i2 j2 =>
VL (lift2 (abin .add) (r1.getD 0 .und) (.int .i64 1)) fun k2 =>
u1 [k2] [(s1.getD 0 .und),(s1.getD 1 .und),(s1.getD 2 .und),(s1.getD 3 .und),(s1.getD 4 .und),(s1.getD 5 .und)] j2) h2) d2) w1) (
pld t1 none (fun l2 m2 =>
VL (vslS 1 l2 none (some (s1.getD 1 .und))) fun n2 =>
pst m2 1 (cellsV n2) (fun o2 p2 =>
Rt p2 (.tup [])) (s1.getD 0 .und)) (s1.getD 0 .und)) v1) [(.int .i64 0)] [(o1.getD 0 .und),(o1.getD 1 .und),(o1.getD 2 .und),(o1.getD 3 .und),(o1.getD 2 .und),q1] p1) g1) x0) x0
theorem impl_treeOfWord_1_f {x0 x1:V}:Prt Tryz.prog 90 [x0,x1] (impl_treeOfWord_1_F x0 x1):=pfun (fn:=Tryz.f90) (m:=[.s,.s,.s,.j [0,2,3,4],.s,.s,.s,.l [21] [0,2,3,4,19,20],.s,.s,.s,.s]) (c:=2 <= 42) rfl (fun h0 Rt=>by kernel_rfl) (by decide)
def impl_isDart_F (x0 x1:V) (hi:Hp) (Rt:Hp -> V -> Prop):Prop :=
pbox hi 66 28 (cellsV x0) fun a1 =>
VL (vlenS x1) fun b1 =>
LP [9] [2,7,8] (fun c1 d1 e1 f1 =>
VL (lift2 (abin .lss) (c1.getD 0 .und) (d1.getD 2 .und)) fun g1 =>
pcond (
VL (vixS 1 (d1.getD 1 .und) (c1.getD 0 .und)) fun h1 =>
pld e1 none (fun i1 j1 =>
VL (lift2 (abin .lss) i1 (.int .i64 0)) fun k1 =>
pgk false j1 (fun l1 m1=>m1 i1 j1) (fun n1 o1 p1 =>
pgk false p1 (fun q1 r1=>VL (vfa 0 (d1.getD 0 .und)) fun s1 =>
r1 s1 p1) (fun t1 u1 v1 =>
pgk false v1 (fun w1 y1=>pld v1 none (fun z1 a2 =>
y1 z1 a2) u1) (fun b2 c2 d2 =>
pgk false d2 (fun e2 f2=>VL (lift2 (abin .geq) o1 c2) fun g2 =>
f2 g2 d2) (fun h2 i2 j2 =>
VL (vpick h2 (.bool true) i2) fun k2 =>
pcond (
Rt j2 (.bool false)) (
VL (lift2 (abin .add) (c1.getD 0 .und) (.int .i64 1)) fun l2 =>
f1 [l2] [(d1.getD 0 .und),(d1.getD 1 .und),(d1.getD 2 .und)] j2) k2) b2) t1) n1) k1) h1) (
Rt e1 (.bool true)) g1) [(.int .i64 0)] [(.ptr 66 0),x1,b1] a1
theorem impl_isDart_f {x0 x1:V}:Prt Tryz.prog 91 [x0,x1] (impl_isDart_F x0 x1):=pfun (fn:=Tryz.f91) (m:=[.s,.s,.s,.l [9] [2,7,8],.s,.s,.s,.s,.s,.s,.s]) (c:=2 <= 22) rfl (fun h0 Rt=>by kernel_rfl) (by decide)
def impl_wordAt_F (x0 x1 x2 x3:V) (hi:Hp) (Rt:Hp -> V -> Prop):Prop :=
pbox hi 68 26 (cellsV x0) fun a1 =>
pbox a1 69 26 (cellsV x1) fun b1 =>
JN (fun c1 =>
VL (lift1 (aun .not) x3) fun d1 =>
pcond (
VL (vixA 16 1 (.ptr 68 0) x2) fun e1 =>
pld b1 none (fun f1 g1 =>
VL (lift1 (acvi .i64) f1) fun h1 =>
c1 [x2,x3,(.ptr 68 0),(.ptr 69 0),(.str []),h1] g1) e1) (
c1 [x2,x3,(.ptr 68 0),(.ptr 69 0),(.str []),x2] b1) d1) fun i1 j1 =>
LP [9,10,11] [2,3,4,5] (fun k1 l1 m1 n1 =>
pgk true m1 (fun o1 p1=>p1 (l1.getD 1 .und) m1) (fun q1 r1 s1 =>
VL (vpick q1 r1 (.bool false)) fun t1 =>
pgk false s1 (fun u1 v1=>v1 (k1.getD 1 .und) s1) (fun w1 y1 z1 =>
pgk false z1 (fun a2 b2=>b2 (l1.getD 0 .und) z1) (fun c2 d2 e2 =>
pgk false e2 (fun f2 g2=>VL (lift2 (abin .neq) y1 d2) fun h2 =>
g2 h2 e2) (fun i2 j2 k2 =>
VL (vpick i2 (.bool true) j2) fun l2 =>
pcond (
pld k2 (some 16) (fun m2 n2 =>
pld n2 (some 16) (fun o2 p2 =>
pcal Tryz.prog 92 96 p2 (fun q2 r2 =>
VL (lift2 (abin .add) (.str [40]) q2) fun s2 =>
VL (lift2 (abin .add) s2 (.str [41])) fun t2 =>
VL (lift2 (abin .add) (k1.getD 0 .und) t2) fun u2 =>
VL (vixA 16 1 (l1.getD 2 .und) (k1.getD 1 .und)) fun v2 =>
pld r2 none (fun w2 y2 =>
VL (lift1 (acvi .i64) w2) fun z2 =>
n1 [u2,z2,(.bool false)] [(l1.getD 0 .und),(l1.getD 1 .und),(l1.getD 2 .und),(l1.getD 3 .und)] y2) v2) [m2,o2,(k1.getD 1 .und),(.bool false)]) (l1.getD 2 .und)) (l1.getD 3 .und)) (
Rt k2 (k1.getD 0 .und)) l2) c2) w1) t1) (k1.getD 2 .und)) [(i1.getD 4 .und),(i1.getD 5 .und),(.bool true)] [(i1.getD 0 .und),(i1.getD 1 .und),(i1.getD 2 .und),(i1.getD 3 .und)] j1
theorem impl_wordAt_f {x0 x1 x2 x3:V}:Prt Tryz.prog 92 [x0,x1,x2,x3] (impl_wordAt_F x0 x1 x2 x3):=pfun (fn:=Tryz.f92) (m:=[.s,.s,.s,.j [2,3,4,5,9,10],.s,.s,.s,.l [9,10,11] [2,3,4,5],.s,.s,.s,.s,.s]) (c:=4 <= 41) rfl (fun h0 Rt=>by kernel_rfl) (by decide)
def impl_rename_F (x0 x1:V) (hi:Hp) (Rt:Hp -> V -> Prop):Prop :=
pbox hi 66 28 (cellsV x0) fun a1 =>
pbox a1 67 26 (cellsV x1) fun b1 =>
palloc b1 68 28 ([(.int .i64 0)] ++ (vi .u8 (List.replicate 32 0))) fun c1 =>
pld c1 none (fun d1 e1 =>
VL (vbld (vfill ([(.int .i64 0)] ++ (vi .u8 (List.replicate 32 0))) [(0,1,d1)])) fun f1 =>
palloc e1 69 28 ([(.int .i64 0)] ++ (vi .u8 (List.replicate 32 0))) fun g1 =>
pst g1 33 (cellsV f1) (fun h1 i1 =>
pld i1 none (fun j1 k1 =>
LP [12] [2,3,4,5,11] (fun l1 m1 n1 o1 =>
VL (lift2 (abin .lss) (l1.getD 0 .und) (m1.getD 4 .und)) fun p1 =>
pcond (
VL (vixA 16 1 (m1.getD 1 .und) (l1.getD 0 .und)) fun q1 =>
pld n1 none (fun r1 s1 =>
VL (vfa 1 (m1.getD 0 .und)) fun t1 =>
VL (vixA 16 1 t1 (l1.getD 0 .und)) fun u1 =>
pld s1 none (fun v1 w1 =>
VL (vixA 16 1 (m1.getD 1 .und) v1) fun y1 =>
pld w1 none (fun z1 a2 =>
VL (vfa 1 (m1.getD 3 .und)) fun b2 =>
VL (vixA 16 1 b2 r1) fun c2 =>
pst a2 1 (cellsV z1) (fun d2 e2 =>
VL (vixA 16 1 (m1.getD 1 .und) (l1.getD 0 .und)) fun f2 =>
pld e2 none (fun g2 h2 =>
VL (vfa 17 (m1.getD 0 .und)) fun i2 =>
VL (vixA 16 1 i2 (l1.getD 0 .und)) fun j2 =>
pld h2 none (fun k2 l2 =>
VL (vixA 16 1 (m1.getD 1 .und) k2) fun m2 =>
pld l2 none (fun n2 o2 =>
VL (vfa 17 (m1.getD 3 .und)) fun p2 =>
VL (vixA 16 1 p2 g2) fun q2 =>
pst o2 1 (cellsV n2) (fun r2 s2 =>
VL (lift2 (abin .add) (l1.getD 0 .und) (.int .i64 1)) fun t2 =>
o1 [t2] [(m1.getD 0 .und),(m1.getD 1 .und),(m1.getD 2 .und),(m1.getD 3 .und),(m1.getD 4 .und)] s2) q2) m2) j2) f2) c2) y1) u1) q1) (
pld n1 (some 33) (fun u2 v2 =>
pst v2 33 (cellsV u2) (fun w2 y2 =>
VL (pcellV y2 (some 33) (m1.getD 2 .und)) fun z2 =>
Rt y2 z2) (m1.getD 2 .und)) (m1.getD 3 .und)) p1) [(.int .i64 0)] [(.ptr 66 0),(.ptr 67 0),(.ptr 68 0),(.ptr 69 0),j1] k1) (.ptr 66 0)) (.ptr 69 0)) (.ptr 66 0)
theorem impl_rename_f {x0 x1:V}:Prt Tryz.prog 93 [x0,x1] (impl_rename_F x0 x1):=pfun (fn:=Tryz.f93) (m:=[.s,.s,.s,.s,.l [12] [2,3,4,5,11],.s,.s,.s,.s,.s,.s]) (c:=2 <= 39) rfl (fun h0 Rt=>by kernel_rfl) (by decide)
def impl_naming_F (x0 x1:V) (hi:Hp) (Rt:Hp -> V -> Prop):Prop :=
pbox hi 66 28 (cellsV x0) fun a1 =>
palloc a1 68 26 (vi .u8 (List.replicate 16 0)) fun b1 =>
VL (vbld (vfill (vi .u8 (List.replicate 16 0)) [])) fun c1 =>
palloc b1 69 26 (vi .u8 (List.replicate 16 0)) fun d1 =>
pst d1 16 (cellsV c1) (fun e1 f1 =>
pld f1 (some 33) (fun g1 h1 =>
pcal Tryz.prog 112 75 h1 (fun i1 j1 =>
VL (vlenS i1) fun k1 =>
LP [13] [4,5,11,12] (fun l1 m1 n1 o1 =>
VL (lift2 (abin .lss) (l1.getD 0 .und) (m1.getD 3 .und)) fun p1 =>
pcond (
VL (vixS 1 (m1.getD 2 .und) (l1.getD 0 .und)) fun q1 =>
pld n1 none (fun r1 s1 =>
VL (lift1 (acvi .u8) (l1.getD 0 .und)) fun t1 =>
VL (vixA 16 1 (m1.getD 1 .und) r1) fun u1 =>
pst s1 1 (cellsV t1) (fun v1 w1 =>
VL (lift2 (abin .add) (l1.getD 0 .und) (.int .i64 1)) fun y1 =>
o1 [y1] [(m1.getD 0 .und),(m1.getD 1 .und),(m1.getD 2 .und),(m1.getD 3 .und)] w1) u1) q1) (
pld n1 (some 16) (fun z1 a2 =>
pst a2 16 (cellsV z1) (fun b2 c2 =>
VL (pcellV c2 (some 16) (m1.getD 0 .und)) fun d2 =>
Rt c2 d2) (m1.getD 0 .und)) (m1.getD 1 .und)) p1) [(.int .i64 0)] [(.ptr 68 0),(.ptr 69 0),i1,k1] j1) [g1,x1]) (.ptr 66 0)) (.ptr 69 0)
theorem impl_naming_f {x0 x1:V}:Prt Tryz.prog 94 [x0,x1] (impl_naming_F x0 x1):=pfun (fn:=Tryz.f94) (m:=[.s,.s,.s,.s,.l [13] [4,5,11,12],.s,.s,.s,.s,.s]) (c:=2 <= 24) rfl (fun h0 Rt=>by kernel_rfl) (by decide)
def impl_compareDessins_F (x0 x1:V) (hi:Hp) (Rt:Hp -> V -> Prop):Prop :=
pbox hi 66 28 (cellsV x0) fun a1 =>
pbox a1 67 28 (cellsV x1) fun b1 =>
pld b1 (some 16) (fun c1 d1 =>
pld d1 (some 16) (fun e1 f1 =>
pcal Tryz.prog 113 74 f1 (fun g1 h1 =>
VL (lift2 (abin .neq) g1 (.int .i64 0)) fun i1 =>
pcond (
Rt h1 g1) (
pld h1 (some 16) (fun j1 k1 =>
pld k1 (some 16) (fun l1 m1 =>
pcal Tryz.prog 113 82 m1 (fun n1 o1 =>
Rt o1 n1) [j1,l1]) (.ptr 67 17)) (.ptr 66 17)) i1) [c1,e1]) (.ptr 67 1)) (.ptr 66 1)
theorem impl_compareDessins_f {x0 x1:V}:Prt Tryz.prog 95 [x0,x1] (impl_compareDessins_F x0 x1):=pfun (fn:=Tryz.f95) (m:=[.s,.s,.s,.s,.s,.s]) (c:=2 <= 19) rfl (fun h0 Rt=>by kernel_rfl) (by decide)
def spec_l05Draw_F (x0:V) (hi:Hp) (Rt:Hp -> V -> Prop):Prop :=
palloc hi 66 28 ([(.int .i64 0)] ++ (vi .u8 (List.replicate 32 0))) fun a1 =>
pmks a1 74 2 3 3 (fun b1 =>
pcal Tryz.prog 103 75 b1 (fun c1 d1 =>
pcal Tryz.prog 51 76 d1 (fun e1 f1 =>
VL (lift2 (abin .add) (.int .i64 1) e1) fun g1 =>
pcal Tryz.prog 50 80 f1 (fun h1 i1 =>
pcal Tryz.prog 56 81 i1 (fun j1 k1 =>
palloc k1 68 28 ([(.int .i64 0)] ++ (vi .u8 (List.replicate 32 0))) fun l1 =>
pst l1 33 (cellsV j1) (fun m1 n1 =>
pcal Tryz.prog 51 83 n1 (fun o1 p1 =>
VL (lift2 (abin .eql) o1 (.int .i64 0)) fun q1 =>
pcond (
pldb p1 (some 33) (fun r1 s1 =>
pcala Tryz.prog 115 89 s1 (fun t1 u1 =>
pcal Tryz.prog 114 90 u1 (fun v1 w1 =>
pst w1 33 (cellsV v1) (fun y1 z1 =>
VL (pcellV z1 (some 33) (.ptr 66 0)) fun a2 =>
Rt z1 a2) (.ptr 66 0)) [r1,t1]) [(.ptr 68 0)] [x0,g1]) (.ptr 68 0) (.ptr 68 0)) (
VL (lift2 (abin .eql) o1 (.int .i64 1)) fun b2 =>
pcond (
pcal Tryz.prog 51 94 p1 (fun c2 d2 =>
VL (lift2 (abin .add) (.int .i64 1) c2) fun e2 =>
pcal Tryz.prog 51 98 d2 (fun f2 g2 =>
VL (lift2 (abin .add) (.int .i64 1) f2) fun h2 =>
pcal Tryz.prog 50 100 g2 (fun i2 j2 =>
LP [5,7] [2,6] (fun k2 l2 m2 n2 =>
VL (lift2 (abin .gtr) (k2.getD 0 .und) (.int .i64 1)) fun o2 =>
pcond (
VL (lift2 (abin .add) (k2.getD 1 .und) (l2.getD 1 .und)) fun p2 =>
VL (lift2 (abin .sub) (k2.getD 0 .und) (.int .i64 1)) fun q2 =>
n2 [q2,p2] [(l2.getD 0 .und),(l2.getD 1 .und)] m2) (
pcal Tryz.prog 56 110 m2 (fun r2 s2 =>
pst s2 33 (cellsV r2) (fun t2 u2 =>
VL (pcellV u2 (some 33) (l2.getD 0 .und)) fun v2 =>
Rt u2 v2) (l2.getD 0 .und)) [(k2.getD 1 .und)]) o2) [e2,i2] [(.ptr 66 0),i2] j2) [x0,h2]) [x0,(.int .i64 5)]) [x0,(.int .i64 3)]) (
VL (lift2 (abin .eql) o1 (.int .i64 2)) fun w2 =>
pcond (
pcal Tryz.prog 51 115 p1 (fun y2 z2 =>
VL (lift2 (abin .add) (.int .i64 1) y2) fun a3 =>
pcal Tryz.prog 50 117 z2 (fun b3 c3 =>
VL (lift2 (abin .add) (.str [40]) b3) fun d3 =>
VL (lift2 (abin .add) d3 (.str [41])) fun e3 =>
pcal Tryz.prog 56 120 c3 (fun f3 g3 =>
pcal Tryz.prog 104 122 g3 (fun h3 i3 =>
pcal Tryz.prog 114 123 i3 (fun j3 k3 =>
pst k3 33 (cellsV j3) (fun l3 m3 =>
VL (pcellV m3 (some 33) (.ptr 66 0)) fun n3 =>
Rt m3 n3) (.ptr 66 0)) [f3,h3]) [g1]) [e3]) [x0,a3]) [x0,(.int .i64 6)]) (
pld p1 (some 33) (fun o3 p3 =>
pst p3 33 (cellsV o3) (fun q3 r3 =>
VL (pcellV r3 (some 33) (.ptr 66 0)) fun s3 =>
Rt r3 s3) (.ptr 66 0)) (.ptr 68 0)) w2) b2) q1) [x0,(.int .i64 4)]) (.ptr 68 0)) [h1]) [x0,g1]) [x0,c1]) [x0,(.rf 74 0 3)]) (vfill [(.int .i64 0),(.int .i64 0),(.int .i64 0)] [(0,1,(.int .i64 5)),(1,1,(.int .i64 9)),(2,1,(.int .i64 16))])
theorem spec_l05Draw_f {x0:V}:Prt Tryz.prog 96 [x0] (spec_l05Draw_F x0):=pfun (fn:=Tryz.f96) (m:=[.s,.s,.s,.s,.s,.s,.s,.s,.s,.s,.s,.s,.l [5,7] [2,6],.s,.s,.s,.s,.s,.s,.s]) (c:=1 <= 61) rfl (fun h0 Rt=>by kernel_rfl) (by decide)
def spec_l01Star_F (x0:V) (hi:Hp) (Rt:Hp -> V -> Prop):Prop :=
palloc hi 66 28 ([(.int .i64 0)] ++ (vi .u8 (List.replicate 32 0))) fun a1 =>
pcal Tryz.prog 116 69 a1 (fun b1 c1 =>
pcal Tryz.prog 104 71 c1 (fun d1 e1 =>
VL (vbld (vfill ([(.int .i64 0)] ++ (vi .u8 (List.replicate 32 0))) [(0,1,x0),(1,16,b1),(17,16,d1)])) fun f1 =>
pst e1 33 (cellsV f1) (fun g1 h1 =>
VL (pcellV h1 (some 33) (.ptr 66 0)) fun i1 =>
Rt h1 i1) (.ptr 66 0)) [x0]) [x0]
theorem spec_l01Star_f {x0:V}:Prt Tryz.prog 97 [x0] (spec_l01Star_F x0):=pfun (fn:=Tryz.f97) (m:=[.s,.s]) (c:=1 <= 9) rfl (fun h0 Rt=>by kernel_rfl) (by decide)
def spec_l01Perm_F (x0 x1:V) (hi:Hp) (Rt:Hp -> V -> Prop):Prop :=
pbox hi 66 26 (cellsV x0) fun a1 =>
pcal Tryz.prog 67 72 a1 (fun b1 c1 =>
VL (lift1 (aun .not) b1) fun d1 =>
pcond (
Rt c1 (.bool false)) (
VL (vbld (vfill (vb (List.replicate 16 false)) [])) fun e1 =>
palloc c1 69 120 (vb (List.replicate 16 false)) fun f1 =>
pst f1 16 (cellsV e1) (fun g1 h1 =>
LP [6] [1,2,5] (fun i1 j1 k1 l1 =>
VL (lift2 (abin .lss) (i1.getD 0 .und) (.int .i64 16)) fun m1 =>
pcond (
JN (fun n1 =>
VL (lift2 (abin .geq) (i1.getD 0 .und) (j1.getD 0 .und)) fun o1 =>
pcond (
VL (vixA 16 1 (j1.getD 1 .und) (i1.getD 0 .und)) fun p1 =>
pld k1 none (fun q1 r1 =>
VL (lift2 (abin .neq) q1 (.int .u8 0)) fun s1 =>
pcond (
Rt r1 (.bool false)) (
n1 [(j1.getD 0 .und),(j1.getD 1 .und),(j1.getD 2 .und),(i1.getD 0 .und)] r1) s1) p1) (
VL (vixA 16 1 (j1.getD 1 .und) (i1.getD 0 .und)) fun t1 =>
pld k1 none (fun u1 v1 =>
VL (lift1 (acvi .i64) u1) fun w1 =>
VL (lift2 (abin .geq) w1 (j1.getD 0 .und)) fun y1 =>
pgk false v1 (fun z1 a2=>a2 (i1.getD 0 .und) v1) (fun b2 c2 d2 =>
pgk false d2 (fun e2 f2=>VL (vixA 16 1 (j1.getD 1 .und) c2) fun g2 =>
f2 g2 d2) (fun h2 i2 j2 =>
pgk false j2 (fun k2 l2=>pld j2 none (fun m2 n2 =>
l2 m2 n2) i2) (fun o2 p2 q2 =>
pgk false q2 (fun r2 s2=>VL (vixA 16 1 (j1.getD 2 .und) p2) fun t2 =>
s2 t2 q2) (fun u2 v2 w2 =>
pgk false w2 (fun y2 z2=>pld w2 none (fun a3 b3 =>
z2 a3 b3) v2) (fun c3 d3 e3 =>
VL (vpick c3 (.bool true) d3) fun f3 =>
pcond (
Rt e3 (.bool false)) (
VL (vixA 16 1 (j1.getD 1 .und) (i1.getD 0 .und)) fun g3 =>
pld e3 none (fun h3 i3 =>
VL (vixA 16 1 (j1.getD 2 .und) h3) fun j3 =>
pst i3 1 (cellsV (.bool true)) (fun k3 l3 =>
n1 [(j1.getD 0 .und),(j1.getD 1 .und),(j1.getD 2 .und),(i1.getD 0 .und)] l3) j3) g3) f3) u2) o2) h2) b2) y1) t1) o1) fun m3 n3 =>
VL (lift2 (abin .add) (m3.getD 3 .und) (.int .i64 1)) fun o3 =>
l1 [o3] [(m3.getD 0 .und),(m3.getD 1 .und),(m3.getD 2 .und)] n3) (
Rt k1 (.bool true)) m1) [(.int .i64 0)] [x1,(.ptr 66 0),(.ptr 69 0)] h1) (.ptr 69 0)) d1) [x1,(.int .i64 1),(.int .i64 16)]
theorem spec_l01Perm_f {x0 x1:V}:Prt Tryz.prog 98 [x0,x1] (spec_l01Perm_F x0 x1):=pfun (fn:=Tryz.f98) (m:=[.s,.s,.s,.s,.s,.s,.s,.l [6] [1,2,5],.s,.s,.j [1,2,5,6],.s,.s,.s,.s,.s,.s]) (c:=2 <= 41) rfl (fun h0 Rt=>by kernel_rfl) (by decide)
def spec_l01Connected_F (x0 x1 x2:V) (hi:Hp) (Rt:Hp -> V -> Prop):Prop :=
pbox hi 68 26 (cellsV x1) fun a1 =>
pbox a1 69 26 (cellsV x2) fun b1 =>
VL (vbld (vfill (vb (List.replicate 16 false)) [])) fun c1 =>
pmks b1 77 5 1 1 (fun d1 =>
palloc d1 71 120 (vb (List.replicate 16 false)) fun e1 =>
pst e1 16 (cellsV c1) (fun f1 g1 =>
VL (vixA 16 1 (.ptr 71 0) (.int .i64 0)) fun h1 =>
pst g1 1 (cellsV (.bool true)) (fun i1 j1 =>
LP [8,9] [0,4,5,7] (fun k1 l1 m1 n1 =>
VL (vlenS (k1.getD 0 .und)) fun o1 =>
VL (lift2 (abin .lss) (k1.getD 1 .und) o1) fun p1 =>
pcond (
VL (vixS 1 (k1.getD 0 .und) (k1.getD 1 .und)) fun q1 =>
pld m1 none (fun r1 s1 =>
VL (vixA 16 1 (l1.getD 1 .und) r1) fun t1 =>
pld s1 none (fun u1 v1 =>
VL (vixS 1 (k1.getD 0 .und) (k1.getD 1 .und)) fun w1 =>
pld v1 none (fun y1 z1 =>
VL (vixA 16 1 (l1.getD 2 .und) y1) fun a2 =>
pld z1 none (fun b2 c2 =>
pmks c2 97 5 2 2 (fun d2 =>
LP [8,11] [0,4,5,7,9,10] (fun e2 f2 g2 h2 =>
VL (lift2 (abin .lss) (e2.getD 1 .und) (.int .i64 2)) fun i2 =>
pcond (
JN (fun j2 =>
VL (vixS 1 (f2.getD 5 .und) (e2.getD 1 .und)) fun k2 =>
pld g2 none (fun l2 m2 =>
VL (vixA 16 1 (f2.getD 3 .und) l2) fun n2 =>
pld m2 none (fun o2 p2 =>
VL (lift1 (aun .not) o2) fun q2 =>
pcond (
VL (vixS 1 (f2.getD 5 .und) (e2.getD 1 .und)) fun r2 =>
pld p2 none (fun s2 t2 =>
VL (vixA 16 1 (f2.getD 3 .und) s2) fun u2 =>
pst t2 1 (cellsV (.bool true)) (fun v2 w2 =>
VL (vixS 1 (f2.getD 5 .und) (e2.getD 1 .und)) fun y2 =>
pld w2 none (fun z2 a3 =>
pmks a3 119 5 1 1 (fun b3 =>
papp b3 (fun c3 d3=>papV 5 1 1 120 b3 (fun e3 f3 =>
j2 [(f2.getD 0 .und),(f2.getD 1 .und),(f2.getD 2 .und),(f2.getD 3 .und),e3,(f2.getD 4 .und),(f2.getD 5 .und),(e2.getD 1 .und)] f3) c3 d3 (e2.getD 0 .und)) (pavs b3 (e2.getD 0 .und) []) (preadS 1 b3 (.rf 119 0 1))) (vfill [(.int .u8 0)] [(0,1,z2)])) y2) u2) r2) (
j2 [(f2.getD 0 .und),(f2.getD 1 .und),(f2.getD 2 .und),(f2.getD 3 .und),(e2.getD 0 .und),(f2.getD 4 .und),(f2.getD 5 .und),(e2.getD 1 .und)] p2) q2) n2) k2) fun g3 h3 =>
VL (lift2 (abin .add) (g3.getD 7 .und) (.int .i64 1)) fun i3 =>
h2 [(g3.getD 4 .und),i3] [(g3.getD 0 .und),(g3.getD 1 .und),(g3.getD 2 .und),(g3.getD 3 .und),(g3.getD 5 .und),(g3.getD 6 .und)] h3) (
VL (lift2 (abin .add) (f2.getD 4 .und) (.int .i64 1)) fun j3 =>
n1 [(e2.getD 0 .und),j3] [(f2.getD 0 .und),(f2.getD 1 .und),(f2.getD 2 .und),(f2.getD 3 .und)] g2) i2) [(k1.getD 0 .und),(.int .i64 0)] [(l1.getD 0 .und),(l1.getD 1 .und),(l1.getD 2 .und),(l1.getD 3 .und),(k1.getD 1 .und),(.rf 97 0 2)] d2) (vfill [(.int .u8 0),(.int .u8 0)] [(0,1,u1),(1,1,b2)])) a2) w1) t1) q1) (
VL (vlenS (k1.getD 0 .und)) fun k3 =>
VL (lift2 (abin .eql) k3 (l1.getD 0 .und)) fun l3 =>
Rt m1 l3) p1) [(.rf 77 0 1),(.int .i64 0)] [x0,(.ptr 68 0),(.ptr 69 0),(.ptr 71 0)] j1) h1) (.ptr 71 0)) (vfill [(.int .u8 0)] [(0,1,(.int .u8 0))])
theorem spec_l01Connected_f {x0 x1 x2:V}:Prt Tryz.prog 99 [x0,x1,x2] (spec_l01Connected_F x0 x1 x2):=pfun (fn:=Tryz.f99) (m:=[.s,.s,.s,.s,.s,.l [8,9] [0,4,5,7],.s,.s,.s,.s,.s,.l [8,11] [0,4,5,7,9,10],.s,.s,.j [0,4,5,7,8,9,10,11],.s,.s,.s]) (c:=3 <= 61) rfl (fun h0 Rt=>by kernel_rfl) (by decide)
def spec_l01Passport_F (x0:V) (hi:Hp) (Rt:Hp -> V -> Prop):Prop :=
pbox hi 65 28 (cellsV x0) fun a1 =>
pld a1 (some 16) (fun b1 c1 =>
pld c1 none (fun d1 e1 =>
pld e1 (some 16) (fun f1 g1 =>
pld g1 none (fun h1 i1 =>
pld i1 (some 33) (fun j1 k1 =>
pld k1 none (fun l1 m1 =>
pcalp Tryz.prog 117 71 m1 (fun n1 o1 =>
pcalp Tryz.prog 117 76 o1 (fun p1 q1 =>
pcalp Tryz.prog 118 78 q1 (fun r1 s1 =>
pcal Tryz.prog 117 81 s1 (fun t1 u1 =>
pmks u1 82 52 3 3 (fun v1 =>
Rt v1 (.rf 82 0 3)) (vfill [.nils,.nils,.nils] [(0,1,n1),(1,1,p1),(2,1,t1)])) [r1,l1]) [j1]) [f1,h1]) [b1,d1]) (.ptr 65 0)) (.ptr 65 0)) (.ptr 65 0)) (.ptr 65 17)) (.ptr 65 0)) (.ptr 65 1)
theorem spec_l01Passport_f {x0:V}:Prt Tryz.prog 100 [x0] (spec_l01Passport_F x0):=pfun (fn:=Tryz.f100) (m:=[.s,.s]) (c:=1 <= 19) rfl (fun h0 Rt=>by kernel_rfl) (by decide)
def spec_l05Below_F (x0 x1 x2:V) (hi:Hp) (Rt:Hp -> V -> Prop):Prop :=
pbox hi 67 28 (cellsV x0) fun a1 =>
pld a1 (some 16) (fun b1 c1 =>
palloc c1 72 26 (vi .u8 (List.replicate 16 0)) fun d1 =>
pst d1 16 (cellsV b1) (fun e1 f1 =>
JN (fun g1 =>
pcond (
pld f1 (some 16) (fun h1 i1 =>
pst i1 16 (cellsV h1) (fun j1 k1 =>
g1 [x1,x2,(.ptr 67 0),(.str []),(.ptr 72 0)] k1) (.ptr 72 0)) (.ptr 67 17)) (
g1 [x1,x2,(.ptr 67 0),(.str []),(.ptr 72 0)] f1) x2) fun l1 m1 =>
VL (vixA 16 1 (l1.getD 4 .und) (l1.getD 0 .und)) fun n1 =>
pld m1 none (fun o1 p1 =>
VL (lift1 (acvi .i64) o1) fun q1 =>
LP [7,9] [1,2,3,8] (fun r1 s1 t1 u1 =>
VL (lift2 (abin .neq) (r1.getD 1 .und) (s1.getD 0 .und)) fun v1 =>
pcond (
VL (lift2 (abin .add) (r1.getD 0 .und) (.str [40])) fun w1 =>
pld t1 (some 33) (fun y1 z1 =>
VL (lift1 (aun .not) (s1.getD 1 .und)) fun a2 =>
pcal Tryz.prog 101 96 z1 (fun b2 c2 =>
VL (lift2 (abin .add) w1 b2) fun d2 =>
VL (lift2 (abin .add) d2 (.str [41])) fun e2 =>
VL (vixA 16 1 (s1.getD 3 .und) (r1.getD 1 .und)) fun f2 =>
pld c2 none (fun g2 h2 =>
VL (lift1 (acvi .i64) g2) fun i2 =>
u1 [e2,i2] [(s1.getD 0 .und),(s1.getD 1 .und),(s1.getD 2 .und),(s1.getD 3 .und)] h2) f2) [y1,(r1.getD 1 .und),a2]) (s1.getD 2 .und)) (
Rt t1 (r1.getD 0 .und)) v1) [(l1.getD 3 .und),q1] [(l1.getD 0 .und),(l1.getD 1 .und),(l1.getD 2 .und),(l1.getD 4 .und)] p1) n1) (.ptr 72 0)) (.ptr 67 1)
theorem spec_l05Below_f {x0 x1 x2:V}:Prt Tryz.prog 101 [x0,x1,x2] (spec_l05Below_F x0 x1 x2):=pfun (fn:=Tryz.f101) (m:=[.s,.s,.s,.j [1,2,3,7,8],.s,.s,.s,.l [7,9] [1,2,3,8],.s,.s,.s,.s]) (c:=3 <= 36) rfl (fun h0 Rt=>by kernel_rfl) (by decide)
def spec_l01Draw_F (x0 x1:V) (hi:Hp) (Rt:Hp -> V -> Prop):Prop :=
palloc hi 68 28 ([(.int .i64 0)] ++ (vi .u8 (List.replicate 32 0))) fun a1 =>
pcal Tryz.prog 51 75 a1 (fun b1 c1 =>
VL (lift2 (abin .add) (.int .i64 1) b1) fun d1 =>
LP [6] [0,4,5] (fun e1 f1 g1 h1 =>
VL (lift2 (abin .lss) (e1.getD 0 .und) (.int .i64 8)) fun i1 =>
pcond (
pmks g1 86 2 4 4 (fun j1 =>
pcal Tryz.prog 103 87 j1 (fun k1 l1 =>
pcal Tryz.prog 119 88 l1 (fun m1 n1 =>
pmks n1 93 2 4 4 (fun o1 =>
pcal Tryz.prog 103 94 o1 (fun p1 q1 =>
pcal Tryz.prog 119 95 q1 (fun r1 s1 =>
VL (vbld (vfill ([(.int .i64 0)] ++ (vi .u8 (List.replicate 32 0))) [(0,1,(f1.getD 2 .und)),(1,16,m1),(17,16,r1)])) fun t1 =>
palloc s1 71 28 ([(.int .i64 0)] ++ (vi .u8 (List.replicate 32 0))) fun u1 =>
pst u1 33 (cellsV t1) (fun v1 w1 =>
pld w1 (some 33) (fun y1 z1 =>
pcal Tryz.prog 66 98 z1 (fun a2 b2 =>
pcond (
pld b2 (some 33) (fun c2 d2 =>
pst d2 33 (cellsV c2) (fun e2 f2 =>
VL (pcellV f2 (some 33) (f1.getD 1 .und)) fun g2 =>
Rt f2 g2) (f1.getD 1 .und)) (.ptr 71 0)) (
VL (lift2 (abin .add) (e1.getD 0 .und) (.int .i64 1)) fun h2 =>
h1 [h2] [(f1.getD 0 .und),(f1.getD 1 .und),(f1.getD 2 .und)] b2) a2) [y1]) (.ptr 71 0)) (.ptr 71 0)) [(f1.getD 0 .und),(f1.getD 2 .und),p1]) [(f1.getD 0 .und),(.rf 93 0 4)]) (vfill (vi .i64 (List.replicate 4 0)) [(0,1,(.int .i64 2)),(1,1,(.int .i64 2)),(2,1,(.int .i64 3)),(3,1,(f1.getD 2 .und))])) [(f1.getD 0 .und),(f1.getD 2 .und),k1]) [(f1.getD 0 .und),(.rf 86 0 4)]) (vfill (vi .i64 (List.replicate 4 0)) [(0,1,(.int .i64 2)),(1,1,(.int .i64 3)),(2,1,(.int .i64 4)),(3,1,(f1.getD 2 .und))])) (
pcal Tryz.prog 97 101 g1 (fun i2 j2 =>
palloc j2 72 28 ([(.int .i64 0)] ++ (vi .u8 (List.replicate 32 0))) fun k2 =>
pst k2 33 (cellsV i2) (fun l2 m2 =>
pcal Tryz.prog 115 104 m2 (fun n2 o2 =>
pst o2 16 (cellsV n2) (fun p2 q2 =>
pld q2 (some 33) (fun r2 s2 =>
pst s2 33 (cellsV r2) (fun t2 u2 =>
VL (pcellV u2 (some 33) (f1.getD 1 .und)) fun v2 =>
Rt u2 v2) (f1.getD 1 .und)) (.ptr 72 0)) (.ptr 72 17)) [(f1.getD 0 .und),(f1.getD 2 .und)]) (.ptr 72 0)) [(f1.getD 2 .und)]) i1) [(.int .i64 0)] [x0,(.ptr 68 0),d1] c1) [x0,x1]
theorem spec_l01Draw_f {x0 x1:V}:Prt Tryz.prog 102 [x0,x1] (spec_l01Draw_F x0 x1):=pfun (fn:=Tryz.f102) (m:=[.s,.s,.s,.s,.l [6] [0,4,5],.s,.s,.s,.s,.s,.s,.s,.s,.s]) (c:=2 <= 43) rfl (fun h0 Rt=>by kernel_rfl) (by decide)
def spec_l01Pick_F (x0 x1:V) (hi:Hp) (Rt:Hp -> V -> Prop):Prop :=
VL (vlenS x1) fun a1 =>
pcal Tryz.prog 51 73 hi (fun b1 c1 =>
VL (vixS 1 x1 b1) fun d1 =>
pld c1 none (fun e1 f1 =>
Rt f1 e1) d1) [x0,a1]
theorem spec_l01Pick_f {x0 x1:V}:Prt Tryz.prog 103 [x0,x1] (spec_l01Pick_F x0 x1):=pfun (fn:=Tryz.f103) (m:=[.s,.s]) (c:=2 <= 12) rfl (fun h0 Rt=>by kernel_rfl) (by decide)
def spec_l01Same_F (x0:V) (hi:Hp) (Rt:Hp -> V -> Prop):Prop :=
palloc hi 66 26 (vi .u8 (List.replicate 16 0)) fun a1 =>
VL (vbld (vfill (vi .u8 (List.replicate 16 0)) [])) fun b1 =>
palloc a1 67 26 (vi .u8 (List.replicate 16 0)) fun c1 =>
pst c1 16 (cellsV b1) (fun d1 e1 =>
LP [4] [0,2,3] (fun f1 g1 h1 i1 =>
VL (lift2 (abin .lss) (f1.getD 0 .und) (g1.getD 0 .und)) fun j1 =>
pcond (
VL (lift1 (acvi .u8) (f1.getD 0 .und)) fun k1 =>
VL (vixA 16 1 (g1.getD 2 .und) (f1.getD 0 .und)) fun l1 =>
pst h1 1 (cellsV k1) (fun m1 n1 =>
VL (lift2 (abin .add) (f1.getD 0 .und) (.int .i64 1)) fun o1 =>
i1 [o1] [(g1.getD 0 .und),(g1.getD 1 .und),(g1.getD 2 .und)] n1) l1) (
pld h1 (some 16) (fun p1 q1 =>
pst q1 16 (cellsV p1) (fun r1 s1 =>
VL (pcellV s1 (some 16) (g1.getD 1 .und)) fun t1 =>
Rt s1 t1) (g1.getD 1 .und)) (g1.getD 2 .und)) j1) [(.int .i64 0)] [x0,(.ptr 66 0),(.ptr 67 0)] e1) (.ptr 67 0)
theorem spec_l01Same_f {x0:V}:Prt Tryz.prog 104 [x0] (spec_l01Same_F x0):=pfun (fn:=Tryz.f104) (m:=[.s,.s,.s,.s,.l [4] [0,2,3],.s,.s,.s,.s]) (c:=1 <= 16) rfl (fun h0 Rt=>by kernel_rfl) (by decide)
def impl_typeOf_F (x0 x1:V) (hi:Hp) (Rt:Hp -> V -> Prop):Prop :=
pbox hi 66 26 (cellsV x0) fun a1 =>
pmks a1 72 2 0 0 (fun b1 =>
pld b1 (some 16) (fun c1 d1 =>
pcal Tryz.prog 121 75 d1 (fun e1 f1 =>
VL (vlenS e1) fun g1 =>
LP [5,13] [11,12] (fun h1 i1 j1 k1 =>
VL (lift2 (abin .lss) (h1.getD 1 .und) (i1.getD 1 .und)) fun l1 =>
pcond (
VL (vixS 1 (i1.getD 0 .und) (h1.getD 1 .und)) fun m1 =>
pld j1 none (fun n1 o1 =>
VL (vlenS n1) fun p1 =>
pmks o1 84 2 1 1 (fun q1 =>
papp q1 (fun r1 s1=>papV 2 1 8 85 q1 (fun t1 u1 =>
VL (lift2 (abin .add) (h1.getD 1 .und) (.int .i64 1)) fun v1 =>
k1 [t1,v1] [(i1.getD 0 .und),(i1.getD 1 .und)] u1) r1 s1 (h1.getD 0 .und)) (pavs q1 (h1.getD 0 .und) []) (preadS 1 q1 (.rf 84 0 1))) (vfill [(.int .i64 0)] [(0,1,p1)])) m1) (
pcal Tryz.prog 110 88 j1 (fun w1 y1 =>
Rt y1 w1) [(h1.getD 0 .und)]) l1) [(.rf 72 0 0),(.int .i64 0)] [e1,g1] f1) [c1,x1]) (.ptr 66 0)) (vfill [] [])
theorem impl_typeOf_f {x0 x1:V}:Prt Tryz.prog 106 [x0,x1] (impl_typeOf_F x0 x1):=pfun (fn:=Tryz.f106) (m:=[.s,.s,.s,.s,.l [5,13] [11,12],.s,.s,.s,.s,.s]) (c:=2 <= 25) rfl (fun h0 Rt=>by kernel_rfl) (by decide)
def impl_face_F (x0:V) (hi:Hp) (Rt:Hp -> V -> Prop):Prop :=
pbox hi 65 28 (cellsV x0) fun a1 =>
palloc a1 66 26 (vi .u8 (List.replicate 16 0)) fun b1 =>
pld b1 (some 16) (fun c1 d1 =>
pld d1 (some 16) (fun e1 f1 =>
pld f1 none (fun g1 h1 =>
pld h1 none (fun i1 j1 =>
pcalp Tryz.prog 123 73 j1 (fun k1 l1 =>
pcal Tryz.prog 122 76 l1 (fun m1 n1 =>
pst n1 16 (cellsV m1) (fun o1 p1 =>
VL (pcellV p1 (some 16) (.ptr 66 0)) fun q1 =>
Rt p1 q1) (.ptr 66 0)) [k1,i1]) [c1,e1,g1]) (.ptr 65 0)) (.ptr 65 0)) (.ptr 65 17)) (.ptr 65 1)
theorem impl_face_f {x0:V}:Prt Tryz.prog 107 [x0] (impl_face_F x0):=pfun (fn:=Tryz.f107) (m:=[.s,.s]) (c:=1 <= 13) rfl (fun h0 Rt=>by kernel_rfl) (by decide)
def impl_descending_F (x0:V) (hi:Hp) (Rt:Hp -> V -> Prop):Prop :=
pcal Tryz.prog 124 68 hi (fun a1 b1 =>
pcal Tryz.prog 125 70 b1 (fun c1 d1 =>
Rt d1 x0) [x0]) [x0]
theorem impl_descending_f {x0:V}:Prt Tryz.prog 110 [x0] (impl_descending_F x0):=pfun (fn:=Tryz.f110) (m:=[.s,.s,.s,.s]) (c:=1 <= 8) rfl (fun h0 Rt=>by kernel_rfl) (by decide)
def impl_isSize_F (x0:V) (hi:Hp) (Rt:Hp -> V -> Prop):Prop :=
VL (lift2 (abin .geq) x0 (.int .i64 1)) fun a1 =>
pgk true hi (fun b1 c1=>c1 x0 hi) (fun d1 e1 f1 =>
pgk true f1 (fun g1 h1=>VL (lift2 (abin .leq) e1 (.int .i64 16)) fun i1 =>
h1 i1 f1) (fun j1 k1 l1 =>
VL (vpick j1 k1 (.bool false)) fun m1 =>
Rt l1 m1) d1) a1
theorem impl_isSize_f {x0:V}:Prt Tryz.prog 111 [x0] (impl_isSize_F x0):=pfun (fn:=Tryz.f111) (m:=[.s,.s]) (c:=1 <= 9) rfl (fun h0 Rt=>by kernel_rfl) (by decide)
def impl_named_F (x0 x1:V) (hi:Hp) (Rt:Hp -> V -> Prop):Prop :=
pbox hi 66 28 (cellsV x0) fun a1 =>
VL (vbld (vfill (vb (List.replicate 16 false)) [])) fun b1 =>
palloc a1 69 120 (vb (List.replicate 16 false)) fun c1 =>
pst c1 16 (cellsV b1) (fun d1 e1 =>
VL (vixA 16 1 (.ptr 69 0) x1) fun f1 =>
pst e1 1 (cellsV (.bool true)) (fun g1 h1 =>
VL (lift1 (acvi .u8) x1) fun i1 =>
pmks h1 79 5 1 1 (fun j1 =>
LP [6,7] [2,5] (fun k1 l1 m1 n1 =>
VL (vlenS (k1.getD 0 .und)) fun o1 =>
VL (lift2 (abin .lss) (k1.getD 1 .und) o1) fun p1 =>
pcond (
VL (vixS 1 (k1.getD 0 .und) (k1.getD 1 .und)) fun q1 =>
pld m1 none (fun r1 s1 =>
VL (vfa 1 (l1.getD 0 .und)) fun t1 =>
VL (vixA 16 1 t1 r1) fun u1 =>
pld s1 none (fun v1 w1 =>
VL (vixS 1 (k1.getD 0 .und) (k1.getD 1 .und)) fun y1 =>
pld w1 none (fun z1 a2 =>
VL (vfa 17 (l1.getD 0 .und)) fun b2 =>
VL (vixA 16 1 b2 z1) fun c2 =>
pld a2 none (fun d2 e2 =>
pmks e2 100 5 2 2 (fun f2 =>
VL (vlenS (.rf 100 0 2)) fun g2 =>
LP [6,38] [2,5,7,36,37] (fun h2 i2 j2 k2 =>
VL (lift2 (abin .lss) (h2.getD 1 .und) (i2.getD 4 .und)) fun l2 =>
pcond (
JN (fun m2 =>
VL (vixS 1 (i2.getD 3 .und) (h2.getD 1 .und)) fun n2 =>
pld j2 none (fun o2 p2 =>
VL (vixA 16 1 (i2.getD 1 .und) o2) fun q2 =>
pld p2 none (fun r2 s2 =>
VL (lift1 (aun .not) r2) fun t2 =>
pcond (
VL (vixA 16 1 (i2.getD 1 .und) o2) fun u2 =>
pst s2 1 (cellsV (.bool true)) (fun v2 w2 =>
pmks w2 114 5 1 1 (fun y2 =>
papp y2 (fun z2 a3=>papV 5 1 1 115 y2 (fun b3 c3 =>
m2 [(i2.getD 0 .und),(i2.getD 1 .und),b3,(i2.getD 2 .und),(i2.getD 3 .und),(i2.getD 4 .und),(h2.getD 1 .und)] c3) z2 a3 (h2.getD 0 .und)) (pavs y2 (h2.getD 0 .und) []) (preadS 1 y2 (.rf 114 0 1))) (vfill [(.int .u8 0)] [(0,1,o2)])) u2) (
m2 [(i2.getD 0 .und),(i2.getD 1 .und),(h2.getD 0 .und),(i2.getD 2 .und),(i2.getD 3 .und),(i2.getD 4 .und),(h2.getD 1 .und)] s2) t2) q2) n2) fun d3 e3 =>
VL (lift2 (abin .add) (d3.getD 6 .und) (.int .i64 1)) fun f3 =>
k2 [(d3.getD 2 .und),f3] [(d3.getD 0 .und),(d3.getD 1 .und),(d3.getD 3 .und),(d3.getD 4 .und),(d3.getD 5 .und)] e3) (
VL (lift2 (abin .add) (i2.getD 2 .und) (.int .i64 1)) fun g3 =>
n1 [(h2.getD 0 .und),g3] [(i2.getD 0 .und),(i2.getD 1 .und)] j2) l2) [(k1.getD 0 .und),(.int .i64 0)] [(l1.getD 0 .und),(l1.getD 1 .und),(k1.getD 1 .und),(.rf 100 0 2),g2] f2) (vfill [(.int .u8 0),(.int .u8 0)] [(0,1,v1),(1,1,d2)])) c2) y1) u1) q1) (
Rt m1 (k1.getD 0 .und)) p1) [(.rf 79 0 1),(.int .i64 0)] [(.ptr 66 0),(.ptr 69 0)] j1) (vfill [(.int .u8 0)] [(0,1,i1)])) f1) (.ptr 69 0)
theorem impl_named_f {x0 x1:V}:Prt Tryz.prog 112 [x0,x1] (impl_named_F x0 x1):=pfun (fn:=Tryz.f112) (m:=[.s,.s,.s,.s,.s,.s,.l [6,7] [2,5],.s,.s,.s,.s,.l [6,38] [2,5,7,36,37],.s,.s,.j [2,5,6,7,36,37,38],.s,.s,.s,.s]) (c:=2 <= 54) rfl (fun h0 Rt=>by kernel_rfl) (by decide)
def spec_l05Moved_F (x0 x1:V) (hi:Hp) (Rt:Hp -> V -> Prop):Prop :=
pbox hi 66 28 (cellsV x0) fun a1 =>
pbox a1 67 26 (cellsV x1) fun b1 =>
palloc b1 68 28 ([(.int .i64 0)] ++ (vi .u8 (List.replicate 32 0))) fun c1 =>
pld c1 none (fun d1 e1 =>
VL (vbld (vfill ([(.int .i64 0)] ++ (vi .u8 (List.replicate 32 0))) [(0,1,d1)])) fun f1 =>
palloc e1 69 28 ([(.int .i64 0)] ++ (vi .u8 (List.replicate 32 0))) fun g1 =>
pst g1 33 (cellsV f1) (fun h1 i1 =>
LP [6] [2,3,4,5] (fun j1 k1 l1 m1 =>
VL (vfa 0 (k1.getD 0 .und)) fun n1 =>
pld l1 none (fun o1 p1 =>
VL (lift2 (abin .lss) (j1.getD 0 .und) o1) fun q1 =>
pcond (
VL (vixA 16 1 (k1.getD 1 .und) (j1.getD 0 .und)) fun r1 =>
pld p1 none (fun s1 t1 =>
VL (vfa 1 (k1.getD 0 .und)) fun u1 =>
VL (vixA 16 1 u1 (j1.getD 0 .und)) fun v1 =>
pld t1 none (fun w1 y1 =>
VL (vixA 16 1 (k1.getD 1 .und) w1) fun z1 =>
pld y1 none (fun a2 b2 =>
VL (vfa 1 (k1.getD 3 .und)) fun c2 =>
VL (vixA 16 1 c2 s1) fun d2 =>
pst b2 1 (cellsV a2) (fun e2 f2 =>
VL (vixA 16 1 (k1.getD 1 .und) (j1.getD 0 .und)) fun g2 =>
pld f2 none (fun h2 i2 =>
VL (vfa 17 (k1.getD 0 .und)) fun j2 =>
VL (vixA 16 1 j2 (j1.getD 0 .und)) fun k2 =>
pld i2 none (fun l2 m2 =>
VL (vixA 16 1 (k1.getD 1 .und) l2) fun n2 =>
pld m2 none (fun o2 p2 =>
VL (vfa 17 (k1.getD 3 .und)) fun q2 =>
VL (vixA 16 1 q2 h2) fun r2 =>
pst p2 1 (cellsV o2) (fun s2 t2 =>
VL (lift2 (abin .add) (j1.getD 0 .und) (.int .i64 1)) fun u2 =>
m1 [u2] [(k1.getD 0 .und),(k1.getD 1 .und),(k1.getD 2 .und),(k1.getD 3 .und)] t2) r2) n2) k2) g2) d2) z1) v1) r1) (
pld p1 (some 33) (fun v2 w2 =>
pst w2 33 (cellsV v2) (fun y2 z2 =>
VL (pcellV z2 (some 33) (k1.getD 2 .und)) fun a3 =>
Rt z2 a3) (k1.getD 2 .und)) (k1.getD 3 .und)) q1) n1) [(.int .i64 0)] [(.ptr 66 0),(.ptr 67 0),(.ptr 68 0),(.ptr 69 0)] i1) (.ptr 69 0)) (.ptr 66 0)
theorem spec_l05Moved_f {x0 x1:V}:Prt Tryz.prog 114 [x0,x1] (spec_l05Moved_F x0 x1):=pfun (fn:=Tryz.f114) (m:=[.s,.s,.s,.s,.l [6] [2,3,4,5],.s,.s,.s,.s,.s]) (c:=2 <= 39) rfl (fun h0 Rt=>by kernel_rfl) (by decide)
def spec_l01DrawPlaces_F (x0 x1:V) (hi:Hp) (Rt:Hp -> V -> Prop):Prop :=
palloc hi 68 26 (vi .u8 (List.replicate 16 0)) fun a1 =>
pcal Tryz.prog 104 74 a1 (fun b1 c1 =>
palloc c1 69 26 (vi .u8 (List.replicate 16 0)) fun d1 =>
pst d1 16 (cellsV b1) (fun e1 f1 =>
pcal Tryz.prog 51 76 f1 (fun g1 h1 =>
VL (lift2 (abin .eql) g1 (.int .i64 0)) fun i1 =>
pcond (
pld h1 (some 16) (fun j1 k1 =>
pst k1 16 (cellsV j1) (fun l1 m1 =>
VL (pcellV m1 (some 16) (.ptr 68 0)) fun n1 =>
Rt m1 n1) (.ptr 68 0)) (.ptr 69 0)) (
VL (lift2 (abin .sub) x1 (.int .i64 1)) fun o1 =>
LP [6] [0,4,5] (fun p1 q1 r1 s1 =>
VL (lift2 (abin .gtr) (p1.getD 0 .und) (.int .i64 0)) fun t1 =>
pcond (
VL (lift2 (abin .add) (p1.getD 0 .und) (.int .i64 1)) fun u1 =>
pcal Tryz.prog 51 88 r1 (fun v1 w1 =>
VL (vixA 16 1 (q1.getD 2 .und) (p1.getD 0 .und)) fun y1 =>
pld w1 none (fun z1 a2 =>
VL (vixA 16 1 (q1.getD 2 .und) v1) fun b2 =>
pld a2 none (fun c2 d2 =>
VL (vixA 16 1 (q1.getD 2 .und) (p1.getD 0 .und)) fun e2 =>
pst d2 1 (cellsV c2) (fun f2 g2 =>
VL (vixA 16 1 (q1.getD 2 .und) v1) fun h2 =>
pst g2 1 (cellsV z1) (fun i2 j2 =>
VL (lift2 (abin .sub) (p1.getD 0 .und) (.int .i64 1)) fun k2 =>
s1 [k2] [(q1.getD 0 .und),(q1.getD 1 .und),(q1.getD 2 .und)] j2) h2) e2) b2) y1) [(q1.getD 0 .und),u1]) (
pld r1 (some 16) (fun l2 m2 =>
pst m2 16 (cellsV l2) (fun n2 o2 =>
VL (pcellV o2 (some 16) (q1.getD 1 .und)) fun p2 =>
Rt o2 p2) (q1.getD 1 .und)) (q1.getD 2 .und)) t1) [o1] [x0,(.ptr 68 0),(.ptr 69 0)] h1) i1) [x0,(.int .i64 8)]) (.ptr 69 0)) [x1]
theorem spec_l01DrawPlaces_f {x0 x1:V}:Prt Tryz.prog 115 [x0,x1] (spec_l01DrawPlaces_F x0 x1):=pfun (fn:=Tryz.f115) (m:=[.s,.s,.s,.s,.s,.s,.s,.l [6] [0,4,5],.s,.s,.s,.s,.s,.s,.s]) (c:=2 <= 37) rfl (fun h0 Rt=>by kernel_rfl) (by decide)
def spec_l01Turn_F (x0:V) (hi:Hp) (Rt:Hp -> V -> Prop):Prop :=
palloc hi 66 26 (vi .u8 (List.replicate 16 0)) fun a1 =>
VL (vbld (vfill (vi .u8 (List.replicate 16 0)) [])) fun b1 =>
palloc a1 67 26 (vi .u8 (List.replicate 16 0)) fun c1 =>
pst c1 16 (cellsV b1) (fun d1 e1 =>
LP [4] [0,2,3] (fun f1 g1 h1 i1 =>
VL (lift2 (abin .lss) (f1.getD 0 .und) (g1.getD 0 .und)) fun j1 =>
pcond (
VL (lift2 (abin .add) (f1.getD 0 .und) (.int .i64 1)) fun k1 =>
VL (lift2 (abin .rem) k1 (g1.getD 0 .und)) fun l1 =>
VL (lift1 (acvi .u8) l1) fun m1 =>
VL (vixA 16 1 (g1.getD 2 .und) (f1.getD 0 .und)) fun n1 =>
pst h1 1 (cellsV m1) (fun o1 p1 =>
VL (lift2 (abin .add) (f1.getD 0 .und) (.int .i64 1)) fun q1 =>
i1 [q1] [(g1.getD 0 .und),(g1.getD 1 .und),(g1.getD 2 .und)] p1) n1) (
pld h1 (some 16) (fun r1 s1 =>
pst s1 16 (cellsV r1) (fun t1 u1 =>
VL (pcellV u1 (some 16) (g1.getD 1 .und)) fun v1 =>
Rt u1 v1) (g1.getD 1 .und)) (g1.getD 2 .und)) j1) [(.int .i64 0)] [x0,(.ptr 66 0),(.ptr 67 0)] e1) (.ptr 67 0)
theorem spec_l01Turn_f {x0:V}:Prt Tryz.prog 116 [x0] (spec_l01Turn_F x0):=pfun (fn:=Tryz.f116) (m:=[.s,.s,.s,.s,.l [4] [0,2,3],.s,.s,.s,.s]) (c:=1 <= 19) rfl (fun h0 Rt=>by kernel_rfl) (by decide)
def spec_l01Type_F (x0 x1:V) (hi:Hp) (Rt:Hp -> V -> Prop):Prop :=
pbox hi 66 26 (cellsV x0) fun a1 =>
VL (vbld (vfill (vi .i64 (List.replicate 17 0)) [])) fun b1 =>
pld a1 (some 16) (fun c1 d1 =>
pcal Tryz.prog 127 78 d1 (fun e1 f1 =>
pmks f1 79 2 0 0 (fun g1 =>
palloc g1 69 133 (vi .i64 (List.replicate 17 0)) fun h1 =>
pst h1 17 (cellsV b1) (fun i1 j1 =>
LP [8] [1,5,6,7] (fun k1 l1 m1 n1 =>
VL (vlenS (l1.getD 2 .und)) fun o1 =>
VL (lift2 (abin .lss) (k1.getD 0 .und) o1) fun p1 =>
pcond (
VL (vixS 1 (l1.getD 2 .und) (k1.getD 0 .und)) fun q1 =>
pld m1 none (fun r1 s1 =>
VL (vlenS r1) fun t1 =>
VL (vixA 17 1 (l1.getD 1 .und) t1) fun u1 =>
pld s1 none (fun v1 w1 =>
VL (lift2 (abin .add) v1 (.int .i64 1)) fun y1 =>
VL (vixA 17 1 (l1.getD 1 .und) t1) fun z1 =>
pst w1 1 (cellsV y1) (fun a2 b2 =>
VL (lift2 (abin .add) (k1.getD 0 .und) (.int .i64 1)) fun c2 =>
n1 [c2] [(l1.getD 0 .und),(l1.getD 1 .und),(l1.getD 2 .und),(l1.getD 3 .und)] b2) z1) u1) q1) (
LP [7,9] [5] (fun d2 e2 f2 g2 =>
VL (lift2 (abin .gtr) (d2.getD 1 .und) (.int .i64 0)) fun h2 =>
pcond (
VL (vixA 17 1 (e2.getD 0 .und) (d2.getD 1 .und)) fun i2 =>
pld f2 none (fun j2 k2 =>
LP [7,10] [5,9] (fun l2 m2 n2 o2 =>
VL (lift2 (abin .gtr) (l2.getD 1 .und) (.int .i64 0)) fun p2 =>
pcond (
pmks n2 109 2 1 1 (fun q2 =>
papp q2 (fun r2 s2=>papV 2 1 8 110 q2 (fun t2 u2 =>
VL (lift2 (abin .sub) (l2.getD 1 .und) (.int .i64 1)) fun v2 =>
o2 [t2,v2] [(m2.getD 0 .und),(m2.getD 1 .und)] u2) r2 s2 (l2.getD 0 .und)) (pavs q2 (l2.getD 0 .und) []) (preadS 1 q2 (.rf 109 0 1))) (vfill [(.int .i64 0)] [(0,1,(m2.getD 1 .und))])) (
VL (lift2 (abin .sub) (m2.getD 1 .und) (.int .i64 1)) fun w2 =>
g2 [(l2.getD 0 .und),w2] [(m2.getD 0 .und)] n2) p2) [(d2.getD 0 .und),j2] [(e2.getD 0 .und),(d2.getD 1 .und)] k2) i2) (
Rt f2 (d2.getD 0 .und)) h2) [(l1.getD 3 .und),(l1.getD 0 .und)] [(l1.getD 1 .und)] m1) p1) [(.int .i64 0)] [x1,(.ptr 69 0),e1,(.rf 79 0 0)] j1) (.ptr 69 0)) (vfill [] [])) [c1,x1]) (.ptr 66 0)
theorem spec_l01Type_f {x0 x1:V}:Prt Tryz.prog 117 [x0,x1] (spec_l01Type_F x0 x1):=pfun (fn:=Tryz.f117) (m:=[.s,.s,.s,.s,.l [8] [1,5,6,7],.s,.s,.s,.s,.s,.l [7,9] [5],.s,.s,.s,.s,.l [7,10] [5,9],.s,.s,.s,.s]) (c:=2 <= 48) rfl (fun h0 Rt=>by kernel_rfl) (by decide)
def spec_l01Face_F (x0:V) (hi:Hp) (Rt:Hp -> V -> Prop):Prop :=
pbox hi 65 28 (cellsV x0) fun a1 =>
palloc a1 66 26 (vi .u8 (List.replicate 16 0)) fun b1 =>
pld b1 (some 16) (fun c1 d1 =>
pld d1 (some 16) (fun e1 f1 =>
pld f1 none (fun g1 h1 =>
pld h1 none (fun i1 j1 =>
pcalp Tryz.prog 129 73 j1 (fun k1 l1 =>
pcal Tryz.prog 128 76 l1 (fun m1 n1 =>
pst n1 16 (cellsV m1) (fun o1 p1 =>
VL (pcellV p1 (some 16) (.ptr 66 0)) fun q1 =>
Rt p1 q1) (.ptr 66 0)) [k1,i1]) [c1,e1,g1]) (.ptr 65 0)) (.ptr 65 0)) (.ptr 65 17)) (.ptr 65 1)
theorem spec_l01Face_f {x0:V}:Prt Tryz.prog 118 [x0] (spec_l01Face_F x0):=pfun (fn:=Tryz.f118) (m:=[.s,.s]) (c:=1 <= 13) rfl (fun h0 Rt=>by kernel_rfl) (by decide)
def spec_l01Pairs_F (x0 x1 x2:V) (hi:Hp) (Rt:Hp -> V -> Prop):Prop :=
palloc hi 70 26 (vi .u8 (List.replicate 16 0)) fun a1 =>
pcal Tryz.prog 115 78 a1 (fun b1 c1 =>
pcal Tryz.prog 104 80 c1 (fun d1 e1 =>
palloc e1 71 26 (vi .u8 (List.replicate 16 0)) fun f1 =>
palloc f1 72 26 (vi .u8 (List.replicate 16 0)) fun g1 =>
pst g1 16 (cellsV b1) (fun h1 i1 =>
pst i1 16 (cellsV d1) (fun j1 k1 =>
LP [9] [0,1,2,6,7,8] (fun l1 m1 n1 o1 =>
VL (lift2 (abin .lss) (l1.getD 0 .und) (m1.getD 1 .und)) fun p1 =>
pcond (
pcal Tryz.prog 51 86 n1 (fun q1 r1 =>
VL (lift2 (abin .add) (.int .i64 1) q1) fun s1 =>
VL (lift2 (abin .sub) (m1.getD 1 .und) (l1.getD 0 .und)) fun t1 =>
VL (lift2 amin s1 t1) fun u1 =>
LP [11] [0,1,2,6,7,8,9,10] (fun v1 w1 y1 z1 =>
VL (lift2 (abin .lss) (v1.getD 0 .und) (w1.getD 7 .und)) fun a2 =>
pcond (
VL (lift2 (abin .add) (w1.getD 6 .und) (v1.getD 0 .und)) fun b2 =>
VL (vixA 16 1 (w1.getD 4 .und) b2) fun c2 =>
pld y1 none (fun d2 e2 =>
VL (lift2 (abin .add) (v1.getD 0 .und) (.int .i64 1)) fun f2 =>
VL (lift2 (abin .rem) f2 (w1.getD 7 .und)) fun g2 =>
VL (lift2 (abin .add) (w1.getD 6 .und) g2) fun h2 =>
VL (vixA 16 1 (w1.getD 4 .und) h2) fun i2 =>
pld e2 none (fun j2 k2 =>
VL (vixA 16 1 (w1.getD 5 .und) d2) fun l2 =>
pst k2 1 (cellsV j2) (fun m2 n2 =>
VL (lift2 (abin .add) (v1.getD 0 .und) (.int .i64 1)) fun o2 =>
z1 [o2] [(w1.getD 0 .und),(w1.getD 1 .und),(w1.getD 2 .und),(w1.getD 3 .und),(w1.getD 4 .und),(w1.getD 5 .und),(w1.getD 6 .und),(w1.getD 7 .und)] n2) l2) i2) c2) (
VL (lift2 (abin .add) (w1.getD 6 .und) (w1.getD 7 .und)) fun p2 =>
o1 [p2] [(w1.getD 0 .und),(w1.getD 1 .und),(w1.getD 2 .und),(w1.getD 3 .und),(w1.getD 4 .und),(w1.getD 5 .und)] y1) a2) [(.int .i64 0)] [(m1.getD 0 .und),(m1.getD 1 .und),(m1.getD 2 .und),(m1.getD 3 .und),(m1.getD 4 .und),(m1.getD 5 .und),(l1.getD 0 .und),u1] r1) [(m1.getD 0 .und),(m1.getD 2 .und)]) (
pld n1 (some 16) (fun q2 r2 =>
pst r2 16 (cellsV q2) (fun s2 t2 =>
VL (pcellV t2 (some 16) (m1.getD 3 .und)) fun u2 =>
Rt t2 u2) (m1.getD 3 .und)) (m1.getD 5 .und)) p1) [(.int .i64 0)] [x0,x1,x2,(.ptr 70 0),(.ptr 71 0),(.ptr 72 0)] k1) (.ptr 72 0)) (.ptr 71 0)) [x1]) [x0,x1]
theorem spec_l01Pairs_f {x0 x1 x2:V}:Prt Tryz.prog 119 [x0,x1,x2] (spec_l01Pairs_F x0 x1 x2):=pfun (fn:=Tryz.f119) (m:=[.s,.s,.s,.s,.l [9] [0,1,2,6,7,8],.s,.s,.s,.s,.s,.l [11] [0,1,2,6,7,8,9,10],.s,.s,.s,.s]) (c:=3 <= 51) rfl (fun h0 Rt=>by kernel_rfl) (by decide)
def impl_cycles_F (x0 x1:V) (hi:Hp) (Rt:Hp -> V -> Prop):Prop :=
pbox hi 66 26 (cellsV x0) fun a1 =>
pmks a1 74 52 0 0 (fun b1 =>
VL (vbld (vfill (vb (List.replicate 16 false)) [])) fun c1 =>
palloc b1 70 120 (vb (List.replicate 16 false)) fun d1 =>
pst d1 16 (cellsV c1) (fun e1 f1 =>
LP [5,13] [2,6,12] (fun g1 h1 i1 j1 =>
VL (lift2 (abin .lss) (g1.getD 1 .und) (h1.getD 2 .und)) fun k1 =>
pcond (
JN (fun l1 =>
VL (vixA 16 1 (h1.getD 1 .und) (g1.getD 1 .und)) fun m1 =>
pld i1 none (fun n1 o1 =>
pcond (
l1 [(h1.getD 0 .und),(g1.getD 0 .und),(h1.getD 1 .und),(h1.getD 2 .und),(g1.getD 1 .und)] o1) (
pmks o1 83 2 0 0 (fun p1 =>
LP [8,9] [2,5,6,12,13] (fun q1 r1 s1 t1 =>
VL (vixA 16 1 (r1.getD 2 .und) (q1.getD 1 .und)) fun u1 =>
pld s1 none (fun v1 w1 =>
VL (lift1 (aun .not) v1) fun y1 =>
pcond (
VL (vixA 16 1 (r1.getD 2 .und) (q1.getD 1 .und)) fun z1 =>
pst w1 1 (cellsV (.bool true)) (fun a2 b2 =>
pmks b2 97 2 1 1 (fun c2 =>
papp c2 (fun d2 e2=>papV 2 1 8 98 c2 (fun f2 g2 =>
VL (vixA 16 1 (r1.getD 0 .und) (q1.getD 1 .und)) fun h2 =>
pld g2 none (fun i2 j2 =>
VL (lift1 (acvi .i64) i2) fun k2 =>
t1 [f2,k2] [(r1.getD 0 .und),(r1.getD 1 .und),(r1.getD 2 .und),(r1.getD 3 .und),(r1.getD 4 .und)] j2) h2) d2 e2 (q1.getD 0 .und)) (pavs c2 (q1.getD 0 .und) []) (preadS 1 c2 (.rf 97 0 1))) (vfill [(.int .i64 0)] [(0,1,(q1.getD 1 .und))])) z1) (
pmks w1 101 52 1 1 (fun l2 =>
papp l2 (fun m2 n2=>papV 52 1 24 102 l2 (fun o2 p2 =>
l1 [(r1.getD 0 .und),o2,(r1.getD 2 .und),(r1.getD 3 .und),(r1.getD 4 .und)] p2) m2 n2 (r1.getD 1 .und)) (pavs l2 (r1.getD 1 .und) []) (preadS 1 l2 (.rf 101 0 1))) (vfill [.nils] [(0,1,(q1.getD 0 .und))])) y1) u1) [(.rf 83 0 0),(g1.getD 1 .und)] [(h1.getD 0 .und),(g1.getD 0 .und),(h1.getD 1 .und),(h1.getD 2 .und),(g1.getD 1 .und)] p1) (vfill [] [])) n1) m1) fun q2 r2 =>
VL (lift2 (abin .add) (q2.getD 4 .und) (.int .i64 1)) fun s2 =>
j1 [(q2.getD 1 .und),s2] [(q2.getD 0 .und),(q2.getD 2 .und),(q2.getD 3 .und)] r2) (
Rt i1 (g1.getD 0 .und)) k1) [(.rf 74 0 0),(.int .i64 0)] [(.ptr 66 0),(.ptr 70 0),x1] f1) (.ptr 70 0)) (vfill [] [])
theorem impl_cycles_f {x0 x1:V}:Prt Tryz.prog 121 [x0,x1] (impl_cycles_F x0 x1):=pfun (fn:=Tryz.f121) (m:=[.s,.s,.s,.s,.s,.l [5,13] [2,6,12],.s,.s,.j [2,5,6,12,13],.s,.s,.s,.s,.s,.s,.l [8,9] [2,5,6,12,13],.s,.s,.s,.s,.s]) (c:=2 <= 41) rfl (fun h0 Rt=>by kernel_rfl) (by decide)
def impl_back_F (x0 x1:V) (hi:Hp) (Rt:Hp -> V -> Prop):Prop :=
pbox hi 66 26 (cellsV x0) fun a1 =>
palloc a1 68 26 (vi .u8 (List.replicate 16 0)) fun b1 =>
VL (vbld (vfill (vi .u8 (List.replicate 16 0)) [])) fun c1 =>
palloc b1 69 26 (vi .u8 (List.replicate 16 0)) fun d1 =>
pst d1 16 (cellsV c1) (fun e1 f1 =>
LP [9] [2,4,5,8] (fun g1 h1 i1 j1 =>
VL (lift2 (abin .lss) (g1.getD 0 .und) (h1.getD 3 .und)) fun k1 =>
pcond (
VL (vixA 16 1 (h1.getD 0 .und) (g1.getD 0 .und)) fun l1 =>
pld i1 none (fun m1 n1 =>
VL (lift1 (acvi .u8) (g1.getD 0 .und)) fun o1 =>
VL (vixA 16 1 (h1.getD 2 .und) m1) fun p1 =>
pst n1 1 (cellsV o1) (fun q1 r1 =>
VL (lift2 (abin .add) (g1.getD 0 .und) (.int .i64 1)) fun s1 =>
j1 [s1] [(h1.getD 0 .und),(h1.getD 1 .und),(h1.getD 2 .und),(h1.getD 3 .und)] r1) p1) l1) (
pld i1 (some 16) (fun t1 u1 =>
pst u1 16 (cellsV t1) (fun v1 w1 =>
VL (pcellV w1 (some 16) (h1.getD 1 .und)) fun y1 =>
Rt w1 y1) (h1.getD 1 .und)) (h1.getD 2 .und)) k1) [(.int .i64 0)] [(.ptr 66 0),(.ptr 68 0),(.ptr 69 0),x1] f1) (.ptr 69 0)
theorem impl_back_f {x0 x1:V}:Prt Tryz.prog 122 [x0,x1] (impl_back_F x0 x1):=pfun (fn:=Tryz.f122) (m:=[.s,.s,.s,.s,.l [9] [2,4,5,8],.s,.s,.s,.s,.s]) (c:=2 <= 20) rfl (fun h0 Rt=>by kernel_rfl) (by decide)
def impl_then_F (x0 x1 x2:V) (hi:Hp) (Rt:Hp -> V -> Prop):Prop :=
pbox hi 67 26 (cellsV x0) fun a1 =>
pbox a1 68 26 (cellsV x1) fun b1 =>
palloc b1 70 26 (vi .u8 (List.replicate 16 0)) fun c1 =>
VL (vbld (vfill (vi .u8 (List.replicate 16 0)) [])) fun d1 =>
palloc c1 71 26 (vi .u8 (List.replicate 16 0)) fun e1 =>
pst e1 16 (cellsV d1) (fun f1 g1 =>
LP [11] [3,4,6,7,10] (fun h1 i1 j1 k1 =>
VL (lift2 (abin .lss) (h1.getD 0 .und) (i1.getD 4 .und)) fun l1 =>
pcond (
VL (vixA 16 1 (i1.getD 0 .und) (h1.getD 0 .und)) fun m1 =>
pld j1 none (fun n1 o1 =>
VL (vixA 16 1 (i1.getD 1 .und) n1) fun p1 =>
pld o1 none (fun q1 r1 =>
VL (vixA 16 1 (i1.getD 3 .und) (h1.getD 0 .und)) fun s1 =>
pst r1 1 (cellsV q1) (fun t1 u1 =>
VL (lift2 (abin .add) (h1.getD 0 .und) (.int .i64 1)) fun v1 =>
k1 [v1] [(i1.getD 0 .und),(i1.getD 1 .und),(i1.getD 2 .und),(i1.getD 3 .und),(i1.getD 4 .und)] u1) s1) p1) m1) (
pld j1 (some 16) (fun w1 y1 =>
pst y1 16 (cellsV w1) (fun z1 a2 =>
VL (pcellV a2 (some 16) (i1.getD 2 .und)) fun b2 =>
Rt a2 b2) (i1.getD 2 .und)) (i1.getD 3 .und)) l1) [(.int .i64 0)] [(.ptr 67 0),(.ptr 68 0),(.ptr 70 0),(.ptr 71 0),x2] g1) (.ptr 71 0)
theorem impl_then_f {x0 x1 x2:V}:Prt Tryz.prog 123 [x0,x1,x2] (impl_then_F x0 x1 x2):=pfun (fn:=Tryz.f123) (m:=[.s,.s,.s,.s,.l [11] [3,4,6,7,10],.s,.s,.s,.s,.s]) (c:=3 <= 23) rfl (fun h0 Rt=>by kernel_rfl) (by decide)
def slices_Sort_int64_int64_i_F (x0:V) (hi:Hp) (Rt:Hp -> V -> Prop):Prop :=
VL (vlenS x0) fun a1 =>
VL (lift1 (acvi .u64) a1) fun b1 =>
pcal Tryz.prog 131 73 hi (fun c1 d1 =>
pcal Tryz.prog 130 74 d1 (fun e1 f1 =>
Rt f1 (.tup [])) [x0,(.int .i64 0),a1,c1]) [b1]
theorem slices_Sort_int64_int64_i_f {x0:V}:Prt Tryz.prog 124 [x0] (slices_Sort_int64_int64_i_F x0):=pfun (fn:=Tryz.f124) (m:=[.s]) (c:=1 <= 11) rfl (fun h0 Rt=>by kernel_rfl) (by decide)
def slices_Reverse_int64_int64_i_F (x0:V) (hi:Hp) (Rt:Hp -> V -> Prop):Prop :=
VL (vlenS x0) fun a1 =>
VL (lift2 (abin .sub) a1 (.int .i64 1)) fun b1 =>
LP [2,3] [0] (fun c1 d1 e1 f1 =>
VL (lift2 (abin .lss) (c1.getD 0 .und) (c1.getD 1 .und)) fun g1 =>
pcond (
VL (vixS 1 (d1.getD 0 .und) (c1.getD 1 .und)) fun h1 =>
pld e1 none (fun i1 j1 =>
VL (vixS 1 (d1.getD 0 .und) (c1.getD 0 .und)) fun k1 =>
pld j1 none (fun l1 m1 =>
VL (vixS 1 (d1.getD 0 .und) (c1.getD 0 .und)) fun n1 =>
pst m1 1 (cellsV i1) (fun o1 p1 =>
VL (vixS 1 (d1.getD 0 .und) (c1.getD 1 .und)) fun q1 =>
pst p1 1 (cellsV l1) (fun r1 s1 =>
VL (lift2 (abin .add) (c1.getD 0 .und) (.int .i64 1)) fun t1 =>
VL (lift2 (abin .sub) (c1.getD 1 .und) (.int .i64 1)) fun u1 =>
f1 [t1,u1] [(d1.getD 0 .und)] s1) q1) n1) k1) h1) (
Rt e1 (.tup [])) g1) [(.int .i64 0),b1] [x0] hi
theorem slices_Reverse_int64_int64_i_f {x0:V}:Prt Tryz.prog 125 [x0] (slices_Reverse_int64_int64_i_F x0):=pfun (fn:=Tryz.f125) (m:=[.s,.l [2,3] [0],.s,.s,.s]) (c:=1 <= 28) rfl (fun h0 Rt=>by kernel_rfl) (by decide)
def spec_l01Cycles_F (x0 x1:V) (hi:Hp) (Rt:Hp -> V -> Prop):Prop :=
pbox hi 66 26 (cellsV x0) fun a1 =>
pmks a1 74 52 0 0 (fun b1 =>
VL (vbld (vfill (vb (List.replicate 16 false)) [])) fun c1 =>
palloc b1 70 120 (vb (List.replicate 16 false)) fun d1 =>
pst d1 16 (cellsV c1) (fun e1 f1 =>
LP [5,7] [1,2,6] (fun g1 h1 i1 j1 =>
VL (lift2 (abin .lss) (g1.getD 1 .und) (h1.getD 0 .und)) fun k1 =>
pcond (
JN (fun l1 =>
pmks i1 81 2 0 0 (fun m1 =>
LP [8,9] [1,2,5,6,7] (fun n1 o1 p1 q1 =>
VL (vixA 16 1 (o1.getD 3 .und) (n1.getD 1 .und)) fun r1 =>
pld p1 none (fun s1 t1 =>
VL (lift1 (aun .not) s1) fun u1 =>
pcond (
VL (vixA 16 1 (o1.getD 3 .und) (n1.getD 1 .und)) fun v1 =>
pst t1 1 (cellsV (.bool true)) (fun w1 y1 =>
pmks y1 95 2 1 1 (fun z1 =>
papp z1 (fun a2 b2=>papV 2 1 8 96 z1 (fun c2 d2 =>
VL (vixA 16 1 (o1.getD 1 .und) (n1.getD 1 .und)) fun e2 =>
pld d2 none (fun f2 g2 =>
VL (lift1 (acvi .i64) f2) fun h2 =>
q1 [c2,h2] [(o1.getD 0 .und),(o1.getD 1 .und),(o1.getD 2 .und),(o1.getD 3 .und),(o1.getD 4 .und)] g2) e2) a2 b2 (n1.getD 0 .und)) (pavs z1 (n1.getD 0 .und) []) (preadS 1 z1 (.rf 95 0 1))) (vfill [(.int .i64 0)] [(0,1,(n1.getD 1 .und))])) v1) (
VL (vlenS (n1.getD 0 .und)) fun i2 =>
VL (lift2 (abin .gtr) i2 (.int .i64 0)) fun j2 =>
pcond (
pmks t1 102 52 1 1 (fun k2 =>
papp k2 (fun l2 m2=>papV 52 1 24 103 k2 (fun n2 o2 =>
l1 [(o1.getD 0 .und),(o1.getD 1 .und),n2,(o1.getD 3 .und),(o1.getD 4 .und)] o2) l2 m2 (o1.getD 2 .und)) (pavs k2 (o1.getD 2 .und) []) (preadS 1 k2 (.rf 102 0 1))) (vfill [.nils] [(0,1,(n1.getD 0 .und))])) (
l1 [(o1.getD 0 .und),(o1.getD 1 .und),(o1.getD 2 .und),(o1.getD 3 .und),(o1.getD 4 .und)] t1) j2) u1) r1) [(.rf 81 0 0),(g1.getD 1 .und)] [(h1.getD 0 .und),(h1.getD 1 .und),(g1.getD 0 .und),(h1.getD 2 .und),(g1.getD 1 .und)] m1) (vfill [] [])) fun p2 q2 =>
VL (lift2 (abin .add) (p2.getD 4 .und) (.int .i64 1)) fun r2 =>
j1 [(p2.getD 2 .und),r2] [(p2.getD 0 .und),(p2.getD 1 .und),(p2.getD 3 .und)] q2) (
Rt i1 (g1.getD 0 .und)) k1) [(.rf 74 0 0),(.int .i64 0)] [x1,(.ptr 66 0),(.ptr 70 0)] f1) (.ptr 70 0)) (vfill [] [])
theorem spec_l01Cycles_f {x0 x1:V}:Prt Tryz.prog 127 [x0,x1] (spec_l01Cycles_F x0 x1):=pfun (fn:=Tryz.f127) (m:=[.s,.s,.s,.s,.l [5,7] [1,2,6],.s,.s,.j [1,2,5,6,7],.s,.s,.s,.l [8,9] [1,2,5,6,7],.s,.s,.s,.s,.s,.s]) (c:=2 <= 41) rfl (fun h0 Rt=>by kernel_rfl) (by decide)
def spec_l01Back_F (x0 x1:V) (hi:Hp) (Rt:Hp -> V -> Prop):Prop :=
pbox hi 66 26 (cellsV x0) fun a1 =>
palloc a1 68 26 (vi .u8 (List.replicate 16 0)) fun b1 =>
VL (vbld (vfill (vi .u8 (List.replicate 16 0)) [])) fun c1 =>
palloc b1 69 26 (vi .u8 (List.replicate 16 0)) fun d1 =>
pst d1 16 (cellsV c1) (fun e1 f1 =>
LP [6] [1,2,4,5] (fun g1 h1 i1 j1 =>
VL (lift2 (abin .lss) (g1.getD 0 .und) (h1.getD 0 .und)) fun k1 =>
pcond (
VL (vixA 16 1 (h1.getD 1 .und) (g1.getD 0 .und)) fun l1 =>
pld i1 none (fun m1 n1 =>
VL (lift1 (acvi .u8) (g1.getD 0 .und)) fun o1 =>
VL (vixA 16 1 (h1.getD 3 .und) m1) fun p1 =>
pst n1 1 (cellsV o1) (fun q1 r1 =>
VL (lift2 (abin .add) (g1.getD 0 .und) (.int .i64 1)) fun s1 =>
j1 [s1] [(h1.getD 0 .und),(h1.getD 1 .und),(h1.getD 2 .und),(h1.getD 3 .und)] r1) p1) l1) (
pld i1 (some 16) (fun t1 u1 =>
pst u1 16 (cellsV t1) (fun v1 w1 =>
VL (pcellV w1 (some 16) (h1.getD 2 .und)) fun y1 =>
Rt w1 y1) (h1.getD 2 .und)) (h1.getD 3 .und)) k1) [(.int .i64 0)] [x1,(.ptr 66 0),(.ptr 68 0),(.ptr 69 0)] f1) (.ptr 69 0)
theorem spec_l01Back_f {x0 x1:V}:Prt Tryz.prog 128 [x0,x1] (spec_l01Back_F x0 x1):=pfun (fn:=Tryz.f128) (m:=[.s,.s,.s,.s,.l [6] [1,2,4,5],.s,.s,.s,.s]) (c:=2 <= 20) rfl (fun h0 Rt=>by kernel_rfl) (by decide)
def spec_l01Then_F (x0 x1 x2:V) (hi:Hp) (Rt:Hp -> V -> Prop):Prop :=
pbox hi 67 26 (cellsV x0) fun a1 =>
pbox a1 68 26 (cellsV x1) fun b1 =>
palloc b1 70 26 (vi .u8 (List.replicate 16 0)) fun c1 =>
VL (vbld (vfill (vi .u8 (List.replicate 16 0)) [])) fun d1 =>
palloc c1 71 26 (vi .u8 (List.replicate 16 0)) fun e1 =>
pst e1 16 (cellsV d1) (fun f1 g1 =>
LP [8] [2,3,4,6,7] (fun h1 i1 j1 k1 =>
VL (lift2 (abin .lss) (h1.getD 0 .und) (i1.getD 0 .und)) fun l1 =>
pcond (
VL (vixA 16 1 (i1.getD 1 .und) (h1.getD 0 .und)) fun m1 =>
pld j1 none (fun n1 o1 =>
VL (vixA 16 1 (i1.getD 2 .und) n1) fun p1 =>
pld o1 none (fun q1 r1 =>
VL (vixA 16 1 (i1.getD 4 .und) (h1.getD 0 .und)) fun s1 =>
pst r1 1 (cellsV q1) (fun t1 u1 =>
VL (lift2 (abin .add) (h1.getD 0 .und) (.int .i64 1)) fun v1 =>
k1 [v1] [(i1.getD 0 .und),(i1.getD 1 .und),(i1.getD 2 .und),(i1.getD 3 .und),(i1.getD 4 .und)] u1) s1) p1) m1) (
pld j1 (some 16) (fun w1 y1 =>
pst y1 16 (cellsV w1) (fun z1 a2 =>
VL (pcellV a2 (some 16) (i1.getD 3 .und)) fun b2 =>
Rt a2 b2) (i1.getD 3 .und)) (i1.getD 4 .und)) l1) [(.int .i64 0)] [x2,(.ptr 67 0),(.ptr 68 0),(.ptr 70 0),(.ptr 71 0)] g1) (.ptr 71 0)
theorem spec_l01Then_f {x0 x1 x2:V}:Prt Tryz.prog 129 [x0,x1,x2] (spec_l01Then_F x0 x1 x2):=pfun (fn:=Tryz.f129) (m:=[.s,.s,.s,.s,.l [8] [2,3,4,6,7],.s,.s,.s,.s]) (c:=3 <= 23) rfl (fun h0 Rt=>by kernel_rfl) (by decide)
def slices_pdqsortOrdered_int64_F (x0 x1 x2 x3:V) (hi:Hp) (Rt:Hp -> V -> Prop):Prop :=
LP [1,2,3,8,9] [0] (fun a1 b1 c1 d1 =>
VL (lift2 (abin .sub) (a1.getD 1 .und) (a1.getD 0 .und)) fun e1 =>
VL (lift2 (abin .leq) e1 (.int .i64 12)) fun f1 =>
pcond (
pcal Tryz.prog 133 91 c1 (fun g1 h1 =>
Rt h1 (.tup [])) [(b1.getD 0 .und),(a1.getD 0 .und),(a1.getD 1 .und)]) (
VL (lift2 (abin .eql) (a1.getD 2 .und) (.int .i64 0)) fun i1 =>
pcond (
pcal Tryz.prog 134 97 c1 (fun j1 k1 =>
Rt k1 (.tup [])) [(b1.getD 0 .und),(a1.getD 0 .und),(a1.getD 1 .und)]) (
JN (fun l1 =>
VL (lift1 (aun .not) (a1.getD 3 .und)) fun m1 =>
pcond (
pcal Tryz.prog 135 103 c1 (fun n1 o1 =>
VL (lift2 (abin .sub) (a1.getD 2 .und) (.int .i64 1)) fun p1 =>
l1 [(b1.getD 0 .und),(a1.getD 0 .und),(a1.getD 1 .und),p1,(a1.getD 3 .und),(a1.getD 4 .und),e1] o1) [(b1.getD 0 .und),(a1.getD 0 .und),(a1.getD 1 .und)]) (
l1 [(b1.getD 0 .und),(a1.getD 0 .und),(a1.getD 1 .und),(a1.getD 2 .und),(a1.getD 3 .und),(a1.getD 4 .und),e1] c1) m1) fun q1 r1 =>
pcal Tryz.prog 136 110 r1 (fun s1 t1 =>
VL (vext 0 s1) fun u1 =>
VL (vext 1 s1) fun v1 =>
JN (fun w1 =>
VL (lift2 (abin .eql) v1 (.int .i64 2)) fun y1 =>
pcond (
pcal Tryz.prog 137 118 t1 (fun z1 a2 =>
VL (lift2 (abin .sub) (q1.getD 2 .und) (.int .i64 1)) fun b2 =>
VL (lift2 (abin .sub) u1 (q1.getD 1 .und)) fun c2 =>
VL (lift2 (abin .sub) b2 c2) fun d2 =>
w1 [(q1.getD 0 .und),(q1.getD 1 .und),(q1.getD 2 .und),(q1.getD 3 .und),(q1.getD 4 .und),(q1.getD 5 .und),(q1.getD 6 .und),d2,(.int .i64 1)] a2) [(q1.getD 0 .und),(q1.getD 1 .und),(q1.getD 2 .und)]) (
w1 [(q1.getD 0 .und),(q1.getD 1 .und),(q1.getD 2 .und),(q1.getD 3 .und),(q1.getD 4 .und),(q1.getD 5 .und),(q1.getD 6 .und),u1,v1] t1) y1) fun e2 f2 =>
JN (fun g2 =>
pgk true f2 (fun h2 i2=>i2 (e2.getD 5 .und) f2) (fun j2 k2 l2 =>
VL (vpick j2 k2 (.bool false)) fun m2 =>
pgk true l2 (fun n2 o2=>o2 (e2.getD 8 .und) l2) (fun p2 q2 r2 =>
pgk true r2 (fun s2 t2=>VL (lift2 (abin .eql) q2 (.int .i64 1)) fun u2 =>
t2 u2 r2) (fun v2 w2 y2 =>
VL (vpick v2 w2 (.bool false)) fun z2 =>
pcond (
pcal Tryz.prog 138 136 y2 (fun a3 b3 =>
pcond (
Rt b3 (.tup [])) (
g2 [(e2.getD 0 .und),(e2.getD 1 .und),(e2.getD 2 .und),(e2.getD 3 .und),(e2.getD 4 .und),(e2.getD 5 .und),(e2.getD 6 .und),(e2.getD 7 .und)] b3) a3) [(e2.getD 0 .und),(e2.getD 1 .und),(e2.getD 2 .und)]) (
g2 [(e2.getD 0 .und),(e2.getD 1 .und),(e2.getD 2 .und),(e2.getD 3 .und),(e2.getD 4 .und),(e2.getD 5 .und),(e2.getD 6 .und),(e2.getD 7 .und)] y2) z2) p2) m2) (e2.getD 4 .und)) fun c3 d3 =>
VL (lift2 (abin .gtr) (c3.getD 1 .und) (.int .i64 0)) fun e3 =>
pgk true d3 (fun f3 g3=>g3 (c3.getD 0 .und) d3) (fun h3 i3 j3 =>
pgk true j3 (fun k3 l3=>l3 (c3.getD 1 .und) j3) (fun m3 n3 o3 =>
pgk true o3 (fun p3 q3=>VL (lift2 (abin .sub) n3 (.int .i64 1)) fun r3 =>
q3 r3 o3) (fun s3 t3 u3 =>
pgk true u3 (fun v3 w3=>VL (vixS 1 i3 t3) fun y3 =>
w3 y3 u3) (fun z3 a4 b4 =>
pgk true b4 (fun c4 d4=>pld b4 none (fun e4 f4 =>
d4 e4 f4) a4) (fun g4 h4 i4 =>
pgk true i4 (fun j4 k4=>k4 (c3.getD 0 .und) i4) (fun l4 m4 n4 =>
pgk true n4 (fun o4 p4=>p4 (c3.getD 7 .und) n4) (fun q4 r4 s4 =>
pgk true s4 (fun t4 u4=>VL (vixS 1 m4 r4) fun v4 =>
u4 v4 s4) (fun w4 y4 z4 =>
pgk true z4 (fun a5 b5=>pld z4 none (fun c5 d5 =>
b5 c5 d5) y4) (fun e5 f5 g5 =>
pgk true g5 (fun h5 i5=>pcal Tryz.prog 139 149 g5 (fun j5 k5 =>
i5 j5 k5) [h4,f5]) (fun l5 m5 n5 =>
pgk true n5 (fun o5 p5=>VL (lift1 (aun .not) m5) fun q5 =>
p5 q5 n5) (fun r5 s5 t5 =>
VL (vpick r5 s5 (.bool false)) fun u5 =>
pcond (
pcal Tryz.prog 140 156 t5 (fun v5 w5 =>
d1 [v5,(c3.getD 2 .und),(c3.getD 3 .und),(c3.getD 4 .und),(c3.getD 5 .und)] [(c3.getD 0 .und)] w5) [(c3.getD 0 .und),(c3.getD 1 .und),(c3.getD 2 .und),(c3.getD 7 .und)]) (
pcal Tryz.prog 141 163 t5 (fun y5 z5 =>
VL (vext 0 y5) fun a6 =>
VL (vext 1 y5) fun b6 =>
VL (lift2 (abin .sub) a6 (c3.getD 1 .und)) fun c6 =>
VL (lift2 (abin .sub) (c3.getD 2 .und) a6) fun d6 =>
VL (lift2 (abin .quo) (c3.getD 6 .und) (.int .i64 8)) fun e6 =>
VL (lift2 (abin .lss) c6 d6) fun f6 =>
pcond (
VL (lift2 (abin .geq) c6 e6) fun g6 =>
pcal Tryz.prog 130 185 z5 (fun h6 i6 =>
VL (lift2 (abin .add) a6 (.int .i64 1)) fun j6 =>
d1 [j6,(c3.getD 2 .und),(c3.getD 3 .und),g6,b6] [(c3.getD 0 .und)] i6) [(c3.getD 0 .und),(c3.getD 1 .und),a6,(c3.getD 3 .und)]) (
VL (lift2 (abin .geq) d6 e6) fun k6 =>
VL (lift2 (abin .add) a6 (.int .i64 1)) fun l6 =>
pcal Tryz.prog 130 196 z5 (fun m6 n6 =>
d1 [(c3.getD 1 .und),a6,(c3.getD 3 .und),k6,b6] [(c3.getD 0 .und)] n6) [(c3.getD 0 .und),l6,(c3.getD 2 .und),(c3.getD 3 .und)]) f6) [(c3.getD 0 .und),(c3.getD 1 .und),(c3.getD 2 .und),(c3.getD 7 .und)]) u5) l5) e5) w4) q4) l4) g4) z3) s3) m3) h3) e3) [(q1.getD 0 .und),(q1.getD 1 .und),(q1.getD 2 .und)]) i1) f1) [x1,x2,x3,(.bool true),(.bool true)] [x0] hi
theorem slices_pdqsortOrdered_int64_f {x0 x1 x2 x3:V}:Prt Tryz.prog 130 [x0,x1,x2,x3] (slices_pdqsortOrdered_int64_F x0 x1 x2 x3):=pfun (fn:=Tryz.f130) (m:=[.s,.s,.l [1,2,3,8,9] [0],.s,.s,.s,.s,.s,.s,.s,.j [0,1,2,3,8,9,10],.s,.s,.s,.j [0,1,2,3,8,9,10,11,12],.s,.s,.s,.j [0,1,2,3,8,9,10,11],.s,.s,.s,.s,.s,.s,.s,.s,.s,.s,.s,.s,.s,.s,.s]) (c:=4 <= 134) rfl (fun h0 Rt=>by kernel_rfl) (by decide)
def math_bits_Len_F (x0:V) (hi:Hp) (Rt:Hp -> V -> Prop):Prop :=
pcond (
VL (lift1 (acvi .u32) x0) fun a1 =>
pcal Tryz.prog 142 69 hi (fun b1 c1 =>
Rt c1 b1) [a1]) (
pcal Tryz.prog 143 71 hi (fun d1 e1 =>
Rt e1 d1) [x0]) (.bool false)
theorem math_bits_Len_f {x0:V}:Prt Tryz.prog 131 [x0] (math_bits_Len_F x0):=pfun (fn:=Tryz.f131) (m:=[.s,.s,.s,.s]) (c:=1 <= 8) rfl (fun h0 Rt=>by kernel_rfl) (by decide)
def slices_insertionSortOrdered_int64_F (x0 x1 x2:V) (hi:Hp) (Rt:Hp -> V -> Prop):Prop :=
VL (lift2 (abin .add) x1 (.int .i64 1)) fun a1 =>
LP [6] [0,1,2] (fun b1 c1 d1 e1 =>
VL (lift2 (abin .lss) (b1.getD 0 .und) (c1.getD 2 .und)) fun f1 =>
pcond (
LP [7] [0,1,2,6] (fun g1 h1 i1 j1 =>
VL (lift2 (abin .gtr) (g1.getD 0 .und) (h1.getD 1 .und)) fun k1 =>
pgk true i1 (fun l1 m1=>m1 (h1.getD 0 .und) i1) (fun n1 o1 p1 =>
pgk true p1 (fun q1 r1=>r1 (g1.getD 0 .und) p1) (fun s1 t1 u1 =>
pgk true u1 (fun v1 w1=>VL (vixS 1 o1 t1) fun y1 =>
w1 y1 u1) (fun z1 a2 b2 =>
pgk true b2 (fun c2 d2=>pld b2 none (fun e2 f2 =>
d2 e2 f2) a2) (fun g2 h2 i2 =>
pgk true i2 (fun j2 k2=>k2 (h1.getD 0 .und) i2) (fun l2 m2 n2 =>
pgk true n2 (fun o2 p2=>p2 (g1.getD 0 .und) n2) (fun q2 r2 s2 =>
pgk true s2 (fun t2 u2=>VL (lift2 (abin .sub) r2 (.int .i64 1)) fun v2 =>
u2 v2 s2) (fun w2 y2 z2 =>
pgk true z2 (fun a3 b3=>VL (vixS 1 m2 y2) fun c3 =>
b3 c3 z2) (fun d3 e3 f3 =>
pgk true f3 (fun g3 h3=>pld f3 none (fun i3 j3 =>
h3 i3 j3) e3) (fun k3 l3 m3 =>
pgk true m3 (fun n3 o3=>pcal Tryz.prog 139 93 m3 (fun p3 q3 =>
o3 p3 q3) [h2,l3]) (fun r3 s3 t3 =>
VL (vpick r3 s3 (.bool false)) fun u3 =>
pcond (
VL (lift2 (abin .sub) (g1.getD 0 .und) (.int .i64 1)) fun v3 =>
VL (lift2 (abin .sub) (g1.getD 0 .und) (.int .i64 1)) fun w3 =>
VL (vixS 1 (h1.getD 0 .und) w3) fun y3 =>
pld t3 none (fun z3 a4 =>
VL (vixS 1 (h1.getD 0 .und) (g1.getD 0 .und)) fun b4 =>
pld a4 none (fun c4 d4 =>
VL (vixS 1 (h1.getD 0 .und) (g1.getD 0 .und)) fun e4 =>
pst d4 1 (cellsV z3) (fun f4 g4 =>
VL (vixS 1 (h1.getD 0 .und) v3) fun h4 =>
pst g4 1 (cellsV c4) (fun i4 j4 =>
VL (lift2 (abin .sub) (g1.getD 0 .und) (.int .i64 1)) fun k4 =>
j1 [k4] [(h1.getD 0 .und),(h1.getD 1 .und),(h1.getD 2 .und),(h1.getD 3 .und)] j4) h4) e4) b4) y3) (
VL (lift2 (abin .add) (h1.getD 3 .und) (.int .i64 1)) fun l4 =>
e1 [l4] [(h1.getD 0 .und),(h1.getD 1 .und),(h1.getD 2 .und)] t3) u3) k3) d3) w2) q2) l2) g2) z1) s1) n1) k1) [(b1.getD 0 .und)] [(c1.getD 0 .und),(c1.getD 1 .und),(c1.getD 2 .und),(b1.getD 0 .und)] d1) (
Rt d1 (.tup [])) f1) [a1] [x0,x1,x2] hi
theorem slices_insertionSortOrdered_int64_f {x0 x1 x2:V}:Prt Tryz.prog 133 [x0,x1,x2] (slices_insertionSortOrdered_int64_F x0 x1 x2):=pfun (fn:=Tryz.f133) (m:=[.s,.l [6] [0,1,2],.s,.s,.s,.s,.l [7] [0,1,2,6],.s,.s,.s]) (c:=3 <= 49) rfl (fun h0 Rt=>by kernel_rfl) (by decide)
def slices_heapSortOrdered_int64_F (x0 x1 x2:V) (hi:Hp) (Rt:Hp -> V -> Prop):Prop :=
VL (lift2 (abin .sub) x2 x1) fun a1 =>
VL (lift2 (abin .sub) a1 (.int .i64 1)) fun b1 =>
VL (lift2 (abin .quo) b1 (.int .i64 2)) fun c1 =>
LP [9] [0,6,7,8] (fun d1 e1 f1 g1 =>
VL (lift2 (abin .geq) (d1.getD 0 .und) (.int .i64 0)) fun h1 =>
pcond (
pcal Tryz.prog 144 90 f1 (fun i1 j1 =>
VL (lift2 (abin .sub) (d1.getD 0 .und) (.int .i64 1)) fun k1 =>
g1 [k1] [(e1.getD 0 .und),(e1.getD 1 .und),(e1.getD 2 .und),(e1.getD 3 .und)] j1) [(e1.getD 0 .und),(d1.getD 0 .und),(e1.getD 3 .und),(e1.getD 1 .und)]) (
VL (lift2 (abin .sub) (e1.getD 3 .und) (.int .i64 1)) fun l1 =>
LP [10] [0,6,7] (fun m1 n1 o1 p1 =>
VL (lift2 (abin .geq) (m1.getD 0 .und) (.int .i64 0)) fun q1 =>
pcond (
VL (lift2 (abin .add) (n1.getD 1 .und) (m1.getD 0 .und)) fun r1 =>
VL (lift2 (abin .add) (n1.getD 1 .und) (m1.getD 0 .und)) fun s1 =>
VL (vixS 1 (n1.getD 0 .und) s1) fun t1 =>
pld o1 none (fun u1 v1 =>
VL (vixS 1 (n1.getD 0 .und) (n1.getD 1 .und)) fun w1 =>
pld v1 none (fun y1 z1 =>
VL (vixS 1 (n1.getD 0 .und) (n1.getD 1 .und)) fun a2 =>
pst z1 1 (cellsV u1) (fun b2 c2 =>
VL (vixS 1 (n1.getD 0 .und) r1) fun d2 =>
pst c2 1 (cellsV y1) (fun e2 f2 =>
pcal Tryz.prog 144 119 f2 (fun g2 h2 =>
VL (lift2 (abin .sub) (m1.getD 0 .und) (.int .i64 1)) fun i2 =>
p1 [i2] [(n1.getD 0 .und),(n1.getD 1 .und),(n1.getD 2 .und)] h2) [(n1.getD 0 .und),(n1.getD 2 .und),(m1.getD 0 .und),(n1.getD 1 .und)]) d2) a2) w1) t1) (
Rt o1 (.tup [])) q1) [l1] [(e1.getD 0 .und),(e1.getD 1 .und),(e1.getD 2 .und)] f1) h1) [c1] [x0,x1,(.int .i64 0),a1] hi
theorem slices_heapSortOrdered_int64_f {x0 x1 x2:V}:Prt Tryz.prog 134 [x0,x1,x2] (slices_heapSortOrdered_int64_F x0 x1 x2):=pfun (fn:=Tryz.f134) (m:=[.s,.s,.s,.s,.s,.l [9] [0,6,7,8],.s,.s,.s,.s,.l [10] [0,6,7],.s,.s,.s,.s]) (c:=3 <= 56) rfl (fun h0 Rt=>by kernel_rfl) (by decide)
def slices_breakPatternsOrdered_int64_F (x0 x1 x2:V) (hi:Hp) (Rt:Hp -> V -> Prop):Prop :=
VL (lift2 (abin .sub) x2 x1) fun a1 =>
VL (lift2 (abin .geq) a1 (.int .i64 8)) fun b1 =>
pcond (
VL (lift1 (acvi .u64) a1) fun c1 =>
palloc hi 71 148 [(.int .u64 0)] fun d1 =>
pst d1 1 (cellsV c1) (fun e1 f1 =>
pcal Tryz.prog 145 83 f1 (fun g1 h1 =>
VL (lift2 (abin .quo) a1 (.int .i64 4)) fun i1 =>
VL (lift2 (abin .mul) i1 (.int .i64 2)) fun j1 =>
VL (lift2 (abin .add) x1 j1) fun k1 =>
VL (lift2 (abin .sub) k1 (.int .i64 1)) fun l1 =>
LP [9] [0,1,6,7,8] (fun m1 n1 o1 p1 =>
VL (lift2 (abin .quo) (n1.getD 2 .und) (.int .i64 4)) fun q1 =>
VL (lift2 (abin .mul) q1 (.int .i64 2)) fun r1 =>
VL (lift2 (abin .add) (n1.getD 1 .und) r1) fun s1 =>
VL (lift2 (abin .add) s1 (.int .i64 1)) fun t1 =>
VL (lift2 (abin .leq) (m1.getD 0 .und) t1) fun u1 =>
pcond (
pcal Tryz.prog 146 100 o1 (fun v1 w1 =>
VL (lift2 (abin .sub) (n1.getD 4 .und) (.int .u64 1)) fun y1 =>
VL (lift2 (abin .and) v1 y1) fun z1 =>
VL (lift1 (acvi .i64) z1) fun a2 =>
JN (fun b2 =>
VL (lift2 (abin .geq) a2 (n1.getD 2 .und)) fun c2 =>
pcond (
VL (lift2 (abin .sub) a2 (n1.getD 2 .und)) fun d2 =>
b2 [(n1.getD 0 .und),(n1.getD 1 .und),(n1.getD 2 .und),(n1.getD 3 .und),(n1.getD 4 .und),(m1.getD 0 .und),d2] w1) (
b2 [(n1.getD 0 .und),(n1.getD 1 .und),(n1.getD 2 .und),(n1.getD 3 .und),(n1.getD 4 .und),(m1.getD 0 .und),a2] w1) c2) fun e2 f2 =>
VL (lift2 (abin .add) (e2.getD 1 .und) (e2.getD 6 .und)) fun g2 =>
VL (lift2 (abin .add) (e2.getD 1 .und) (e2.getD 6 .und)) fun h2 =>
VL (vixS 1 (e2.getD 0 .und) h2) fun i2 =>
pld f2 none (fun j2 k2 =>
VL (vixS 1 (e2.getD 0 .und) (e2.getD 5 .und)) fun l2 =>
pld k2 none (fun m2 n2 =>
VL (vixS 1 (e2.getD 0 .und) (e2.getD 5 .und)) fun o2 =>
pst n2 1 (cellsV j2) (fun p2 q2 =>
VL (vixS 1 (e2.getD 0 .und) g2) fun r2 =>
pst q2 1 (cellsV m2) (fun s2 t2 =>
VL (lift2 (abin .add) (e2.getD 5 .und) (.int .i64 1)) fun u2 =>
p1 [u2] [(e2.getD 0 .und),(e2.getD 1 .und),(e2.getD 2 .und),(e2.getD 3 .und),(e2.getD 4 .und)] t2) r2) o2) l2) i2) [(n1.getD 3 .und)]) (
Rt o1 (.tup [])) u1) [l1] [x0,x1,a1,(.ptr 71 0),g1] h1) [a1]) (.ptr 71 0)) (
Rt hi (.tup [])) b1
theorem slices_breakPatternsOrdered_int64_f {x0 x1 x2:V}:Prt Tryz.prog 135 [x0,x1,x2] (slices_breakPatternsOrdered_int64_F x0 x1 x2):=pfun (fn:=Tryz.f135) (m:=[.s,.s,.s,.s,.s,.l [9] [0,1,6,7,8],.s,.s,.s,.s,.j [0,1,6,7,8,9,10],.s]) (c:=3 <= 65) rfl (fun h0 Rt=>by kernel_rfl) (by decide)
def slices_choosePivotOrdered_int64_F (x0 x1 x2:V) (hi:Hp) (Rt:Hp -> V -> Prop):Prop :=
VL (lift2 (abin .sub) x2 x1) fun a1 =>
palloc hi 73 3 [(.int .i64 0)] fun b1 =>
VL (lift2 (abin .quo) a1 (.int .i64 4)) fun c1 =>
VL (lift2 (abin .mul) c1 (.int .i64 1)) fun d1 =>
VL (lift2 (abin .add) x1 d1) fun e1 =>
VL (lift2 (abin .quo) a1 (.int .i64 4)) fun f1 =>
VL (lift2 (abin .mul) f1 (.int .i64 2)) fun g1 =>
VL (lift2 (abin .add) x1 g1) fun h1 =>
VL (lift2 (abin .quo) a1 (.int .i64 4)) fun i1 =>
VL (lift2 (abin .mul) i1 (.int .i64 3)) fun j1 =>
VL (lift2 (abin .add) x1 j1) fun k1 =>
JN (fun l1 =>
VL (lift2 (abin .geq) a1 (.int .i64 8)) fun m1 =>
pcond (
JN (fun n1 =>
VL (lift2 (abin .geq) a1 (.int .i64 50)) fun o1 =>
pcond (
pcal Tryz.prog 147 101 b1 (fun p1 q1 =>
pcal Tryz.prog 147 104 q1 (fun r1 s1 =>
pcal Tryz.prog 147 107 s1 (fun t1 u1 =>
n1 [x0,(.ptr 73 0),p1,r1,t1] u1) [x0,k1,(.ptr 73 0)]) [x0,h1,(.ptr 73 0)]) [x0,e1,(.ptr 73 0)]) (
n1 [x0,(.ptr 73 0),e1,h1,k1] b1) o1) fun v1 w1 =>
pcal Tryz.prog 148 112 w1 (fun y1 z1 =>
l1 [(v1.getD 1 .und),y1] z1) [(v1.getD 0 .und),(v1.getD 2 .und),(v1.getD 3 .und),(v1.getD 4 .und),(v1.getD 1 .und)]) (
l1 [(.ptr 73 0),h1] b1) m1) fun a2 b2 =>
pld b2 none (fun c2 d2 =>
VL (lift2 (abin .eql) c2 (.int .i64 0)) fun e2 =>
pcond (
Rt d2 (.tup [(a2.getD 1 .und),(.int .i64 1)])) (
VL (lift2 (abin .eql) c2 (.int .i64 12)) fun f2 =>
pcond (
Rt d2 (.tup [(a2.getD 1 .und),(.int .i64 2)])) (
Rt d2 (.tup [(a2.getD 1 .und),(.int .i64 0)])) f2) e2) (a2.getD 0 .und)
theorem slices_choosePivotOrdered_int64_f {x0 x1 x2:V}:Prt Tryz.prog 136 [x0,x1,x2] (slices_choosePivotOrdered_int64_F x0 x1 x2):=pfun (fn:=Tryz.f136) (m:=[.s,.s,.s,.s,.s,.s,.j [9,11],.s,.j [0,9,10,11,12],.s,.s,.s,.s,.s,.s,.s,.s,.s]) (c:=3 <= 57) rfl (fun h0 Rt=>by kernel_rfl) (by decide)
def slices_reverseRangeOrdered_int64_F (x0 x1 x2:V) (hi:Hp) (Rt:Hp -> V -> Prop):Prop :=
VL (lift2 (abin .sub) x2 (.int .i64 1)) fun a1 =>
LP [6,7] [0] (fun b1 c1 d1 e1 =>
VL (lift2 (abin .lss) (b1.getD 0 .und) (b1.getD 1 .und)) fun f1 =>
pcond (
VL (vixS 1 (c1.getD 0 .und) (b1.getD 1 .und)) fun g1 =>
pld d1 none (fun h1 i1 =>
VL (vixS 1 (c1.getD 0 .und) (b1.getD 0 .und)) fun j1 =>
pld i1 none (fun k1 l1 =>
VL (vixS 1 (c1.getD 0 .und) (b1.getD 0 .und)) fun m1 =>
pst l1 1 (cellsV h1) (fun n1 o1 =>
VL (vixS 1 (c1.getD 0 .und) (b1.getD 1 .und)) fun p1 =>
pst o1 1 (cellsV k1) (fun q1 r1 =>
VL (lift2 (abin .add) (b1.getD 0 .und) (.int .i64 1)) fun s1 =>
VL (lift2 (abin .sub) (b1.getD 1 .und) (.int .i64 1)) fun t1 =>
e1 [s1,t1] [(c1.getD 0 .und)] r1) p1) m1) j1) g1) (
Rt d1 (.tup [])) f1) [x1,a1] [x0] hi
theorem slices_reverseRangeOrdered_int64_f {x0 x1 x2:V}:Prt Tryz.prog 137 [x0,x1,x2] (slices_reverseRangeOrdered_int64_F x0 x1 x2):=pfun (fn:=Tryz.f137) (m:=[.s,.s,.l [6,7] [0],.s,.s,.s,.s]) (c:=3 <= 32) rfl (fun h0 Rt=>by kernel_rfl) (by decide)
def slices_partialInsertionSortOrdered_int64_F (x0 x1 x2:V) (hi:Hp) (Rt:Hp -> V -> Prop):Prop :=
VL (lift2 (abin .add) x1 (.int .i64 1)) fun a1 =>
LP [7,8] [0,1,2] (fun b1 c1 d1 e1 =>
VL (lift2 (abin .lss) (b1.getD 1 .und) (.int .i64 5)) fun f1 =>
pcond (
JN (fun g1 =>
LP [7] [0,1,2,8] (fun h1 i1 j1 k1 =>
VL (lift2 (abin .lss) (h1.getD 0 .und) (i1.getD 2 .und)) fun l1 =>
pgk true j1 (fun m1 n1=>n1 (i1.getD 0 .und) j1) (fun o1 p1 q1 =>
pgk true q1 (fun r1 s1=>s1 (h1.getD 0 .und) q1) (fun t1 u1 v1 =>
pgk true v1 (fun w1 y1=>VL (vixS 1 p1 u1) fun z1 =>
y1 z1 v1) (fun a2 b2 c2 =>
pgk true c2 (fun d2 e2=>pld c2 none (fun f2 g2 =>
e2 f2 g2) b2) (fun h2 i2 j2 =>
pgk true j2 (fun k2 l2=>l2 (i1.getD 0 .und) j2) (fun m2 n2 o2 =>
pgk true o2 (fun p2 q2=>q2 (h1.getD 0 .und) o2) (fun r2 s2 t2 =>
pgk true t2 (fun u2 v2=>VL (lift2 (abin .sub) s2 (.int .i64 1)) fun w2 =>
v2 w2 t2) (fun y2 z2 a3 =>
pgk true a3 (fun b3 c3=>VL (vixS 1 n2 z2) fun d3 =>
c3 d3 a3) (fun e3 f3 g3 =>
pgk true g3 (fun h3 i3=>pld g3 none (fun j3 k3 =>
i3 j3 k3) f3) (fun l3 m3 n3 =>
pgk true n3 (fun o3 p3=>pcal Tryz.prog 139 94 n3 (fun q3 r3 =>
p3 q3 r3) [i2,m3]) (fun s3 t3 u3 =>
pgk true u3 (fun v3 w3=>VL (lift1 (aun .not) t3) fun y3 =>
w3 y3 u3) (fun z3 a4 b4 =>
VL (vpick z3 a4 (.bool false)) fun c4 =>
pcond (
VL (lift2 (abin .add) (h1.getD 0 .und) (.int .i64 1)) fun d4 =>
k1 [d4] [(i1.getD 0 .und),(i1.getD 1 .und),(i1.getD 2 .und),(i1.getD 3 .und)] b4) (
VL (lift2 (abin .eql) (h1.getD 0 .und) (i1.getD 2 .und)) fun e4 =>
pcond (
Rt b4 (.bool true)) (
VL (lift2 (abin .sub) (i1.getD 2 .und) (i1.getD 1 .und)) fun f4 =>
VL (lift2 (abin .lss) f4 (.int .i64 50)) fun g4 =>
pcond (
Rt b4 (.bool false)) (
VL (lift2 (abin .sub) (h1.getD 0 .und) (.int .i64 1)) fun h4 =>
VL (lift2 (abin .sub) (h1.getD 0 .und) (.int .i64 1)) fun i4 =>
VL (vixS 1 (i1.getD 0 .und) i4) fun j4 =>
pld b4 none (fun k4 l4 =>
VL (vixS 1 (i1.getD 0 .und) (h1.getD 0 .und)) fun m4 =>
pld l4 none (fun n4 o4 =>
VL (vixS 1 (i1.getD 0 .und) (h1.getD 0 .und)) fun p4 =>
pst o4 1 (cellsV k4) (fun q4 r4 =>
VL (vixS 1 (i1.getD 0 .und) h4) fun s4 =>
pst r4 1 (cellsV n4) (fun t4 u4 =>
JN (fun v4 =>
VL (lift2 (abin .sub) (h1.getD 0 .und) (i1.getD 1 .und)) fun w4 =>
VL (lift2 (abin .geq) w4 (.int .i64 2)) fun y4 =>
pcond (
VL (lift2 (abin .sub) (h1.getD 0 .und) (.int .i64 1)) fun z4 =>
LP [9] [0,1,2,7,8] (fun a5 b5 c5 d5 =>
VL (lift2 (abin .geq) (a5.getD 0 .und) (.int .i64 1)) fun e5 =>
pcond (
VL (vixS 1 (b5.getD 0 .und) (a5.getD 0 .und)) fun f5 =>
pld c5 none (fun g5 h5 =>
VL (lift2 (abin .sub) (a5.getD 0 .und) (.int .i64 1)) fun i5 =>
VL (vixS 1 (b5.getD 0 .und) i5) fun j5 =>
pld h5 none (fun k5 l5 =>
pcal Tryz.prog 139 141 l5 (fun m5 n5 =>
VL (lift1 (aun .not) m5) fun o5 =>
pcond (
v4 [(b5.getD 0 .und),(b5.getD 1 .und),(b5.getD 2 .und),(b5.getD 3 .und),(b5.getD 4 .und)] n5) (
VL (lift2 (abin .sub) (a5.getD 0 .und) (.int .i64 1)) fun p5 =>
VL (lift2 (abin .sub) (a5.getD 0 .und) (.int .i64 1)) fun q5 =>
VL (vixS 1 (b5.getD 0 .und) q5) fun r5 =>
pld n5 none (fun s5 t5 =>
VL (vixS 1 (b5.getD 0 .und) (a5.getD 0 .und)) fun u5 =>
pld t5 none (fun v5 w5 =>
VL (vixS 1 (b5.getD 0 .und) (a5.getD 0 .und)) fun y5 =>
pst w5 1 (cellsV s5) (fun z5 a6 =>
VL (vixS 1 (b5.getD 0 .und) p5) fun b6 =>
pst a6 1 (cellsV v5) (fun c6 d6 =>
VL (lift2 (abin .sub) (a5.getD 0 .und) (.int .i64 1)) fun e6 =>
d5 [e6] [(b5.getD 0 .und),(b5.getD 1 .und),(b5.getD 2 .und),(b5.getD 3 .und),(b5.getD 4 .und)] d6) b6) y5) u5) r5) o5) [g5,k5]) j5) f5) (
v4 [(b5.getD 0 .und),(b5.getD 1 .und),(b5.getD 2 .und),(b5.getD 3 .und),(b5.getD 4 .und)] c5) e5) [z4] [(i1.getD 0 .und),(i1.getD 1 .und),(i1.getD 2 .und),(h1.getD 0 .und),(i1.getD 3 .und)] u4) (
v4 [(i1.getD 0 .und),(i1.getD 1 .und),(i1.getD 2 .und),(h1.getD 0 .und),(i1.getD 3 .und)] u4) y4) fun f6 g6 =>
VL (lift2 (abin .sub) (f6.getD 2 .und) (f6.getD 3 .und)) fun h6 =>
VL (lift2 (abin .geq) h6 (.int .i64 2)) fun i6 =>
pcond (
VL (lift2 (abin .add) (f6.getD 3 .und) (.int .i64 1)) fun j6 =>
LP [10] [0,1,2,7,8] (fun k6 l6 m6 n6 =>
VL (lift2 (abin .lss) (k6.getD 0 .und) (l6.getD 2 .und)) fun o6 =>
pcond (
VL (vixS 1 (l6.getD 0 .und) (k6.getD 0 .und)) fun p6 =>
pld m6 none (fun q6 r6 =>
VL (lift2 (abin .sub) (k6.getD 0 .und) (.int .i64 1)) fun s6 =>
VL (vixS 1 (l6.getD 0 .und) s6) fun t6 =>
pld r6 none (fun u6 v6 =>
pcal Tryz.prog 139 179 v6 (fun w6 y6 =>
VL (lift1 (aun .not) w6) fun z6 =>
pcond (
g1 [(l6.getD 0 .und),(l6.getD 1 .und),(l6.getD 2 .und),(l6.getD 3 .und),(l6.getD 4 .und)] y6) (
VL (lift2 (abin .sub) (k6.getD 0 .und) (.int .i64 1)) fun a7 =>
VL (lift2 (abin .sub) (k6.getD 0 .und) (.int .i64 1)) fun b7 =>
VL (vixS 1 (l6.getD 0 .und) b7) fun c7 =>
pld y6 none (fun d7 e7 =>
VL (vixS 1 (l6.getD 0 .und) (k6.getD 0 .und)) fun f7 =>
pld e7 none (fun g7 h7 =>
VL (vixS 1 (l6.getD 0 .und) (k6.getD 0 .und)) fun i7 =>
pst h7 1 (cellsV d7) (fun j7 k7 =>
VL (vixS 1 (l6.getD 0 .und) a7) fun l7 =>
pst k7 1 (cellsV g7) (fun m7 n7 =>
VL (lift2 (abin .add) (k6.getD 0 .und) (.int .i64 1)) fun o7 =>
n6 [o7] [(l6.getD 0 .und),(l6.getD 1 .und),(l6.getD 2 .und),(l6.getD 3 .und),(l6.getD 4 .und)] n7) l7) i7) f7) c7) z6) [q6,u6]) t6) p6) (
g1 [(l6.getD 0 .und),(l6.getD 1 .und),(l6.getD 2 .und),(l6.getD 3 .und),(l6.getD 4 .und)] m6) o6) [j6] [(f6.getD 0 .und),(f6.getD 1 .und),(f6.getD 2 .und),(f6.getD 3 .und),(f6.getD 4 .und)] g6) (
g1 [(f6.getD 0 .und),(f6.getD 1 .und),(f6.getD 2 .und),(f6.getD 3 .und),(f6.getD 4 .und)] g6) i6) s4) p4) m4) j4) g4) e4) c4) s3) l3) e3) y2) r2) m2) h2) a2) t1) o1) l1) [(b1.getD 0 .und)] [(c1.getD 0 .und),(c1.getD 1 .und),(c1.getD 2 .und),(b1.getD 1 .und)] d1) fun p7 q7 =>
VL (lift2 (abin .add) (p7.getD 4 .und) (.int .i64 1)) fun r7 =>
e1 [(p7.getD 3 .und),r7] [(p7.getD 0 .und),(p7.getD 1 .und),(p7.getD 2 .und)] q7) (
Rt d1 (.bool false)) f1) [a1,(.int .i64 0)] [x0,x1,x2] hi
theorem slices_partialInsertionSortOrdered_int64_f {x0 x1 x2:V}:Prt Tryz.prog 138 [x0,x1,x2] (slices_partialInsertionSortOrdered_int64_F x0 x1 x2):=pfun (fn:=Tryz.f138) (m:=[.s,.s,.s,.s,.l [7,8] [0,1,2],.s,.s,.j [0,1,2,7,8],.s,.l [7] [0,1,2,8],.s,.s,.s,.s,.s,.s,.s,.s,.s,.j [0,1,2,7,8],.s,.s,.l [9] [0,1,2,7,8],.s,.s,.s,.s,.s,.s,.s,.l [10] [0,1,2,7,8],.s,.s,.s,.s,.s,.s]) (c:=3 <= 133) rfl (fun h0 Rt=>by kernel_rfl) (by decide)
def cmp_Less_int64_F (x0 x1:V) (hi:Hp) (Rt:Hp -> V -> Prop):Prop :=
pcal Tryz.prog 149 70 hi (fun a1 b1 =>
pgk true b1 (fun c1 d1=>d1 x1 b1) (fun e1 f1 g1 =>
pgk true g1 (fun h1 i1=>pcal Tryz.prog 149 73 g1 (fun j1 k1 =>
i1 j1 k1) [f1]) (fun l1 m1 n1 =>
pgk true n1 (fun o1 p1=>VL (lift1 (aun .not) m1) fun q1 =>
p1 q1 n1) (fun r1 s1 t1 =>
VL (vpick r1 s1 (.bool false)) fun u1 =>
pgk false t1 (fun v1 w1=>w1 x0 t1) (fun y1 z1 a2 =>
pgk false a2 (fun b2 c2=>c2 x1 a2) (fun d2 e2 f2 =>
pgk false f2 (fun g2 h2=>VL (lift2 (abin .lss) z1 e2) fun i2 =>
h2 i2 f2) (fun j2 k2 l2 =>
VL (vpick j2 (.bool true) k2) fun m2 =>
Rt l2 m2) d2) y1) u1) l1) e1) a1) [x0]
theorem cmp_Less_int64_f {x0 x1:V}:Prt Tryz.prog 139 [x0,x1] (cmp_Less_int64_F x0 x1):=pfun (fn:=Tryz.f139) (m:=[.s,.s]) (c:=2 <= 17) rfl (fun h0 Rt=>by kernel_rfl) (by decide)
def slices_partitionEqualOrdered_int64_F (x0 x1 x2 x3:V) (hi:Hp) (Rt:Hp -> V -> Prop):Prop :=
VL (vixS 1 x0 x3) fun a1 =>
pld hi none (fun b1 c1 =>
VL (vixS 1 x0 x1) fun d1 =>
pld c1 none (fun e1 f1 =>
VL (vixS 1 x0 x1) fun g1 =>
pst f1 1 (cellsV b1) (fun h1 i1 =>
VL (vixS 1 x0 x3) fun j1 =>
pst i1 1 (cellsV e1) (fun k1 l1 =>
VL (lift2 (abin .add) x1 (.int .i64 1)) fun m1 =>
VL (lift2 (abin .sub) x2 (.int .i64 1)) fun n1 =>
LP [9,10] [0,1] (fun o1 p1 q1 r1 =>
LP [9] [0,1,10] (fun s1 t1 u1 v1 =>
VL (lift2 (abin .leq) (s1.getD 0 .und) (t1.getD 2 .und)) fun w1 =>
pgk true u1 (fun y1 z1=>z1 (t1.getD 0 .und) u1) (fun a2 b2 c2 =>
pgk true c2 (fun d2 e2=>e2 (t1.getD 1 .und) c2) (fun f2 g2 h2 =>
pgk true h2 (fun i2 j2=>VL (vixS 1 b2 g2) fun k2 =>
j2 k2 h2) (fun l2 m2 n2 =>
pgk true n2 (fun o2 p2=>pld n2 none (fun q2 r2 =>
p2 q2 r2) m2) (fun s2 t2 u2 =>
pgk true u2 (fun v2 w2=>w2 (t1.getD 0 .und) u2) (fun y2 z2 a3 =>
pgk true a3 (fun b3 c3=>c3 (s1.getD 0 .und) a3) (fun d3 e3 f3 =>
pgk true f3 (fun g3 h3=>VL (vixS 1 z2 e3) fun i3 =>
h3 i3 f3) (fun j3 k3 l3 =>
pgk true l3 (fun m3 n3=>pld l3 none (fun o3 p3 =>
n3 o3 p3) k3) (fun q3 r3 s3 =>
pgk true s3 (fun t3 u3=>pcal Tryz.prog 139 105 s3 (fun v3 w3 =>
u3 v3 w3) [t2,r3]) (fun y3 z3 a4 =>
pgk true a4 (fun b4 c4=>VL (lift1 (aun .not) z3) fun d4 =>
c4 d4 a4) (fun e4 f4 g4 =>
VL (vpick e4 f4 (.bool false)) fun h4 =>
pcond (
VL (lift2 (abin .add) (s1.getD 0 .und) (.int .i64 1)) fun i4 =>
v1 [i4] [(t1.getD 0 .und),(t1.getD 1 .und),(t1.getD 2 .und)] g4) (
LP [10] [0,1,9] (fun j4 k4 l4 m4 =>
VL (lift2 (abin .leq) (k4.getD 2 .und) (j4.getD 0 .und)) fun n4 =>
pgk true l4 (fun o4 p4=>p4 (k4.getD 0 .und) l4) (fun q4 r4 s4 =>
pgk true s4 (fun t4 u4=>u4 (k4.getD 1 .und) s4) (fun v4 w4 y4 =>
pgk true y4 (fun z4 a5=>VL (vixS 1 r4 w4) fun b5 =>
a5 b5 y4) (fun c5 d5 e5 =>
pgk true e5 (fun f5 g5=>pld e5 none (fun h5 i5 =>
g5 h5 i5) d5) (fun j5 k5 l5 =>
pgk true l5 (fun m5 n5=>n5 (k4.getD 0 .und) l5) (fun o5 p5 q5 =>
pgk true q5 (fun r5 s5=>s5 (j4.getD 0 .und) q5) (fun t5 u5 v5 =>
pgk true v5 (fun w5 y5=>VL (vixS 1 p5 u5) fun z5 =>
y5 z5 v5) (fun a6 b6 c6 =>
pgk true c6 (fun d6 e6=>pld c6 none (fun f6 g6 =>
e6 f6 g6) b6) (fun h6 i6 j6 =>
pgk true j6 (fun k6 l6=>pcal Tryz.prog 139 122 j6 (fun m6 n6 =>
l6 m6 n6) [k5,i6]) (fun o6 p6 q6 =>
VL (vpick o6 p6 (.bool false)) fun r6 =>
pcond (
VL (lift2 (abin .sub) (j4.getD 0 .und) (.int .i64 1)) fun s6 =>
m4 [s6] [(k4.getD 0 .und),(k4.getD 1 .und),(k4.getD 2 .und)] q6) (
VL (lift2 (abin .gtr) (k4.getD 2 .und) (j4.getD 0 .und)) fun t6 =>
pcond (
Rt q6 (k4.getD 2 .und)) (
VL (vixS 1 (k4.getD 0 .und) (j4.getD 0 .und)) fun u6 =>
pld q6 none (fun v6 w6 =>
VL (vixS 1 (k4.getD 0 .und) (k4.getD 2 .und)) fun y6 =>
pld w6 none (fun z6 a7 =>
VL (vixS 1 (k4.getD 0 .und) (k4.getD 2 .und)) fun b7 =>
pst a7 1 (cellsV v6) (fun c7 d7 =>
VL (vixS 1 (k4.getD 0 .und) (j4.getD 0 .und)) fun e7 =>
pst d7 1 (cellsV z6) (fun f7 g7 =>
VL (lift2 (abin .add) (k4.getD 2 .und) (.int .i64 1)) fun h7 =>
VL (lift2 (abin .sub) (j4.getD 0 .und) (.int .i64 1)) fun i7 =>
r1 [h7,i7] [(k4.getD 0 .und),(k4.getD 1 .und)] g7) e7) b7) y6) u6) t6) r6) h6) a6) t5) o5) j5) c5) v4) q4) n4) [(t1.getD 2 .und)] [(t1.getD 0 .und),(t1.getD 1 .und),(s1.getD 0 .und)] g4) h4) y3) q3) j3) d3) y2) s2) l2) f2) a2) w1) [(o1.getD 0 .und)] [(p1.getD 0 .und),(p1.getD 1 .und),(o1.getD 1 .und)] q1) [m1,n1] [x0,x1] l1) j1) g1) d1) a1
theorem slices_partitionEqualOrdered_int64_f {x0 x1 x2 x3:V}:Prt Tryz.prog 140 [x0,x1,x2,x3] (slices_partitionEqualOrdered_int64_F x0 x1 x2 x3):=pfun (fn:=Tryz.f140) (m:=[.s,.s,.s,.s,.l [9,10] [0,1],.s,.l [9] [0,1,10],.s,.s,.s,.l [10] [0,1,9],.s,.s,.s,.s,.s,.s,.s]) (c:=4 <= 84) rfl (fun h0 Rt=>by kernel_rfl) (by decide)
def slices_partitionOrdered_int64_F (x0 x1 x2 x3:V) (hi:Hp) (Rt:Hp -> V -> Prop):Prop :=
VL (vixS 1 x0 x3) fun a1 =>
pld hi none (fun b1 c1 =>
VL (vixS 1 x0 x1) fun d1 =>
pld c1 none (fun e1 f1 =>
VL (vixS 1 x0 x1) fun g1 =>
pst f1 1 (cellsV b1) (fun h1 i1 =>
VL (vixS 1 x0 x3) fun j1 =>
pst i1 1 (cellsV e1) (fun k1 l1 =>
VL (lift2 (abin .add) x1 (.int .i64 1)) fun m1 =>
VL (lift2 (abin .sub) x2 (.int .i64 1)) fun n1 =>
LP [10] [0,1,11] (fun o1 p1 q1 r1 =>
VL (lift2 (abin .leq) (o1.getD 0 .und) (p1.getD 2 .und)) fun s1 =>
pgk true q1 (fun t1 u1=>u1 (p1.getD 0 .und) q1) (fun v1 w1 y1 =>
pgk true y1 (fun z1 a2=>a2 (o1.getD 0 .und) y1) (fun b2 c2 d2 =>
pgk true d2 (fun e2 f2=>VL (vixS 1 w1 c2) fun g2 =>
f2 g2 d2) (fun h2 i2 j2 =>
pgk true j2 (fun k2 l2=>pld j2 none (fun m2 n2 =>
l2 m2 n2) i2) (fun o2 p2 q2 =>
pgk true q2 (fun r2 s2=>s2 (p1.getD 0 .und) q2) (fun t2 u2 v2 =>
pgk true v2 (fun w2 y2=>y2 (p1.getD 1 .und) v2) (fun z2 a3 b3 =>
pgk true b3 (fun c3 d3=>VL (vixS 1 u2 a3) fun e3 =>
d3 e3 b3) (fun f3 g3 h3 =>
pgk true h3 (fun i3 j3=>pld h3 none (fun k3 l3 =>
j3 k3 l3) g3) (fun m3 n3 o3 =>
pgk true o3 (fun p3 q3=>pcal Tryz.prog 139 106 o3 (fun r3 s3 =>
q3 r3 s3) [p2,n3]) (fun t3 u3 v3 =>
VL (vpick t3 u3 (.bool false)) fun w3 =>
pcond (
VL (lift2 (abin .add) (o1.getD 0 .und) (.int .i64 1)) fun y3 =>
r1 [y3] [(p1.getD 0 .und),(p1.getD 1 .und),(p1.getD 2 .und)] v3) (
LP [11] [0,1,10] (fun z3 a4 b4 c4 =>
VL (lift2 (abin .leq) (a4.getD 2 .und) (z3.getD 0 .und)) fun d4 =>
pgk true b4 (fun e4 f4=>f4 (a4.getD 0 .und) b4) (fun g4 h4 i4 =>
pgk true i4 (fun j4 k4=>k4 (z3.getD 0 .und) i4) (fun l4 m4 n4 =>
pgk true n4 (fun o4 p4=>VL (vixS 1 h4 m4) fun q4 =>
p4 q4 n4) (fun r4 s4 t4 =>
pgk true t4 (fun u4 v4=>pld t4 none (fun w4 y4 =>
v4 w4 y4) s4) (fun z4 a5 b5 =>
pgk true b5 (fun c5 d5=>d5 (a4.getD 0 .und) b5) (fun e5 f5 g5 =>
pgk true g5 (fun h5 i5=>i5 (a4.getD 1 .und) g5) (fun j5 k5 l5 =>
pgk true l5 (fun m5 n5=>VL (vixS 1 f5 k5) fun o5 =>
n5 o5 l5) (fun p5 q5 r5 =>
pgk true r5 (fun s5 t5=>pld r5 none (fun u5 v5 =>
t5 u5 v5) q5) (fun w5 y5 z5 =>
pgk true z5 (fun a6 b6=>pcal Tryz.prog 139 122 z5 (fun c6 d6 =>
b6 c6 d6) [a5,y5]) (fun e6 f6 g6 =>
pgk true g6 (fun h6 i6=>VL (lift1 (aun .not) f6) fun j6 =>
i6 j6 g6) (fun k6 l6 m6 =>
VL (vpick k6 l6 (.bool false)) fun n6 =>
pcond (
VL (lift2 (abin .sub) (z3.getD 0 .und) (.int .i64 1)) fun o6 =>
c4 [o6] [(a4.getD 0 .und),(a4.getD 1 .und),(a4.getD 2 .und)] m6) (
VL (lift2 (abin .gtr) (a4.getD 2 .und) (z3.getD 0 .und)) fun p6 =>
pcond (
VL (vixS 1 (a4.getD 0 .und) (a4.getD 1 .und)) fun q6 =>
pld m6 none (fun r6 s6 =>
VL (vixS 1 (a4.getD 0 .und) (z3.getD 0 .und)) fun t6 =>
pld s6 none (fun u6 v6 =>
VL (vixS 1 (a4.getD 0 .und) (z3.getD 0 .und)) fun w6 =>
pst v6 1 (cellsV r6) (fun y6 z6 =>
VL (vixS 1 (a4.getD 0 .und) (a4.getD 1 .und)) fun a7 =>
pst z6 1 (cellsV u6) (fun b7 c7 =>
Rt c7 (.tup [(z3.getD 0 .und),(.bool true)])) a7) w6) t6) q6) (
VL (vixS 1 (a4.getD 0 .und) (z3.getD 0 .und)) fun d7 =>
pld m6 none (fun e7 f7 =>
VL (vixS 1 (a4.getD 0 .und) (a4.getD 2 .und)) fun g7 =>
pld f7 none (fun h7 i7 =>
VL (vixS 1 (a4.getD 0 .und) (a4.getD 2 .und)) fun j7 =>
pst i7 1 (cellsV e7) (fun k7 l7 =>
VL (vixS 1 (a4.getD 0 .und) (z3.getD 0 .und)) fun m7 =>
pst l7 1 (cellsV h7) (fun n7 o7 =>
VL (lift2 (abin .add) (a4.getD 2 .und) (.int .i64 1)) fun p7 =>
VL (lift2 (abin .sub) (z3.getD 0 .und) (.int .i64 1)) fun q7 =>
LP [10,11] [0,1] (fun r7 s7 t7 u7 =>
LP [10] [0,1,11] (fun v7 w7 y7 z7 =>
VL (lift2 (abin .leq) (v7.getD 0 .und) (w7.getD 2 .und)) fun a8 =>
pgk true y7 (fun b8 c8=>c8 (w7.getD 0 .und) y7) (fun d8 e8 f8 =>
pgk true f8 (fun g8 h8=>h8 (v7.getD 0 .und) f8) (fun i8 j8 k8 =>
pgk true k8 (fun l8 m8=>VL (vixS 1 e8 j8) fun n8 =>
m8 n8 k8) (fun o8 p8 q8 =>
pgk true q8 (fun r8 s8=>pld q8 none (fun t8 u8 =>
s8 t8 u8) p8) (fun v8 w8 y8 =>
pgk true y8 (fun z8 a9=>a9 (w7.getD 0 .und) y8) (fun b9 c9 d9 =>
pgk true d9 (fun e9 f9=>f9 (w7.getD 1 .und) d9) (fun g9 h9 i9 =>
pgk true i9 (fun j9 k9=>VL (vixS 1 c9 h9) fun l9 =>
k9 l9 i9) (fun m9 n9 o9 =>
pgk true o9 (fun p9 q9=>pld o9 none (fun r9 s9 =>
q9 r9 s9) n9) (fun t9 u9 v9 =>
pgk true v9 (fun w9 y9=>pcal Tryz.prog 139 175 v9 (fun z9 a10 =>
y9 z9 a10) [w8,u9]) (fun b10 c10 d10 =>
VL (vpick b10 c10 (.bool false)) fun e10 =>
pcond (
VL (lift2 (abin .add) (v7.getD 0 .und) (.int .i64 1)) fun f10 =>
z7 [f10] [(w7.getD 0 .und),(w7.getD 1 .und),(w7.getD 2 .und)] d10) (
LP [11] [0,1,10] (fun g10 h10 i10 j10 =>
VL (lift2 (abin .leq) (h10.getD 2 .und) (g10.getD 0 .und)) fun k10 =>
pgk true i10 (fun l10 m10=>m10 (h10.getD 0 .und) i10) (fun n10 o10 p10 =>
pgk true p10 (fun q10 r10=>r10 (g10.getD 0 .und) p10) (fun s10 t10 u10 =>
pgk true u10 (fun v10 w10=>VL (vixS 1 o10 t10) fun y10 =>
w10 y10 u10) (fun z10 a11 b11 =>
pgk true b11 (fun c11 d11=>pld b11 none (fun e11 f11 =>
d11 e11 f11) a11) (fun g11 h11 i11 =>
pgk true i11 (fun j11 k11=>k11 (h10.getD 0 .und) i11) (fun l11 m11 n11 =>
pgk true n11 (fun o11 p11=>p11 (h10.getD 1 .und) n11) (fun q11 r11 s11 =>
pgk true s11 (fun t11 u11=>VL (vixS 1 m11 r11) fun v11 =>
u11 v11 s11) (fun w11 y11 z11 =>
pgk true z11 (fun a12 b12=>pld z11 none (fun c12 d12 =>
b12 c12 d12) y11) (fun e12 f12 g12 =>
pgk true g12 (fun h12 i12=>pcal Tryz.prog 139 191 g12 (fun j12 k12 =>
i12 j12 k12) [h11,f12]) (fun l12 m12 n12 =>
pgk true n12 (fun o12 p12=>VL (lift1 (aun .not) m12) fun q12 =>
p12 q12 n12) (fun r12 s12 t12 =>
VL (vpick r12 s12 (.bool false)) fun u12 =>
pcond (
VL (lift2 (abin .sub) (g10.getD 0 .und) (.int .i64 1)) fun v12 =>
j10 [v12] [(h10.getD 0 .und),(h10.getD 1 .und),(h10.getD 2 .und)] t12) (
VL (lift2 (abin .gtr) (h10.getD 2 .und) (g10.getD 0 .und)) fun w12 =>
pcond (
VL (vixS 1 (h10.getD 0 .und) (h10.getD 1 .und)) fun y12 =>
pld t12 none (fun z12 a13 =>
VL (vixS 1 (h10.getD 0 .und) (g10.getD 0 .und)) fun b13 =>
pld a13 none (fun c13 d13 =>
VL (vixS 1 (h10.getD 0 .und) (g10.getD 0 .und)) fun e13 =>
pst d13 1 (cellsV z12) (fun f13 g13 =>
VL (vixS 1 (h10.getD 0 .und) (h10.getD 1 .und)) fun h13 =>
pst g13 1 (cellsV c13) (fun i13 j13 =>
Rt j13 (.tup [(g10.getD 0 .und),(.bool false)])) h13) e13) b13) y12) (
VL (vixS 1 (h10.getD 0 .und) (g10.getD 0 .und)) fun k13 =>
pld t12 none (fun l13 m13 =>
VL (vixS 1 (h10.getD 0 .und) (h10.getD 2 .und)) fun n13 =>
pld m13 none (fun o13 p13 =>
VL (vixS 1 (h10.getD 0 .und) (h10.getD 2 .und)) fun q13 =>
pst p13 1 (cellsV l13) (fun r13 s13 =>
VL (vixS 1 (h10.getD 0 .und) (g10.getD 0 .und)) fun t13 =>
pst s13 1 (cellsV o13) (fun u13 v13 =>
VL (lift2 (abin .add) (h10.getD 2 .und) (.int .i64 1)) fun w13 =>
VL (lift2 (abin .sub) (g10.getD 0 .und) (.int .i64 1)) fun y13 =>
u7 [w13,y13] [(h10.getD 0 .und),(h10.getD 1 .und)] v13) t13) q13) n13) k13) w12) u12) l12) e12) w11) q11) l11) g11) z10) s10) n10) k10) [(w7.getD 2 .und)] [(w7.getD 0 .und),(w7.getD 1 .und),(v7.getD 0 .und)] d10) e10) t9) m9) g9) b9) v8) o8) i8) d8) a8) [(r7.getD 0 .und)] [(s7.getD 0 .und),(s7.getD 1 .und),(r7.getD 1 .und)] t7) [p7,q7] [(a4.getD 0 .und),(a4.getD 1 .und)] o7) m7) j7) g7) d7) p6) n6) e6) w5) p5) j5) e5) z4) r4) l4) g4) d4) [(p1.getD 2 .und)] [(p1.getD 0 .und),(p1.getD 1 .und),(o1.getD 0 .und)] v3) w3) m3) f3) z2) t2) o2) h2) b2) v1) s1) [m1] [x0,x1,n1] l1) j1) g1) d1) a1
theorem slices_partitionOrdered_int64_f {x0 x1 x2 x3:V}:Prt Tryz.prog 141 [x0,x1,x2,x3] (slices_partitionOrdered_int64_F x0 x1 x2 x3):=pfun (fn:=Tryz.f141) (m:=[.s,.s,.s,.s,.l [10] [0,1,11],.s,.s,.s,.l [11] [0,1,10],.s,.s,.s,.s,.s,.s,.s,.s,.s,.s,.l [10,11] [0,1],.s,.l [10] [0,1,11],.s,.s,.s,.l [11] [0,1,10],.s,.s,.s,.s,.s,.s,.s,.s]) (c:=4 <= 168) rfl (fun h0 Rt=>by kernel_rfl) (by decide)
def math_bits_Len64_F (x0:V) (hi:Hp) (Rt:Hp -> V -> Prop):Prop :=
JN (fun a1 =>
VL (lift2 (abin .geq) x0 (.int .u64 4294967296)) fun b1 =>
pcond (
VL (lift2 (abin .shr) x0 (.int .u64 32)) fun c1 =>
a1 [c1,(.int .i64 32)] hi) (
a1 [x0,(.int .i64 0)] hi) b1) fun d1 e1 =>
JN (fun f1 =>
VL (lift2 (abin .geq) (d1.getD 0 .und) (.int .u64 65536)) fun g1 =>
pcond (
VL (lift2 (abin .shr) (d1.getD 0 .und) (.int .u64 16)) fun h1 =>
VL (lift2 (abin .add) (d1.getD 1 .und) (.int .i64 16)) fun i1 =>
f1 [h1,i1] e1) (
f1 [(d1.getD 0 .und),(d1.getD 1 .und)] e1) g1) fun j1 k1 =>
JN (fun l1 =>
VL (lift2 (abin .geq) (j1.getD 0 .und) (.int .u64 256)) fun m1 =>
pcond (
VL (lift2 (abin .shr) (j1.getD 0 .und) (.int .u64 8)) fun n1 =>
VL (lift2 (abin .add) (j1.getD 1 .und) (.int .i64 8)) fun o1 =>
l1 [n1,o1] k1) (
l1 [(j1.getD 0 .und),(j1.getD 1 .und)] k1) m1) fun p1 q1 =>
VL (lift1 (acvi .u8) (p1.getD 0 .und)) fun r1 =>
VL (vixT (.str [0,1,2,2,3,3,3,3,4,4,4,4,4,4,4,4,5,5,5,5,5,5,5,5,5,5,5,5,5,5,5,5,6,6,6,6,6,6,6,6,6,6,6,6,6,6,6,6,6,6,6,6,6,6,6,6,6,6,6,6,6,6,6,6,7,7,7,7,7,7,7,7,7,7,7,7,7,7,7,7,7,7,7,7,7,7,7,7,7,7,7,7,7,7,7,7,7,7,7,7,7,7,7,7,7,7,7,7,7,7,7,7,7,7,7,7,7,7,7,7,7,7,7,7,7,7,7,7,8,8,8,8,8,8,8,8,8,8,8,8,8,8,8,8,8,8,8,8,8,8,8,8,8,8,8,8,8,8,8,8,8,8,8,8,8,8,8,8,8,8,8,8,8,8,8,8,8,8,8,8,8,8,8,8,8,8,8,8,8,8,8,8,8,8,8,8,8,8,8,8,8,8,8,8,8,8,8,8,8,8,8,8,8,8,8,8,8,8,8,8,8,8,8,8,8,8,8,8,8,8,8,8,8,8,8,8,8,8,8,8,8,8,8,8,8,8,8,8,8,8,8,8,8,8,8,8]) r1) fun s1 =>
VL (lift1 (acvi .i64) s1) fun t1 =>
VL (lift2 (abin .add) (p1.getD 1 .und) t1) fun u1 =>
Rt q1 u1
theorem math_bits_Len64_f {x0:V}:Prt Tryz.prog 143 [x0] (math_bits_Len64_F x0):=pfun (fn:=Tryz.f143) (m:=[.s,.j [0,2],.s,.s,.j [0,2],.s,.s,.j [0,2],.s,.s,.s]) (c:=1 <= 25) rfl (fun h0 Rt=>by kernel_rfl) (by decide)
def slices_siftDownOrdered_int64_F (x0 x1 x2 x3:V) (hi:Hp) (Rt:Hp -> V -> Prop):Prop :=
LP [8] [0,2,3] (fun a1 b1 c1 d1 =>
VL (lift2 (abin .mul) (.int .i64 2) (a1.getD 0 .und)) fun e1 =>
VL (lift2 (abin .add) e1 (.int .i64 1)) fun f1 =>
VL (lift2 (abin .geq) f1 (b1.getD 1 .und)) fun g1 =>
pcond (
Rt c1 (.tup [])) (
JN (fun h1 =>
VL (lift2 (abin .add) f1 (.int .i64 1)) fun i1 =>
VL (lift2 (abin .lss) i1 (b1.getD 1 .und)) fun j1 =>
pgk true c1 (fun k1 l1=>l1 (b1.getD 0 .und) c1) (fun m1 n1 o1 =>
pgk true o1 (fun p1 q1=>q1 (b1.getD 2 .und) o1) (fun r1 s1 t1 =>
pgk true t1 (fun u1 v1=>v1 f1 t1) (fun w1 y1 z1 =>
pgk true z1 (fun a2 b2=>VL (lift2 (abin .add) s1 y1) fun c2 =>
b2 c2 z1) (fun d2 e2 f2 =>
pgk true f2 (fun g2 h2=>VL (vixS 1 n1 e2) fun i2 =>
h2 i2 f2) (fun j2 k2 l2 =>
pgk true l2 (fun m2 n2=>pld l2 none (fun o2 p2 =>
n2 o2 p2) k2) (fun q2 r2 s2 =>
pgk true s2 (fun t2 u2=>u2 (b1.getD 0 .und) s2) (fun v2 w2 y2 =>
pgk true y2 (fun z2 a3=>a3 (b1.getD 2 .und) y2) (fun b3 c3 d3 =>
pgk true d3 (fun e3 f3=>f3 f1 d3) (fun g3 h3 i3 =>
pgk true i3 (fun j3 k3=>VL (lift2 (abin .add) c3 h3) fun l3 =>
k3 l3 i3) (fun m3 n3 o3 =>
pgk true o3 (fun p3 q3=>VL (lift2 (abin .add) n3 (.int .i64 1)) fun r3 =>
q3 r3 o3) (fun s3 t3 u3 =>
pgk true u3 (fun v3 w3=>VL (vixS 1 w2 t3) fun y3 =>
w3 y3 u3) (fun z3 a4 b4 =>
pgk true b4 (fun c4 d4=>pld b4 none (fun e4 f4 =>
d4 e4 f4) a4) (fun g4 h4 i4 =>
pgk true i4 (fun j4 k4=>pcal Tryz.prog 139 99 i4 (fun l4 m4 =>
k4 l4 m4) [r2,h4]) (fun n4 o4 p4 =>
VL (vpick n4 o4 (.bool false)) fun q4 =>
pcond (
VL (lift2 (abin .add) f1 (.int .i64 1)) fun r4 =>
h1 [(b1.getD 0 .und),(b1.getD 1 .und),(b1.getD 2 .und),(a1.getD 0 .und),r4] p4) (
h1 [(b1.getD 0 .und),(b1.getD 1 .und),(b1.getD 2 .und),(a1.getD 0 .und),f1] p4) q4) g4) z3) s3) m3) g3) b3) v2) q2) j2) d2) w1) r1) m1) j1) fun s4 t4 =>
VL (lift2 (abin .add) (s4.getD 2 .und) (s4.getD 3 .und)) fun u4 =>
VL (vixS 1 (s4.getD 0 .und) u4) fun v4 =>
pld t4 none (fun w4 y4 =>
VL (lift2 (abin .add) (s4.getD 2 .und) (s4.getD 4 .und)) fun z4 =>
VL (vixS 1 (s4.getD 0 .und) z4) fun a5 =>
pld y4 none (fun b5 c5 =>
pcal Tryz.prog 139 115 c5 (fun d5 e5 =>
VL (lift1 (aun .not) d5) fun f5 =>
pcond (
Rt e5 (.tup [])) (
VL (lift2 (abin .add) (s4.getD 2 .und) (s4.getD 3 .und)) fun g5 =>
VL (lift2 (abin .add) (s4.getD 2 .und) (s4.getD 4 .und)) fun h5 =>
VL (lift2 (abin .add) (s4.getD 2 .und) (s4.getD 4 .und)) fun i5 =>
VL (vixS 1 (s4.getD 0 .und) i5) fun j5 =>
pld e5 none (fun k5 l5 =>
VL (lift2 (abin .add) (s4.getD 2 .und) (s4.getD 3 .und)) fun m5 =>
VL (vixS 1 (s4.getD 0 .und) m5) fun n5 =>
pld l5 none (fun o5 p5 =>
VL (vixS 1 (s4.getD 0 .und) g5) fun q5 =>
pst p5 1 (cellsV k5) (fun r5 s5 =>
VL (vixS 1 (s4.getD 0 .und) h5) fun t5 =>
pst s5 1 (cellsV o5) (fun u5 v5 =>
d1 [(s4.getD 4 .und)] [(s4.getD 0 .und),(s4.getD 1 .und),(s4.getD 2 .und)] v5) t5) q5) n5) j5) f5) [w4,b5]) a5) v4) g1) [x1] [x0,x2,x3] hi
theorem slices_siftDownOrdered_int64_f {x0 x1 x2 x3:V}:Prt Tryz.prog 144 [x0,x1,x2,x3] (slices_siftDownOrdered_int64_F x0 x1 x2 x3):=pfun (fn:=Tryz.f144) (m:=[.s,.l [8] [0,2,3],.s,.s,.s,.j [0,2,3,8,9],.s,.s,.s,.s]) (c:=4 <= 76) rfl (fun h0 Rt=>by kernel_rfl) (by decide)
def slices_nextPowerOfTwo_F (x0:V) (hi:Hp) (Rt:Hp -> V -> Prop):Prop :=
VL (lift1 (acvi .u64) x0) fun a1 =>
pcal Tryz.prog 131 69 hi (fun b1 c1 =>
VL (lift2 (abin .shl) (.int .u64 1) b1) fun d1 =>
Rt c1 d1) [a1]
theorem slices_nextPowerOfTwo_f {x0:V}:Prt Tryz.prog 145 [x0] (slices_nextPowerOfTwo_F x0):=pfun (fn:=Tryz.f145) (m:=[.s,.s]) (c:=1 <= 7) rfl (fun h0 Rt=>by kernel_rfl) (by decide)
def slices_xorshift_Next_F (x0:V) (hi:Hp) (Rt:Hp -> V -> Prop):Prop :=
VL (vfa 0 x0) fun a1 =>
pld hi none (fun b1 c1 =>
VL (vfa 0 x0) fun d1 =>
pld c1 none (fun e1 f1 =>
VL (lift2 (abin .shl) e1 (.int .u64 13)) fun g1 =>
VL (lift2 (abin .xor) b1 g1) fun h1 =>
VL (vfa 0 x0) fun i1 =>
pst f1 1 (cellsV h1) (fun j1 k1 =>
VL (vfa 0 x0) fun l1 =>
pld k1 none (fun m1 n1 =>
VL (vfa 0 x0) fun o1 =>
pld n1 none (fun p1 q1 =>
VL (lift2 (abin .shr) p1 (.int .u64 7)) fun r1 =>
VL (lift2 (abin .xor) m1 r1) fun s1 =>
VL (vfa 0 x0) fun t1 =>
pst q1 1 (cellsV s1) (fun u1 v1 =>
VL (vfa 0 x0) fun w1 =>
pld v1 none (fun y1 z1 =>
VL (vfa 0 x0) fun a2 =>
pld z1 none (fun b2 c2 =>
VL (lift2 (abin .shl) b2 (.int .u64 17)) fun d2 =>
VL (lift2 (abin .xor) y1 d2) fun e2 =>
VL (vfa 0 x0) fun f2 =>
pst c2 1 (cellsV e2) (fun g2 h2 =>
VL (vfa 0 x0) fun i2 =>
pld h2 none (fun j2 k2 =>
Rt k2 j2) i2) f2) a2) w1) t1) o1) l1) i1) d1) a1
theorem slices_xorshift_Next_f {x0:V}:Prt Tryz.prog 146 [x0] (slices_xorshift_Next_F x0):=pfun (fn:=Tryz.f146) (m:=[.s,.s,.s,.s,.s]) (c:=1 <= 33) rfl (fun h0 Rt=>by kernel_rfl) (by decide)
def slices_medianOrdered_int64_F (x0 x1 x2 x3 x4:V) (hi:Hp) (Rt:Hp -> V -> Prop):Prop :=
pcal Tryz.prog 150 80 hi (fun a1 b1 =>
VL (vext 0 a1) fun c1 =>
VL (vext 1 a1) fun d1 =>
pcal Tryz.prog 150 88 b1 (fun e1 f1 =>
VL (vext 0 e1) fun g1 =>
VL (vext 1 e1) fun h1 =>
pcal Tryz.prog 150 96 f1 (fun i1 j1 =>
VL (vext 0 i1) fun k1 =>
VL (vext 1 i1) fun l1 =>
Rt j1 l1) [x0,c1,g1,x4]) [x0,d1,x3,x4]) [x0,x1,x2,x4]
theorem slices_medianOrdered_int64_f {x0 x1 x2 x3 x4:V}:Prt Tryz.prog 148 [x0,x1,x2,x3,x4] (slices_medianOrdered_int64_F x0 x1 x2 x3 x4):=pfun (fn:=Tryz.f148) (m:=[.s,.s,.s,.s,.s]) (c:=5 <= 36) rfl (fun h0 Rt=>by kernel_rfl) (by decide)
def cmp_isNaN_int64_F (x0:V) (hi:Hp) (Rt:Hp -> V -> Prop):Prop :=
VL (lift2 (abin .neq) x0 x0) fun a1 =>
Rt hi a1
theorem cmp_isNaN_int64_f {x0:V}:Prt Tryz.prog 149 [x0] (cmp_isNaN_int64_F x0):=pfun (fn:=Tryz.f149) (m:=[.s,.s]) (c:=1 <= 6) rfl (fun h0 Rt=>by kernel_rfl) (by decide)
def slices_order2Ordered_int64_F (x0 x1 x2 x3:V) (hi:Hp) (Rt:Hp -> V -> Prop):Prop :=
VL (vixS 1 x0 x2) fun a1 =>
pld hi none (fun b1 c1 =>
VL (vixS 1 x0 x1) fun d1 =>
pld c1 none (fun e1 f1 =>
pcal Tryz.prog 139 82 f1 (fun g1 h1 =>
pcond (
VL (vfa 0 x3) fun i1 =>
pld h1 none (fun j1 k1 =>
VL (lift2 (abin .add) j1 (.int .i64 1)) fun l1 =>
VL (vfa 0 x3) fun m1 =>
pst k1 1 (cellsV l1) (fun n1 o1 =>
Rt o1 (.tup [x2,x1])) m1) i1) (
Rt h1 (.tup [x1,x2])) g1) [b1,e1]) d1) a1
theorem slices_order2Ordered_int64_f {x0 x1 x2 x3:V}:Prt Tryz.prog 150 [x0,x1,x2,x3] (slices_order2Ordered_int64_F x0 x1 x2 x3):=pfun (fn:=Tryz.f150) (m:=[.s,.s,.s,.s,.s,.s]) (c:=4 <= 28) rfl (fun h0 Rt=>by kernel_rfl) (by decide)
end
section
def okP (p:List Int):Prop:=p.length = 16 /\ ∀ i,i < 16 -> 0 <= gi p i /\ gi p i <= 255
theorem okP.len {p:List Int} (h:okP p):p.length = 16:=h.1
def vD (n:Int) (b w:List Int):V:=.agg (.int .i64 n :: vi .u8 (b ++ w))
def PmAt (p:List Int) (n:Int) (j:Nat):Prop:=((j:Int) < n -> gi p j < n /\ ∀ k,k < j -> gi p k ≠ gi p j) /\ (n <= j -> gi p j = 0)
def isPm (p:List Int) (n:Int):Prop:=(1 <= n /\ n <= 16) /\ ∀ j,j < 16 -> PmAt p n j
noncomputable def isPmB (p:List Int) (n:Int):Bool:=by classical exact decide (isPm p n)
theorem isPmB_iff {p:List Int} {n:Int}:isPmB p n = true ↔ isPm p n:=by simp [isPmB]
theorem isPmB_no {p:List Int} {n:Int} (h:¬ isPm p n):isPmB p n = false:=by simp [isPmB,h]
theorem isPmB_yes {p:List Int} {n:Int} (h:isPm p n):isPmB p n = true:=isPmB_iff.2 h
theorem not_isPm {p:List Int} {n:Int} {i:Nat} (hi:i < 16) (h:¬ PmAt p n i):¬ isPm p n:=fun hp=>h (hp.2 i hi)
def Met (p:List Int) (n:Int) (m:List Bool) (i:Nat):Prop:=i <= 16 /\ m.length = 16 /\ (∀ j,j < i -> PmAt p n j) /\ ∀ x:Nat,x < 16 -> (gb m x = true ↔ ∃ j,j < i /\ (j:Int) < n /\ gi p j = x)
theorem Met.zero (p:List Int) (n:Int):Met p n (List.replicate 16 false) 0:=by
 refine ⟨Nat.zero_le _,by simp,fun j hj=>absurd hj (Nat.not_lt_zero j),fun x hx=>?_⟩
 rw [gb_rep]; simp
theorem Met.skip {p:List Int} {n:Int} {m:List Bool} {i:Nat} (h:Met p n m i) (hi:i < 16) (hn:n <= i) (h0:gi p i = 0):Met p n m (i + 1):=by
 obtain ⟨h1,h2,h3,h4⟩:=h
 refine ⟨by omega,h2,fun j hj=>?_,fun x hx=>?_⟩
 ·by_cases e:j = i
  ·subst e; exact ⟨fun h=>absurd h (by omega),fun _=>h0⟩
  ·exact h3 j (by omega)
 ·rw [h4 x hx]
  exact ⟨fun ⟨j,a,b,c⟩=>⟨j,by omega,b,c⟩,fun ⟨j,a,b,c⟩=>⟨j,by omega,b,c⟩⟩
theorem Met.put {p:List Int} {n:Int} {m:List Bool} {i:Nat} (h:Met p n m i) (hi:i < 16) (hn:(i:Int) < n) (hn16:n <= 16) (h0:0 <= gi p i) (h1:gi p i < n) (hm:gb m (gi p i).toNat = false):Met p n (m.set (gi p i).toNat true) (i + 1):=by
 obtain ⟨g1,g2,g3,g4⟩:=h
 have hx16:(gi p i).toNat < 16:=by omega
 refine ⟨by omega,by simpa using g2,fun j hj=>?_,fun x hx=>?_⟩
 ·by_cases e:j = i
  ·subst e
   refine ⟨fun _=>⟨h1,fun k hk he=>?_⟩,fun h=>absurd h (by omega)⟩
   have:=(g4 (gi p j).toNat hx16).2 ⟨k,hk,by omega,by omega⟩
   rw [hm] at this; cases this
  ·exact g3 j (by omega)
 ·rw [gb_set,g2]
  by_cases e:(gi p i).toNat = x
  ·rw [if_pos ⟨e,hx⟩]
   exact ⟨fun _=>⟨i,by omega,hn,by omega⟩,fun _=>rfl⟩
  ·rw [if_neg (fun h=>e h.1),g4 x hx]
   refine ⟨fun ⟨j,a,b,c⟩=>⟨j,by omega,b,c⟩,fun ⟨j,a,b,c⟩=>⟨j,?_,b,c⟩⟩
   have:j ≠ i:=fun hj=>e (by subst hj; omega)
   omega
theorem Met.twice {p:List Int} {n:Int} {m:List Bool} {i:Nat} (h:Met p n m i) (hn:(i:Int) < n) (hn16:n <= 16) (h0:0 <= gi p i) (h1:gi p i < n) (hm:gb m (gi p i).toNat = true):¬ PmAt p n i:=by
 obtain ⟨j,a,b,c⟩:=(h.2.2.2 (gi p i).toNat (by omega)).1 hm
 exact fun hp=>(hp.1 hn).2 j a (by omega)
theorem c_impl_isSize {n:Int}:PSpec Tryz.prog 111 [.int .i64 n] fun v=>v = .bool (decide (1 <= n /\ n <= 16)):=by
 refine impl_isSize_f.f ?_
 simp (disch:=first|omega|(simp only [LN];omega)) only [↓EC,EW,seval,↓reduceIte,impl_isSize_F]
 unfold Split
 simp only [V.bool.injEq]
 grind
theorem c_spec_l01In {n a b:Int}:PSpec Tryz.prog 67 [.int .i64 n,.int .i64 a,.int .i64 b] fun v=>v = .bool (decide (a <= n /\ n <= b)):=by
 refine spec_l01In_f.f ?_
 simp (disch:=first|omega|(simp only [LN];omega)) only [↓EC,EW,seval,↓reduceIte,spec_l01In_F]
 unfold Split
 simp only [V.bool.injEq]
 grind
theorem c_impl_IsPermutation {p:List Int} {n:Int} (hp:okP p):PSpec Tryz.prog 86 [.agg (vi .u8 p),.int .i64 n] fun v=>v = .bool (isPmB p n):=by
 have hl:=hp.len
 refine impl_IsPermutation_f.f ?_
 simp (disch:=first|omega|(simp only [LN];omega)) only [↓EC,EW,seval,↓reduceIte,impl_IsPermutation_F]
 (refine pcd_v (c_impl_isSize) ?_; (try simp (disch:=first|omega|(simp only [LN];omega)) only [↓EC,EW,seval,↓reduceIte]))
 (refine Split.mk (fun h=>?_) (fun h=>?_) <;> (try simp only [SD]at h))
 ·rw [isPmB_no fun h=>absurd h.1 (by omega)]
 ·refine LP_of (σ:=Nat × List Bool) 100000 [(69,120,1)] (fun s=>[.int .i64 s.1]) (fun s=>[vb s.2])
   (fun s=>Met p n s.2 s.1) (fun s=>16 - s.1) (0,List.replicate 16 false) (by simp [frameOk,names,lpz,sclp,scv,scvs,nrfs,nrf,FRB]) (Met.zero p n) ?_ ?_
  ·simp (disch:=first|omega|(simp only [LN];omega)) only [↓EC,EW,seval,↓reduceIte,CVd]
  ·rintro ⟨i,m⟩ hm
   have hm0:=hm
   obtain ⟨h1,h2,-,-⟩:=hm0
   simp only at h1 h2 hm
   simp (disch:=first|omega|(simp only [LN];omega)) only [↓EC,EW,seval,↓reduceIte,CVd,lhd]
   (refine Split.mk (fun h=>?_) (fun h=>?_) <;> (try simp only [SD]at h))
   ·have hb:=hp.2 i (by omega)
    (try simp (disch:=first|omega|(simp only [LN];omega)) only [↓EC,EW,seval,↓reduceIte])
    (refine Split.mk (fun h=>?_) (fun h=>?_) <;> (try simp only [SD]at h))
    ·(refine Split.mk (fun h=>?_) (fun h=>?_) <;> (try simp only [SD]at h))
     ·rw [isPmB_no (not_isPm (i:=i) (by omega) fun hq=>h (hq.2 (by omega)))]
     ·(try simp (disch:=first|omega|(simp only [LN];omega)) only [↓EC,EW,seval,↓reduceIte])
      exact ⟨(i + 1,m),rfl,rfl,hm.skip (by omega) (by omega) h,by simp only; omega⟩
    ·(refine Split.mk (fun h=>?_) (fun h=>?_) <;> (try simp only [SD]at h))
     ·rw [isPmB_no (not_isPm (i:=i) (by omega) fun hq=>absurd (hq.1 (by omega)).1 (by omega))]
     ·(try simp (disch:=first|omega|(simp only [LN];omega)) only [↓EC,EW,seval,↓reduceIte])
      (refine Split.mk (fun h=>?_) (fun h=>?_) <;> (try simp only [SD]at h))
      ·rw [isPmB_no (not_isPm (i:=i) (by omega) (hm.twice (by omega) (by omega) hb.1 (by omega) h))]
      ·(try simp (disch:=first|omega|(simp only [LN];omega)) only [↓EC,EW,seval,↓reduceIte])
       exact ⟨(i + 1,m.set (gi p i).toNat true),rfl,rfl,hm.put (by omega) (by omega) (by omega) hb.1 (by omega) h,by simp only; omega⟩
   ·(try simp (disch:=first|omega|(simp only [LN];omega)) only [↓EC,EW,seval,↓reduceIte])
    rw [isPmB_yes ⟨by omega,fun j hj=>hm.2.2.1 j (by omega)⟩]
theorem c_spec_l01Perm {p:List Int} {n:Int} (hp:okP p):PSpec Tryz.prog 98 [.agg (vi .u8 p),.int .i64 n] fun v=>v = .bool (isPmB p n):=by
 have hl:=hp.len
 refine spec_l01Perm_f.f ?_
 simp (disch:=first|omega|(simp only [LN];omega)) only [↓EC,EW,seval,↓reduceIte,spec_l01Perm_F]
 (refine pcd_v (c_spec_l01In) ?_; (try simp (disch:=first|omega|(simp only [LN];omega)) only [↓EC,EW,seval,↓reduceIte]))
 (refine Split.mk (fun h=>?_) (fun h=>?_) <;> (try simp only [SD]at h))
 ·rw [isPmB_no fun h=>absurd h.1 (by omega)]
 ·refine LP_of (σ:=Nat × List Bool) 100000 [(66,26,1),(69,120,1)] (fun s=>[.int .i64 s.1]) (fun s=>[vi .u8 p,vb s.2])
   (fun s=>Met p n s.2 s.1) (fun s=>16 - s.1) (0,List.replicate 16 false) (by simp [frameOk,names,lpz,sclp,scv,scvs,nrfs,nrf,FRB]) (Met.zero p n) ?_ ?_
  ·simp (disch:=first|omega|(simp only [LN];omega)) only [↓EC,EW,seval,↓reduceIte,CVd]
  ·rintro ⟨i,m⟩ hm
   have hm0:=hm
   obtain ⟨h1,h2,-,-⟩:=hm0
   simp only at h1 h2 hm
   simp (disch:=first|omega|(simp only [LN];omega)) only [↓EC,EW,seval,↓reduceIte,CVd,lhd]
   (refine Split.mk (fun h=>?_) (fun h=>?_) <;> (try simp only [SD]at h))
   ·have hb:=hp.2 i (by omega)
    (try simp (disch:=first|omega|(simp only [LN];omega)) only [↓EC,EW,seval,↓reduceIte])
    (refine Split.mk (fun h=>?_) (fun h=>?_) <;> (try simp only [SD]at h))
    ·(try simp (disch:=first|omega|(simp only [LN];omega)) only [↓EC,EW,seval,↓reduceIte])
     (refine Split.mk (fun h=>?_) (fun h=>?_) <;> (try simp only [SD]at h))
     ·rw [isPmB_no (not_isPm (i:=i) (by omega) fun hq=>h (hq.2 (by omega)))]
     ·(try simp (disch:=first|omega|(simp only [LN];omega)) only [↓EC,EW,seval,↓reduceIte])
      exact ⟨(i + 1,m),rfl,rfl,hm.skip (by omega) (by omega) h,by simp only; omega⟩
    ·(try simp (disch:=first|omega|(simp only [LN];omega)) only [↓EC,EW,seval,↓reduceIte])
     (refine Split.mk (fun h=>?_) (fun h=>?_) <;> (try simp only [SD]at h))
     ·rw [isPmB_no (not_isPm (i:=i) (by omega) fun hq=>absurd (hq.1 (by omega)).1 (by omega))]
     ·(try simp (disch:=first|omega|(simp only [LN];omega)) only [↓EC,EW,seval,↓reduceIte])
      (refine Split.mk (fun h=>?_) (fun h=>?_) <;> (try simp only [SD]at h))
      ·rw [isPmB_no (not_isPm (i:=i) (by omega) (hm.twice (by omega) (by omega) hb.1 (by omega) h))]
      ·(try simp (disch:=first|omega|(simp only [LN];omega)) only [↓EC,EW,seval,↓reduceIte])
       exact ⟨(i + 1,m.set (gi p i).toNat true),rfl,rfl,hm.put (by omega) (by omega) (by omega) hb.1 (by omega) h,by simp only; omega⟩
   ·(try simp (disch:=first|omega|(simp only [LN];omega)) only [↓EC,EW,seval,↓reduceIte])
    rw [isPmB_yes ⟨by omega,fun j hj=>hm.2.2.1 j (by omega)⟩]
abbrev Sr:=List Int × List Bool
def visit (y:Int) (s:Sr):Sr:=if gb s.2 y.toNat = true then s else (s.1 ++ [y],s.2.set y.toNat true)
def srStep (p q:List Int) (i:Nat) (s:Sr):Sr:=visit (gi q (gi s.1 i).toNat) (visit (gi p (gi s.1 i).toNat) s)
def srRun (p q:List Int):Nat -> Nat -> Sr -> Sr
 | 0,_,s=>s
 | k + 1,i,s=>if i < s.1.length then srRun p q k (i + 1) (srStep p q i s) else s
def sr0:Sr:=([0],(List.replicate 16 false).set 0 true)
def cntR (p q:List Int):Nat:=(srRun p q 17 0 sr0).1.length
def lo16 (p:List Int):Prop:=p.length = 16 /\ ∀ i,i < 16 -> 0 <= gi p i /\ gi p i < 16
theorem isPm.lo {p:List Int} {n:Int} (hp:okP p) (h:isPm p n):lo16 p:=⟨hp.1,fun i hi=>by
 obtain ⟨h1,h2⟩:=h
 have h3:=h2 i hi
 have:=(hp.2 i hi).1
 by_cases h4:(i:Int) < n
 ·have:=(h3.1 h4).1; omega
 ·have:=h3.2 (by omega); omega⟩
structure SrOk (s:Sr):Prop where
 len:s.2.length = 16
 cnt:s.1.length = s.2.count true
 lo:∀ j,j < s.1.length -> 0 <= gi s.1 j /\ gi s.1 j < 16
theorem SrOk.le {s:Sr} (h:SrOk s):s.1.length <= 16:=by
 rw [h.cnt,<-h.len]; exact List.count_le_length
theorem sr0_ok:SrOk sr0:=⟨rfl,rfl,fun j hj=>by
 have:j = 0:=by simp [sr0] at hj; exact hj
 subst this; decide⟩
theorem visit_ok {s:Sr} (h:SrOk s) {y:Int} (hy:0 <= y /\ y < 16):SrOk (visit y s):=by
 unfold visit
 split
 ·exact h
 ·rename_i hv
  have hl:y.toNat < s.2.length:=by rw [h.len]; omega
  refine ⟨by simp [h.len],?_,fun j hj=>?_⟩
  ·have hg:s.2[y.toNat] = false:=by
    have:=gb_of hl
    rw [<-this]; simpa using hv
   simp only [List.length_append,List.length_cons,List.length_nil]
   rw [List.count_set hl,hg,h.cnt]
   simp
  ·simp only [List.length_append,List.length_cons,List.length_nil] at hj
   simp only [gi_app]
   split
   ·exact h.lo j (by assumption)
   ·have:j - s.1.length = 0:=by omega
    rw [this]; exact hy
theorem visit_len {s:Sr} {y:Int}:s.1.length <= (visit y s).1.length:=by
 unfold visit; split <;> simp
theorem srStep_ok {p q:List Int} (hp:lo16 p) (hq:lo16 q) {s:Sr} (h:SrOk s) {i:Nat} (hi:i < s.1.length):SrOk (srStep p q i s):=by
 have h0:=h.lo i hi
 exact visit_ok (visit_ok h (hp.2 _ (by omega))) (hq.2 _ (by omega))
theorem srStep_len {p q:List Int} {s:Sr} {i:Nat}:s.1.length <= (srStep p q i s).1.length:=Nat.le_trans visit_len visit_len
theorem visit_yes {s:Sr} {y:Int} (h:gb s.2 y.toNat = true):visit y s = s:=if_pos h
theorem visit_no {s:Sr} {y:Int} (h:gb s.2 y.toNat = false):visit y s = (s.1 ++ [y],s.2.set y.toNat true):=if_neg (by simp [h])
theorem c_impl_reached {n:Int} {p q:List Int} (hp:lo16 p) (hq:lo16 q):PSpec Tryz.prog 87 [.int .i64 n,.sl 2 (vi .u8 (p ++ q))] fun v=>v = .int .i64 (cntR p q):=by
 have hl:=hp.1
 have hk:=hq.1
 refine impl_reached_f.f ?_
 simp (disch:=first|omega|(simp only [LN];omega)) only [↓EC,EW,seval,↓reduceIte,impl_reached_F]
 refine LP_of (σ:=Sr × Nat) 100000 [(69,120,1)] (fun s=>[.own 5 1 s.1.1.length (vi .u8 s.1.1),.int .i64 s.2]) (fun s=>[vb s.1.2])
  (fun s=>SrOk s.1 /\ s.2 <= s.1.1.length /\ srRun p q (17 - s.2) s.2 s.1 = srRun p q 17 0 sr0) (fun s=>17 - s.2) (sr0,0) (by simp [frameOk,names,lpz,sclp,scv,scvs,nrfs,nrf,FRB]) ⟨sr0_ok,Nat.zero_le _,rfl⟩ ?_ ?_
 ·simp (disch:=first|omega|(simp only [LN];omega)) only [↓EC,EW,seval,↓reduceIte,CVd]
  exact ⟨rfl,rfl⟩
 ·rintro ⟨⟨l,m⟩,i⟩ ⟨h1,h2,h3⟩
  simp only at h1 h2 h3
  have hm:=h1.len
  have hle:=h1.le
  simp only at hm hle
  simp (disch:=first|omega|(simp only [LN];omega)) only [↓EC,EW,seval,↓reduceIte,CVd,lhd]
  (refine Split.mk (fun h=>?_) (fun h=>?_) <;> (try simp only [SD]at h))
  ·have hi:i < l.length:=by omega
   have hlo:=h1.lo i hi
   simp only at hlo
   have hy1:=hp.2 (gi l i).toNat (by omega)
   have hy2:=hq.2 (gi l i).toNat (by omega)
   have hg:∀ y,gi (visit y (l,m)).1 i = gi l i:=fun y=>by
    unfold visit; split
    ·rfl
    ·simp only [gi_app,if_pos hi]
   refine LP_of (σ:=Sr × Nat) 200000 [(69,120,1)] (fun s=>[.own 5 1 s.1.1.length (vi .u8 s.1.1),.int .i64 s.2]) (fun s=>[vb s.1.2])
    (fun s=>s.2 <= 2 /\ s.1 = if s.2 = 0 then (l,m) else if s.2 = 1 then visit (gi p (gi l i).toNat) (l,m) else srStep p q i (l,m)) (fun s=>2 - s.2) ((l,m),0) (by simp [frameOk,names,lpz,sclp,scv,scvs,nrfs,nrf,FRB]) ⟨Nat.zero_le 2,rfl⟩ ?_ ?_
   ·simp (disch:=first|omega|(simp only [LN];omega)) only [↓EC,EW,seval,↓reduceIte,CVd]
   ·rintro ⟨s,j⟩ ⟨g1,g2⟩
    simp only at g1 g2
    have hs:SrOk s:=by
     rw [g2]; split
     ·exact h1
     ·split
      ·exact visit_ok h1 hy1
      ·exact srStep_ok hp hq h1 hi
    have hsm:=hs.len
    have hsl:=hs.le
    have hgs:gi s.1 i = gi l i /\ i < s.1.length:=by
     rw [g2]; split
     ·exact ⟨rfl,hi⟩
     ·split
      ·exact ⟨hg _,Nat.lt_of_lt_of_le hi (visit_len (s:=(l,m)))⟩
      ·exact ⟨by unfold srStep; rw [visit]; split; exact hg _; simp only [gi_app]; rw [if_pos (Nat.lt_of_lt_of_le hi (visit_len (s:=(l,m))))]; exact hg _,Nat.lt_of_lt_of_le hi (srStep_len (s:=(l,m)))⟩
    obtain ⟨hgs,hil⟩:=hgs
    simp (disch:=first|omega|(simp only [LN];omega)) only [↓EC,EW,seval,↓reduceIte,CVd,lhd]
    (refine Split.mk (fun h=>?_) (fun h=>?_) <;> (try simp only [SD]at h))
    ·have hj:j = 0 ∨ j = 1:=by omega
     rcases hj with rfl | rfl
     ·(try simp (disch:=first|omega|(simp only [LN];omega)) only [↓EC,EW,seval,↓reduceIte,hgs,hl,hk])
      rw [if_pos rfl] at g2
      (refine Split.mk (fun h=>?_) (fun h=>?_) <;> (try simp only [SD]at h))
      ·exact ⟨(visit (gi p (gi l i).toNat) s,1),by rw [visit_no h]; simp,by rw [visit_no h],⟨by simp,by rw [g2]; rfl⟩,by simp⟩
      ·exact ⟨(visit (gi p (gi l i).toNat) s,1),by rw [visit_yes h]; simp,by rw [visit_yes h],⟨by simp,by rw [g2]; rfl⟩,by simp⟩
     ·(try simp (disch:=first|omega|(simp only [LN];omega)) only [↓EC,EW,seval,↓reduceIte,hgs,hl,hk])
      rw [if_neg (by decide),if_pos rfl] at g2
      (refine Split.mk (fun h=>?_) (fun h=>?_) <;> (try simp only [SD]at h))
      ·exact ⟨(visit (gi q (gi l i).toNat) s,2),by rw [visit_no h]; simp,by rw [visit_no h],⟨by simp,by rw [g2]; rfl⟩,by simp⟩
      ·exact ⟨(visit (gi q (gi l i).toNat) s,2),by rw [visit_yes h]; simp,by rw [visit_yes h],⟨by simp,by rw [g2]; rfl⟩,by simp⟩
    ·(try simp (disch:=first|omega|(simp only [LN];omega)) only [↓EC,EW,seval,↓reduceIte])
     rw [if_neg (by omega),if_neg (by omega)] at g2
     refine ⟨(s,i + 1),rfl,rfl,⟨hs,hil,?_⟩,by simp only; omega⟩
     rw [show 17 - i = 16 - i + 1 from by omega] at h3
     simp only [srRun,if_pos hi] at h3
     try simp only
     rw [g2,show 17 - (i + 1) = 16 - i from by omega]
     exact h3
  ·(try simp (disch:=first|omega|(simp only [LN];omega)) only [↓EC,EW,seval,↓reduceIte])
   unfold cntR
   rw [<-h3,show 17 - i = 16 - i + 1 from by omega]
   simp only [srRun]
   rw [if_neg (by omega)]
theorem c_spec_l01Connected {n:Int} {p q:List Int} (hp:lo16 p) (hq:lo16 q):PSpec Tryz.prog 99 [.int .i64 n,.agg (vi .u8 p),.agg (vi .u8 q)] fun v=>v = .bool (decide ((cntR p q:Int) = n)):=by
 have hl:=hp.1
 have hk:=hq.1
 refine spec_l01Connected_f.f ?_
 simp (disch:=first|omega|(simp only [LN];omega)) only [↓EC,EW,seval,↓reduceIte,spec_l01Connected_F]
 refine LP_of (σ:=Sr × Nat) 100000 [(68,26,1),(69,26,1),(71,120,1)] (fun s=>[.own 5 1 s.1.1.length (vi .u8 s.1.1),.int .i64 s.2]) (fun s=>[vi .u8 p,vi .u8 q,vb s.1.2])
  (fun s=>SrOk s.1 /\ s.2 <= s.1.1.length /\ srRun p q (17 - s.2) s.2 s.1 = srRun p q 17 0 sr0) (fun s=>17 - s.2) (sr0,0) (by simp [frameOk,names,lpz,sclp,scv,scvs,nrfs,nrf,FRB]) ⟨sr0_ok,Nat.zero_le _,rfl⟩ ?_ ?_
 ·simp (disch:=first|omega|(simp only [LN];omega)) only [↓EC,EW,seval,↓reduceIte,CVd]
  exact ⟨rfl,rfl⟩
 ·rintro ⟨⟨l,m⟩,i⟩ ⟨h1,h2,h3⟩
  simp only at h1 h2 h3
  have hm:=h1.len
  have hle:=h1.le
  simp only at hm hle
  simp (disch:=first|omega|(simp only [LN];omega)) only [↓EC,EW,seval,↓reduceIte,CVd,lhd]
  (refine Split.mk (fun h=>?_) (fun h=>?_) <;> (try simp only [SD]at h))
  ·have hi:i < l.length:=by omega
   have hlo:=h1.lo i hi
   simp only at hlo
   have hy1:=hp.2 (gi l i).toNat (by omega)
   have hy2:=hq.2 (gi l i).toNat (by omega)
   (try simp (disch:=first|omega|(simp only [LN];omega)) only [↓EC,EW,seval,↓reduceIte])
   refine LP_of (σ:=Sr × Nat) 200000 [(68,26,1),(69,26,1),(71,120,1),(97,5,1)] (fun s=>[.own 5 1 s.1.1.length (vi .u8 s.1.1),.int .i64 s.2])
    (fun s=>[vi .u8 p,vi .u8 q,vb s.1.2,vi .u8 [gi p (gi l i).toNat,gi q (gi l i).toNat]])
    (fun s=>s.2 <= 2 /\ s.1 = if s.2 = 0 then (l,m) else if s.2 = 1 then visit (gi p (gi l i).toNat) (l,m) else srStep p q i (l,m)) (fun s=>2 - s.2) ((l,m),0) (by simp [frameOk,names,lpz,sclp,scv,scvs,nrfs,nrf,FRB]) ⟨Nat.zero_le 2,rfl⟩ ?_ ?_
   ·simp (disch:=first|omega|(simp only [LN];omega)) only [↓EC,EW,seval,↓reduceIte,CVd]
    rfl
   ·rintro ⟨s,j⟩ ⟨g1,g2⟩
    simp only at g1 g2
    have hs:SrOk s:=by
     rw [g2]; split
     ·exact h1
     ·split
      ·exact visit_ok h1 hy1
      ·exact srStep_ok hp hq h1 hi
    have hil:i < s.1.length:=by
     rw [g2]; split
     ·exact hi
     ·split
      ·exact Nat.lt_of_lt_of_le hi (visit_len (s:=(l,m)))
      ·exact Nat.lt_of_lt_of_le hi (srStep_len (s:=(l,m)))
    have hsm:=hs.len
    have hsl:=hs.le
    simp (disch:=first|omega|(simp only [LN];omega)) only [↓EC,EW,seval,↓reduceIte,CVd,lhd]
    (refine Split.mk (fun h=>?_) (fun h=>?_) <;> (try simp only [SD]at h))
    ·have hj:j = 0 ∨ j = 1:=by omega
     rcases hj with rfl | rfl
     ·(try simp (disch:=first|omega|(simp only [LN];omega)) only [↓EC,EW,seval,↓reduceIte,hl,hk])
      rw [if_pos rfl] at g2
      (refine Split.mk (fun h=>?_) (fun h=>?_) <;> (try simp only [SD]at h))
      ·exact ⟨(visit (gi p (gi l i).toNat) s,1),by rw [visit_no h]; simp,by rw [visit_no h],⟨by simp,by rw [g2]; rfl⟩,by simp⟩
      ·exact ⟨(visit (gi p (gi l i).toNat) s,1),by rw [visit_yes h]; simp,by rw [visit_yes h],⟨by simp,by rw [g2]; rfl⟩,by simp⟩
     ·(try simp (disch:=first|omega|(simp only [LN];omega)) only [↓EC,EW,seval,↓reduceIte,hl,hk])
      rw [if_neg (by decide),if_pos rfl] at g2
      (refine Split.mk (fun h=>?_) (fun h=>?_) <;> (try simp only [SD]at h))
      ·exact ⟨(visit (gi q (gi l i).toNat) s,2),by rw [visit_no h]; simp,by rw [visit_no h],⟨by simp,by rw [g2]; rfl⟩,by simp⟩
      ·exact ⟨(visit (gi q (gi l i).toNat) s,2),by rw [visit_yes h]; simp,by rw [visit_yes h],⟨by simp,by rw [g2]; rfl⟩,by simp⟩
    ·(try simp (disch:=first|omega|(simp only [LN];omega)) only [↓EC,EW,seval,↓reduceIte])
     rw [if_neg (by omega),if_neg (by omega)] at g2
     refine ⟨(s,i + 1),rfl,rfl,⟨hs,hil,?_⟩,by simp only; omega⟩
     rw [show 17 - i = 16 - i + 1 from by omega] at h3
     simp only [srRun,if_pos hi] at h3
     try simp only
     rw [g2,show 17 - (i + 1) = 16 - i from by omega]
     exact h3
  ·(try simp (disch:=first|omega|(simp only [LN];omega)) only [↓EC,EW,seval,↓reduceIte])
   have:cntR p q = l.length:=by
    unfold cntR
    rw [<-h3,show 17 - i = 16 - i + 1 from by omega]
    simp only [srRun]
    rw [if_neg (by omega)]
   rw [this,V.bool.injEq]
   grind
noncomputable def isDB (n:Int) (b w:List Int):Bool:=isPmB b n && isPmB w n && decide ((cntR b w:Int) = n)
structure isD (n:Int) (b w:List Int):Prop where
 pb:isPm b n
 pw:isPm w n
 cn:(cntR b w:Int) = n
theorem isDB_iff {n:Int} {b w:List Int}:isDB n b w = true ↔ isD n b w:=by
 simp only [isDB,Bool.and_eq_true,isPmB_iff,decide_eq_true_eq]
 exact ⟨fun ⟨⟨h1,h2⟩,h3⟩=>⟨h1,h2,h3⟩,fun ⟨h1,h2,h3⟩=>⟨⟨h1,h2⟩,h3⟩⟩
theorem c_impl_IsDessin {n:Int} {b w:List Int} (hb:okP b) (hw:okP w):PSpec Tryz.prog 43 [vD n b w] fun v=>v = .bool (isDB n b w):=by
 have hl:=hb.len
 have hk:=hw.len
 refine impl_IsDessin_f.f ?_
 unfold vD isDB
 simp (disch:=first|omega|(simp only [LN];omega)) only [↓EC,EW,seval,↓reduceIte,impl_IsDessin_F,hl,hk]
 refine pcd_v (c_impl_IsPermutation hb) ?_
 (try simp (disch:=first|omega|(simp only [LN];omega)) only [↓EC,EW,seval,↓reduceIte,hl,hk])
 (refine Split.mk (fun h=>?_) (fun h=>?_) <;> (try simp only [SD]at h))
 ·refine pcd_v (c_impl_IsPermutation hw) ?_
  (try simp (disch:=first|omega|(simp only [LN];omega)) only [↓EC,EW,seval,↓reduceIte,hl,hk])
  (refine Split.mk (fun h=>?_) (fun h=>?_) <;> (try simp only [SD]at h))
  ·refine pcd_v (c_impl_reached ((isPmB_iff.1 (by assumption)).lo hb) ((isPmB_iff.1 (by assumption)).lo hw)) ?_
   (try simp (disch:=first|omega|(simp only [LN];omega)) only [↓EC,EW,seval,↓reduceIte])
   simp_all
   try grind
  ·simp_all
 ·simp_all
theorem c_spec_l01Is {n:Int} {b w:List Int} (hb:okP b) (hw:okP w):PSpec Tryz.prog 66 [vD n b w] fun v=>v = .bool (isDB n b w):=by
 have hl:=hb.len
 have hk:=hw.len
 refine spec_l01Is_f.f ?_
 unfold vD isDB
 simp (disch:=first|omega|(simp only [LN];omega)) only [↓EC,EW,seval,↓reduceIte,spec_l01Is_F,hl,hk]
 refine pcd_v (c_spec_l01Perm hb) ?_
 (try simp (disch:=first|omega|(simp only [LN];omega)) only [↓EC,EW,seval,↓reduceIte,hl,hk])
 (refine Split.mk (fun h=>?_) (fun h=>?_) <;> (try simp only [SD]at h))
 ·refine pcd_v (c_spec_l01Perm hw) ?_
  (try simp (disch:=first|omega|(simp only [LN];omega)) only [↓EC,EW,seval,↓reduceIte,hl,hk])
  (refine Split.mk (fun h=>?_) (fun h=>?_) <;> (try simp only [SD]at h))
  ·refine pcd_v (c_spec_l01Connected ((isPmB_iff.1 (by assumption)).lo hb) ((isPmB_iff.1 (by assumption)).lo hw)) ?_
   (try simp (disch:=first|omega|(simp only [LN];omega)) only [↓EC,EW,seval,↓reduceIte])
   simp_all
   try grind
  ·simp_all
 ·simp_all
end
section

end
section
theorem gl_mem {ls:List (List Int)} {i:Nat} (hi:i < ls.length):gl ls i ∈ ls:=by
 simp only [gl,List.getD,hi,List.getElem?_eq_getElem,Option.getD_some]; exact List.getElem_mem hi
end
section

end
section

end
section
theorem count_false_lt {m:List Bool} {k:Nat} (h:gb m k = false) (hk:k < m.length):(m.set k true).count false < m.count false:=by
 rw [List.count_set hk]
 have hg:m[k] = false:=by rw [<-gb_of hk]; exact h
 have:0 < m.count false:=List.count_pos_iff.2 (by rw [<-hg]; exact List.getElem_mem hk)
 rw [hg]; simp; omega
def cycF (p:List Int) (k:Int) (m:List Bool) (acc:List Int):List Bool × List Int :=
 if h:gb m k.toNat = false /\ k.toNat < m.length then cycF p (gi p k.toNat) (m.set k.toNat true) (acc ++ [k]) else (m,acc)
termination_by m.count false
decreasing_by exact count_false_lt h.1 h.2
theorem cycF_go {p:List Int} {k:Int} {m:List Bool} {acc:List Int} (h:gb m k.toNat = false) (hk:k.toNat < m.length):cycF p k m acc = cycF p (gi p k.toNat) (m.set k.toNat true) (acc ++ [k]):=by
 rw [cycF,dif_pos ⟨h,hk⟩]
theorem cycF_end {p:List Int} {k:Int} {m:List Bool} {acc:List Int} (h:gb m k.toNat = true):cycF p k m acc = (m,acc):=by
 rw [cycF,dif_neg (fun h'=>by rw [h] at h'; cases h'.1)]
theorem cycF_len {p:List Int}:∀ (c:Nat) {k:Int} {m:List Bool} {acc:List Int},m.count false = c -> (cycF p k m acc).1.length = m.length /\ acc.length <= (cycF p k m acc).2.length /\ (cycF p k m acc).2.length + (cycF p k m acc).1.count false = acc.length + m.count false:=by
 intro c
 induction c using Nat.strongRecOn with
 | ind c ih =>
  intro k m acc hc
  by_cases h:gb m k.toNat = false /\ k.toNat < m.length
  ·rw [cycF_go h.1 h.2]
   have hlt:=count_false_lt h.1 h.2
   obtain ⟨h1,h2,h3⟩:=@ih _ (by omega) (gi p k.toNat) (m.set k.toNat true) (acc ++ [k]) rfl
   have hcs:(m.set k.toNat true).count false + 1 = m.count false:=by
    rw [List.count_set h.2] at hlt ⊢
    have hg:m[k.toNat] = false:=by rw [<-gb_of h.2]; exact h.1
    rw [hg] at hlt ⊢; simp at hlt ⊢; omega
   refine ⟨by simpa using h1,by simp at h2; omega,by simp at h3; omega⟩
  ·rw [cycF,dif_neg h]; exact ⟨rfl,Nat.le_refl _,rfl⟩
def cycO (p:List Int):Nat -> List Bool × List (List Int)
 | 0=>(List.replicate 16 false,[])
 | i + 1=>if gb (cycO p i).1 i = true then cycO p i else ((cycF p i (cycO p i).1 []).1,(cycO p i).2 ++ [(cycF p i (cycO p i).1 []).2])
def cyc (p:List Int) (n:Int):List (List Int):=(cycO p n.toNat).2
theorem cycO_len {p:List Int}:∀ i:Nat,(cycO p i).1.length = 16 /\ (cycO p i).2.length <= i
 | 0=>by simp [cycO]
 | i + 1=>by
  obtain ⟨h1,h2⟩:=cycO_len (p:=p) i
  simp only [cycO]
  split
  ·exact ⟨h1,by omega⟩
  ·exact ⟨(cycF_len _ rfl).1.trans h1,by simp; omega⟩
theorem cycO_yes {p:List Int} {i:Nat} (h:gb (cycO p i).1 i = true):cycO p (i + 1) = cycO p i:=by simp only [cycO,if_pos h]
theorem cycO_no {p:List Int} {i:Nat} (h:gb (cycO p i).1 i = false):cycO p (i + 1) = ((cycF p i (cycO p i).1 []).1,(cycO p i).2 ++ [(cycF p i (cycO p i).1 []).2]):=by
 simp only [cycO]; rw [if_neg (by rw [h]; decide)]
theorem c_impl_cycles {p:List Int} {n:Int} (hp:lo16 p) (hn:1 <= n /\ n <= 16):PSpec Tryz.prog 121 [.agg (vi .u8 p),.int .i64 n] fun v=>v = .own 52 1 (cyc p n).length (vo 2 (cyc p n)):=by
 have hl:=hp.1
 refine impl_cycles_f.f ?_
 simp (disch:=first|omega|(simp only [LN];omega)) only [↓EC,EW,seval,↓reduceIte,impl_cycles_F,hl]
 refine LP_ofE (σ:=Nat) [1,1] 100000 [(66,26,1),(70,120,1)] (fun i=>[.own 52 1 (cycO p i).2.length (vo 2 (cycO p i).2),.int .i64 i]) (fun i=>[vi .u8 p,vb (cycO p i).1])
  (fun i=>(i:Int) <= n) (fun i=>(n - i).toNat) 0 (by simp [frameOk,names,lpz,sclp,scv,scvs,nrfs,nrf,FRB]) (by simp only [Int.natCast_zero]; omega) ?_ ?_
 ·simp (disch:=first|omega|(simp only [LN];omega)) only [↓EC,EW,seval,↓reduceIte,CVd]
  exact ⟨fun _=>trivial,rfl,rfl⟩
 ·rintro i hi
  obtain ⟨h1,h2⟩:=cycO_len (p:=p) i
  simp (disch:=first|omega|(simp only [LN];omega)) only [↓EC,EW,seval,↓reduceIte,CVd,lhd]
  (refine Split.mk (fun h=>?_) (fun h=>?_) <;> (try simp only [SD]at h))
  ·(try simp (disch:=first|omega|(simp only [LN];omega)) only [↓EC,EW,seval,↓reduceIte])
   (refine Split.mk (fun h=>?_) (fun h=>?_) <;> (try simp only [SD]at h))
   ·(try simp (disch:=first|omega|(simp only [LN];omega)) only [↓EC,EW,seval,↓reduceIte])
    exact ⟨i + 1,by rw [cycO_yes h]; rfl,by rw [cycO_yes h],by omega,by omega⟩
   ·have hg:=h
    (try simp (disch:=first|omega|(simp only [LN];omega)) only [↓EC,EW,seval,↓reduceIte])
    refine LP_ofE (σ:=List Bool × List Int × Int) [1,1] 200000 [(66,26,1),(70,120,1),(100000,52,1)] (fun s=>[.own 2 1 s.2.1.length (vi .i64 s.2.1),.int .i64 s.2.2])
     (fun s=>[vi .u8 p,vb s.1,vo 2 (cycO p i).2])
     (fun s=>s.1.length = 16 /\ (0 <= s.2.2 /\ s.2.2 < 16) /\ s.2.1.length + s.1.count false <= 16 /\ cycF p s.2.2 s.1 s.2.1 = cycF p i (cycO p i).1 []) (fun s=>s.1.count false) ((cycO p i).1,[],(i:Int)) (by simp [frameOk,names,lpz,sclp,scv,scvs,nrfs,nrf,FRB])
     ⟨h1,⟨by simp only; omega,by simp only; omega⟩,by have:=List.count_le_length (a:=false) (l:=(cycO p i).1); simp; omega,rfl⟩ ?_ ?_
    ·simp (disch:=first|omega|(simp only [LN];omega)) only [↓EC,EW,seval,↓reduceIte,CVd]
     exact ⟨fun _=>trivial,trivial⟩
    ·rintro ⟨m,acc,k⟩ ⟨g1,g2,g3,g4⟩
     simp only at g1 g2 g3 g4
     have hpk:=hp.2 k.toNat (by omega)
     simp (disch:=first|omega|(simp only [LN];omega)) only [↓EC,EW,seval,↓reduceIte,CVd,lhd]
     (refine Split.mk (fun h=>?_) (fun h=>?_) <;> (try simp only [SD]at h))
     ·have hlt:=count_false_lt h (by omega)
      (try simp (disch:=first|omega|(simp only [LN];omega)) only [↓EC,EW,seval,↓reduceIte,hl])
      exact ⟨(m.set k.toNat true,acc ++ [k],gi p k.toNat),by simp,rfl,⟨by simpa using g1,hpk,by simp only [List.length_append,List.length_cons,List.length_nil]; omega,by rw [<-g4]; exact (cycF_go h (by omega)).symm⟩,hlt⟩
     ·(try simp (disch:=first|omega|(simp only [LN];omega)) only [↓EC,EW,seval,↓reduceIte])
      have he:=cycO_no hg
      rw [<-g4,cycF_end h] at he
      exact ⟨i + 1,by rw [he]; simp,by rw [he],by omega,by omega⟩
  ·(try simp (disch:=first|omega|(simp only [LN];omega)) only [↓EC,EW,seval,↓reduceIte])
   have:i = n.toNat:=by omega
   subst this
   rfl
theorem c_spec_l01Cycles {p:List Int} {n:Int} (hp:lo16 p) (hn:1 <= n /\ n <= 16):PSpec Tryz.prog 127 [.agg (vi .u8 p),.int .i64 n] fun v=>v = .own 52 1 (cyc p n).length (vo 2 (cyc p n)):=by
 have hl:=hp.1
 refine spec_l01Cycles_f.f ?_
 simp (disch:=first|omega|(simp only [LN];omega)) only [↓EC,EW,seval,↓reduceIte,spec_l01Cycles_F,hl]
 refine LP_ofE (σ:=Nat) [1,1] 100000 [(66,26,1),(70,120,1)] (fun i=>[.own 52 1 (cycO p i).2.length (vo 2 (cycO p i).2),.int .i64 i]) (fun i=>[vi .u8 p,vb (cycO p i).1])
  (fun i=>(i:Int) <= n) (fun i=>(n - i).toNat) 0 (by simp [frameOk,names,lpz,sclp,scv,scvs,nrfs,nrf,FRB]) (by simp only [Int.natCast_zero]; omega) ?_ ?_
 ·simp (disch:=first|omega|(simp only [LN];omega)) only [↓EC,EW,seval,↓reduceIte,CVd]
  exact ⟨fun _=>trivial,rfl,rfl⟩
 ·rintro i hi
  obtain ⟨h1,h2⟩:=cycO_len (p:=p) i
  simp (disch:=first|omega|(simp only [LN];omega)) only [↓EC,EW,seval,↓reduceIte,CVd,lhd]
  (refine Split.mk (fun h=>?_) (fun h=>?_) <;> (try simp only [SD]at h))
  ·(try simp (disch:=first|omega|(simp only [LN];omega)) only [↓EC,EW,seval,↓reduceIte])
   refine LP_ofE (σ:=List Bool × List Int × Int) [1,1] 200000 [(66,26,1),(70,120,1),(100000,52,1)] (fun s=>[.own 2 1 s.2.1.length (vi .i64 s.2.1),.int .i64 s.2.2])
    (fun s=>[vi .u8 p,vb s.1,vo 2 (cycO p i).2])
    (fun s=>s.1.length = 16 /\ (0 <= s.2.2 /\ s.2.2 < 16) /\ s.2.1.length + s.1.count false <= 16 /\ cycF p s.2.2 s.1 s.2.1 = cycF p i (cycO p i).1 []) (fun s=>s.1.count false) ((cycO p i).1,[],(i:Int)) (by simp [frameOk,names,lpz,sclp,scv,scvs,nrfs,nrf,FRB])
    ⟨h1,⟨by simp only; omega,by simp only; omega⟩,by have:=List.count_le_length (a:=false) (l:=(cycO p i).1); simp; omega,rfl⟩ ?_ ?_
   ·simp (disch:=first|omega|(simp only [LN];omega)) only [↓EC,EW,seval,↓reduceIte,CVd]
    exact ⟨fun _=>trivial,trivial⟩
   ·rintro ⟨m,acc,k⟩ ⟨g1,g2,g3,g4⟩
    simp only at g1 g2 g3 g4
    have hpk:=hp.2 k.toNat (by omega)
    simp (disch:=first|omega|(simp only [LN];omega)) only [↓EC,EW,seval,↓reduceIte,CVd,lhd]
    (refine Split.mk (fun h=>?_) (fun h=>?_) <;> (try simp only [SD]at h))
    ·have hlt:=count_false_lt h (by omega)
     (try simp (disch:=first|omega|(simp only [LN];omega)) only [↓EC,EW,seval,↓reduceIte,hl])
     exact ⟨(m.set k.toNat true,acc ++ [k],gi p k.toNat),by simp,rfl,⟨by simpa using g1,hpk,by simp only [List.length_append,List.length_cons,List.length_nil]; omega,by rw [<-g4]; exact (cycF_go h (by omega)).symm⟩,hlt⟩
    ·rw [cycF_end h] at g4
     (try simp (disch:=first|omega|(simp only [LN];omega)) only [↓EC,EW,seval,↓reduceIte])
     (refine Split.mk (fun h=>?_) (fun h=>?_) <;> (try simp only [SD]at h))
     ·(try simp (disch:=first|omega|(simp only [LN];omega)) only [↓EC,EW,seval,↓reduceIte])
      have hg:gb (cycO p i).1 i = false:=by
       cases hgb:gb (cycO p i).1 i with
       | false=>rfl
       | true =>
        rw [cycF_end (k:=(i:Int)) (by simpa using hgb)] at g4
        simp only [Prod.mk.injEq] at g4
        rw [g4.2] at h
        simp at h
      have he:=cycO_no hg
      rw [<-g4] at he
      exact ⟨i + 1,by rw [he]; simp,by rw [he],by omega,by omega⟩
     ·(try simp (disch:=first|omega|(simp only [LN];omega)) only [↓EC,EW,seval,↓reduceIte])
      have hg:gb (cycO p i).1 i = true:=by
       cases hgb:gb (cycO p i).1 i with
       | true=>rfl
       | false =>
        rw [cycF_go (k:=(i:Int)) (by simpa using hgb) (by simp only [Int.toNat_natCast]; omega)] at g4
        have:=(cycF_len (p:=p) _ (k:=gi p (i:Int).toNat) (m:=(cycO p i).1.set (i:Int).toNat true) (acc:=[] ++ [(i:Int)]) rfl).2.1
        rw [<-g4] at this
        simp at this
        omega
      have he:=cycO_yes hg
      rw [cycF_end (k:=(i:Int)) (by simpa using hg)] at g4
      simp only [Prod.mk.injEq] at g4
      exact ⟨i + 1,by rw [he]; rfl,by rw [he,g4.1],by omega,by omega⟩
  ·(try simp (disch:=first|omega|(simp only [LN];omega)) only [↓EC,EW,seval,↓reduceIte])
   have:i = n.toNat:=by omega
   subst this
   rfl
end
section
def putL (f:Nat -> Nat × Int):Nat -> List Int
 | 0=>List.replicate 16 0
 | i + 1=>(putL f i).set (f i).1 (f i).2
theorem putL_len (f:Nat -> Nat × Int):∀ i,(putL f i).length = 16
 | 0=>by simp [putL]
 | i + 1=>by simp [putL,putL_len f i]
def sameF (i:Nat):Nat × Int:=(i,i)
def thenF (p q:List Int) (i:Nat):Nat × Int:=(i,gi q (gi p i).toNat)
def backF (p:List Int) (i:Nat):Nat × Int:=((gi p i).toNat,i)
theorem c_spec_l01Same {n:Int}  (hn:1 <= n /\ n <= 16):PSpec Tryz.prog 104 [.int .i64 n] fun v=>v = .agg (vi .u8 (putL (sameF) n.toNat)):=by
 refine spec_l01Same_f.f ?_
 simp (disch:=first|omega|(simp only [LN];omega)) only [↓EC,EW,seval,↓reduceIte,spec_l01Same_F]
 refine LP_of (σ:=Nat) 100000 [(66,26,1),(67,26,1)] (fun s=>[.int .i64 s]) (fun s=>[vi .u8 (List.replicate 16 0),vi .u8 (putL (sameF) s)])
  (fun s=>(s:Int) <= n) (fun s=>(n - s).toNat) 0 (by simp [frameOk,names,lpz,sclp,scv,scvs,nrfs,nrf,FRB]) (by simp only [Int.natCast_zero]; omega) ?_ ?_
 ·simp (disch:=first|omega|(simp only [LN];omega)) only [↓EC,EW,seval,↓reduceIte,CVd]
  rfl
 ·rintro i h1
  have hlf:=putL_len (sameF) i
  simp (disch:=first|omega|(simp only [LN];omega)) only [↓EC,EW,seval,↓reduceIte,CVd,lhd]
  (refine Split.mk (fun h=>?_) (fun h=>?_) <;> (try simp only [SD]at h))
  ·skip
   (try simp (disch:=first|omega|(simp only [LN];omega)) only [↓EC,EW,seval,↓reduceIte])
   exact ⟨i + 1,rfl,rfl,by omega,by omega⟩
  ·(try simp (disch:=first|omega|(simp only [LN];omega)) only [↓EC,EW,seval,↓reduceIte])
   rw [show i = n.toNat from by omega]
theorem c_impl_then {p q:List Int} {n:Int} (hp:lo16 p) (hq:lo16 q) (hn:1 <= n /\ n <= 16):PSpec Tryz.prog 123 [.agg (vi .u8 p),.agg (vi .u8 q),.int .i64 n] fun v=>v = .agg (vi .u8 (putL (thenF p q) n.toNat)):=by
 refine impl_then_f.f ?_
 simp (disch:=first|omega|(simp only [LN];omega)) only [↓EC,EW,seval,↓reduceIte,impl_then_F]
 refine LP_of (σ:=Nat) 100000 [(67,26,1),(68,26,1),(70,26,1),(71,26,1)] (fun s=>[.int .i64 s]) (fun s=>[vi .u8 p,vi .u8 q,vi .u8 (List.replicate 16 0),vi .u8 (putL (thenF p q) s)])
  (fun s=>(s:Int) <= n) (fun s=>(n - s).toNat) 0 (by simp [frameOk,names,lpz,sclp,scv,scvs,nrfs,nrf,FRB]) (by simp only [Int.natCast_zero]; omega) ?_ ?_
 ·simp (disch:=first|omega|(simp only [LN];omega)) only [↓EC,EW,seval,↓reduceIte,CVd]
  rfl
 ·rintro i h1
  have hlf:=putL_len (thenF p q) i
  simp (disch:=first|omega|(simp only [LN];omega)) only [↓EC,EW,seval,↓reduceIte,CVd,lhd]
  (refine Split.mk (fun h=>?_) (fun h=>?_) <;> (try simp only [SD]at h))
  ·have a1:=hp.2 i (by omega)
   have a2:=hp.1
   have a3:=hq.1
   have a4:=hq.2 (gi p i).toNat (by omega)
   (try simp (disch:=first|omega|(simp only [LN];omega)) only [↓EC,EW,seval,↓reduceIte])
   exact ⟨i + 1,rfl,rfl,by omega,by omega⟩
  ·(try simp (disch:=first|omega|(simp only [LN];omega)) only [↓EC,EW,seval,↓reduceIte])
   rw [show i = n.toNat from by omega]
theorem c_spec_l01Then {p q:List Int} {n:Int} (hp:lo16 p) (hq:lo16 q) (hn:1 <= n /\ n <= 16):PSpec Tryz.prog 129 [.agg (vi .u8 p),.agg (vi .u8 q),.int .i64 n] fun v=>v = .agg (vi .u8 (putL (thenF p q) n.toNat)):=by
 refine spec_l01Then_f.f ?_
 simp (disch:=first|omega|(simp only [LN];omega)) only [↓EC,EW,seval,↓reduceIte,spec_l01Then_F]
 refine LP_of (σ:=Nat) 100000 [(67,26,1),(68,26,1),(70,26,1),(71,26,1)] (fun s=>[.int .i64 s]) (fun s=>[vi .u8 p,vi .u8 q,vi .u8 (List.replicate 16 0),vi .u8 (putL (thenF p q) s)])
  (fun s=>(s:Int) <= n) (fun s=>(n - s).toNat) 0 (by simp [frameOk,names,lpz,sclp,scv,scvs,nrfs,nrf,FRB]) (by simp only [Int.natCast_zero]; omega) ?_ ?_
 ·simp (disch:=first|omega|(simp only [LN];omega)) only [↓EC,EW,seval,↓reduceIte,CVd]
  rfl
 ·rintro i h1
  have hlf:=putL_len (thenF p q) i
  simp (disch:=first|omega|(simp only [LN];omega)) only [↓EC,EW,seval,↓reduceIte,CVd,lhd]
  (refine Split.mk (fun h=>?_) (fun h=>?_) <;> (try simp only [SD]at h))
  ·have a1:=hp.2 i (by omega)
   have a2:=hp.1
   have a3:=hq.1
   have a4:=hq.2 (gi p i).toNat (by omega)
   (try simp (disch:=first|omega|(simp only [LN];omega)) only [↓EC,EW,seval,↓reduceIte])
   exact ⟨i + 1,rfl,rfl,by omega,by omega⟩
  ·(try simp (disch:=first|omega|(simp only [LN];omega)) only [↓EC,EW,seval,↓reduceIte])
   rw [show i = n.toNat from by omega]
theorem c_impl_back {p:List Int} {n:Int} (hp:lo16 p) (hn:1 <= n /\ n <= 16):PSpec Tryz.prog 122 [.agg (vi .u8 p),.int .i64 n] fun v=>v = .agg (vi .u8 (putL (backF p) n.toNat)):=by
 refine impl_back_f.f ?_
 simp (disch:=first|omega|(simp only [LN];omega)) only [↓EC,EW,seval,↓reduceIte,impl_back_F]
 refine LP_of (σ:=Nat) 100000 [(66,26,1),(68,26,1),(69,26,1)] (fun s=>[.int .i64 s]) (fun s=>[vi .u8 p,vi .u8 (List.replicate 16 0),vi .u8 (putL (backF p) s)])
  (fun s=>(s:Int) <= n) (fun s=>(n - s).toNat) 0 (by simp [frameOk,names,lpz,sclp,scv,scvs,nrfs,nrf,FRB]) (by simp only [Int.natCast_zero]; omega) ?_ ?_
 ·simp (disch:=first|omega|(simp only [LN];omega)) only [↓EC,EW,seval,↓reduceIte,CVd]
  rfl
 ·rintro i h1
  have hlf:=putL_len (backF p) i
  simp (disch:=first|omega|(simp only [LN];omega)) only [↓EC,EW,seval,↓reduceIte,CVd,lhd]
  (refine Split.mk (fun h=>?_) (fun h=>?_) <;> (try simp only [SD]at h))
  ·have a1:=hp.2 i (by omega)
   have a2:=hp.1
   (try simp (disch:=first|omega|(simp only [LN];omega)) only [↓EC,EW,seval,↓reduceIte])
   exact ⟨i + 1,rfl,rfl,by omega,by omega⟩
  ·(try simp (disch:=first|omega|(simp only [LN];omega)) only [↓EC,EW,seval,↓reduceIte])
   rw [show i = n.toNat from by omega]
theorem c_spec_l01Back {p:List Int} {n:Int} (hp:lo16 p) (hn:1 <= n /\ n <= 16):PSpec Tryz.prog 128 [.agg (vi .u8 p),.int .i64 n] fun v=>v = .agg (vi .u8 (putL (backF p) n.toNat)):=by
 refine spec_l01Back_f.f ?_
 simp (disch:=first|omega|(simp only [LN];omega)) only [↓EC,EW,seval,↓reduceIte,spec_l01Back_F]
 refine LP_of (σ:=Nat) 100000 [(66,26,1),(68,26,1),(69,26,1)] (fun s=>[.int .i64 s]) (fun s=>[vi .u8 p,vi .u8 (List.replicate 16 0),vi .u8 (putL (backF p) s)])
  (fun s=>(s:Int) <= n) (fun s=>(n - s).toNat) 0 (by simp [frameOk,names,lpz,sclp,scv,scvs,nrfs,nrf,FRB]) (by simp only [Int.natCast_zero]; omega) ?_ ?_
 ·simp (disch:=first|omega|(simp only [LN];omega)) only [↓EC,EW,seval,↓reduceIte,CVd]
  rfl
 ·rintro i h1
  have hlf:=putL_len (backF p) i
  simp (disch:=first|omega|(simp only [LN];omega)) only [↓EC,EW,seval,↓reduceIte,CVd,lhd]
  (refine Split.mk (fun h=>?_) (fun h=>?_) <;> (try simp only [SD]at h))
  ·have a1:=hp.2 i (by omega)
   have a2:=hp.1
   (try simp (disch:=first|omega|(simp only [LN];omega)) only [↓EC,EW,seval,↓reduceIte])
   exact ⟨i + 1,rfl,rfl,by omega,by omega⟩
  ·(try simp (disch:=first|omega|(simp only [LN];omega)) only [↓EC,EW,seval,↓reduceIte])
   rw [show i = n.toNat from by omega]
theorem putL_lo {f:Nat -> Nat × Int}:∀ (k:Nat),(∀ i,i < k -> 0 <= (f i).2 /\ (f i).2 < 16) -> lo16 (putL f k)
 | 0,_=>⟨by simp [putL],fun i hi=>by simp only [putL]; rw [gi_rep]; split <;> omega⟩
 | k + 1,h=>by
  have ih:=putL_lo (f:=f) k fun i hi=>h i (by omega)
  refine ⟨by simp [putL,putL_len],fun i hi=>?_⟩
  simp only [putL]
  rw [gi_set]
  split
  ·exact h k (by omega)
  ·exact ih.2 i hi
def thenP (p q:List Int) (n:Int):List Int:=putL (thenF p q) n.toNat
def backP (p:List Int) (n:Int):List Int:=putL (backF p) n.toNat
def sameP (n:Int):List Int:=putL sameF n.toNat
def faceP (b w:List Int) (n:Int):List Int:=backP (thenP b w n) n
theorem thenP_lo {p q:List Int} {n:Int} (hp:lo16 p) (hq:lo16 q) (hn:1 <= n /\ n <= 16):lo16 (thenP p q n):=putL_lo _ fun i hi=>by
 have:=hp.2 i (by omega)
 exact hq.2 _ (by omega)
theorem backP_lo {p:List Int} {n:Int} (hn:1 <= n /\ n <= 16):lo16 (backP p n):=putL_lo _ fun i hi=>by simp only [backF]; omega
theorem sameP_lo {n:Int} (hn:1 <= n /\ n <= 16):lo16 (sameP n):=putL_lo _ fun i hi=>by simp only [sameF]; omega
theorem c_impl_face {b w:List Int} {n:Int} (hb:lo16 b) (hw:lo16 w) (hn:1 <= n /\ n <= 16):PSpec Tryz.prog 107 [vD n b w] fun v=>v = .agg (vi .u8 (faceP b w n)):=by
 have hl:=hb.1
 have hk:=hw.1
 refine impl_face_f.f ?_
 unfold vD
 simp (disch:=first|omega|(simp only [LN];omega)) only [↓EC,EW,seval,↓reduceIte,impl_face_F,hl,hk]
 have hy:=putL_len (thenF b w) n.toNat
 refine pcd_v (c_impl_then hb hw hn) ?_
 (try simp (disch:=first|omega|(simp only [LN];omega)) only [↓EC,EW,seval,↓reduceIte,hl,hk,hy])
 refine pcd_v (c_impl_back (thenP_lo hb hw hn) hn) ?_
 have hx:=putL_len (backF (putL (thenF b w) n.toNat)) n.toNat
 (try simp (disch:=first|omega|(simp only [LN];omega)) only [↓EC,EW,seval,↓reduceIte,hl,hk,hx])
 rfl
theorem c_spec_l01Face {b w:List Int} {n:Int} (hb:lo16 b) (hw:lo16 w) (hn:1 <= n /\ n <= 16):PSpec Tryz.prog 118 [vD n b w] fun v=>v = .agg (vi .u8 (faceP b w n)):=by
 have hl:=hb.1
 have hk:=hw.1
 refine spec_l01Face_f.f ?_
 unfold vD
 simp (disch:=first|omega|(simp only [LN];omega)) only [↓EC,EW,seval,↓reduceIte,spec_l01Face_F,hl,hk]
 have hy:=putL_len (thenF b w) n.toNat
 refine pcd_v (c_spec_l01Then hb hw hn) ?_
 (try simp (disch:=first|omega|(simp only [LN];omega)) only [↓EC,EW,seval,↓reduceIte,hl,hk,hy])
 refine pcd_v (c_spec_l01Back (thenP_lo hb hw hn) hn) ?_
 have hx:=putL_len (backF (putL (thenF b w) n.toNat)) n.toNat
 (try simp (disch:=first|omega|(simp only [LN];omega)) only [↓EC,EW,seval,↓reduceIte,hl,hk,hx])
 rfl
end
section
def ltP (p:List Int) (n:Int):Prop:=∀ x:Nat,(x:Int) < n -> 0 <= gi p x /\ gi p x < n
theorem isPm.ltP {p:List Int} {n:Int} (hp:okP p) (h:isPm p n):ltP p n:=fun x hx=>⟨(hp.2 x (by have:=h.1; omega)).1,((h.2 x (by have:=h.1; omega)).1 hx).1⟩
theorem putL_lt {n:Int} {f:Nat -> Nat × Int}:∀ (k:Nat),(∀ i,i < k -> 0 <= (f i).2 /\ (f i).2 < n) -> 1 <= n -> ltP (putL f k) n
 | 0,_,hn=>fun x hx=>by simp only [putL]; rw [gi_rep]; split <;> omega
 | k + 1,h,hn=>fun x hx=>by
  simp only [putL]
  rw [gi_set]
  split
  ·exact h k (by omega)
  ·exact putL_lt k (fun i hi=>h i (by omega)) hn x hx
theorem backP_lt {p:List Int} {n:Int} (hn:1 <= n /\ n <= 16):ltP (backP p n) n:=putL_lt _ (fun i hi=>by simp only [backF]; omega) hn.1
theorem cycF_lt {p:List Int} {n:Int} (hp:ltP p n):∀ (c:Nat) {k:Int} {m:List Bool} {acc:List Int},m.count false = c -> (0 <= k /\ k < n) -> (∀ y ∈ acc,0 <= y /\ y < n) -> ∀ y ∈ (cycF p k m acc).2,0 <= y /\ y < n:=by
 intro c
 induction c using Nat.strongRecOn with
 | ind c ih =>
  intro k m acc hc hk hacc
  by_cases h:gb m k.toNat = false /\ k.toNat < m.length
  ·rw [cycF_go h.1 h.2]
   have hlt:=count_false_lt h.1 h.2
   refine @ih _ (by omega) (gi p k.toNat) (m.set k.toNat true) (acc ++ [k]) rfl (hp _ (by omega)) fun y hy=>?_
   simp only [List.mem_append,List.mem_singleton] at hy
   rcases hy with hy | rfl
   ·exact hacc y hy
   ·exact hk
  ·rw [cycF,dif_neg h]; exact hacc
theorem cycO_lt {p:List Int} {n:Int} (hp:ltP p n):∀ i:Nat,(i:Int) <= n -> ∀ l ∈ (cycO p i).2,(∀ y ∈ l,0 <= y /\ y < n) /\ l.length <= 16
 | 0,_=>by simp [cycO]
 | i + 1,hi=>by
  have ih:=cycO_lt hp i (by omega)
  simp only [cycO]
  split
  ·exact ih
  ·intro l hl
   simp only [List.mem_append,List.mem_singleton] at hl
   rcases hl with hl | rfl
   ·exact ih l hl
   ·refine ⟨cycF_lt hp _ rfl ⟨by omega,by omega⟩ (by simp),?_⟩
    have h1:=(cycF_len (p:=p) _ (k:=(i:Int)) (m:=(cycO p i).1) (acc:=[]) rfl).2.2
    have h2:=List.count_le_length (a:=false) (l:=(cycO p i).1)
    rw [(cycO_len i).1] at h2
    simp at h1
    omega
end
section
abbrev DCode:=(Int × List Int × List Int) × Int
def z16:List Int:=List.replicate 16 0
def vDC (r:DCode):V:=.tup [vD r.1.1 r.1.2.1 r.1.2.2,.int .i64 r.2]
end
end Go.Proofs.YtbjbpmicnmjbfaaGreat.Sep

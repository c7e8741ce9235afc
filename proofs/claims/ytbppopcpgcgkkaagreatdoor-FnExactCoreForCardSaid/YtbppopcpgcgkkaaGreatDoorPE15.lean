import Derived.Test.YtbppopcpgcgkkaaGreatDoorPE14
/- Forms that are expanded to cores: the steps of the program's way. -/
set_option linter.unusedSectionVars false
set_option linter.unusedSimpArgs false
set_option linter.unusedVariables false
namespace Go.Proofs.YtbppopcpgcgkkaaGreatDoor.E
open Go Go.RowKit
set_option maxRecDepth 100000
section
variable {p:Int→Int}
theorem up_le:∀(n:Nat) (a x:Int),(a+1).toNat≤n→upW p a x=true→x≤a∧0≤x:=by
 intro n
 induction n with
 |zero=>intro a x h hu;rw [upW,if_pos (by omega)] at hu;cases hu
 |succ n ih=>
  intro a x h hu
  rw [upW] at hu
  split at hu
  ·cases hu
  ·split at hu
   ·omega
   ·split at hu
    ·have:=ih (p a) x (by omega) hu;omega
    ·cases hu
theorem up_deep:∀(n:Nat) (a x:Int),(a+1).toNat≤n→upW p a x=true→deepW p x≤deepW p a∧(a≠x→deepW p x<deepW p a):=by
 intro n
 induction n with
 |zero=>intro a x h hu;rw [upW,if_pos (by omega)] at hu;cases hu
 |succ n ih=>
  intro a x h hu
  rw [upW] at hu
  split at hu
  ·cases hu
  ·rename_i h0
   split at hu
   ·rename_i e;subst e;exact ⟨Nat.le_refl _,fun c=>absurd rfl c⟩
   ·split at hu
    ·rename_i hp
     have:=(ih (p a) x (by omega) hu).1
     have e:deepW p a=deepW p (p a)+1:=by conv=>lhs;rw [deepW,if_neg h0,if_pos hp]
     exact ⟨by omega,fun _=>by omega⟩
    ·cases hu
theorem up_two:∀(n:Nat) (a x q:Int),(a+1).toNat≤n→upW p a x=true→upW p a q=true→(x≤q→upW p q x=true)∧(q≤x→upW p x q=true):=by
 intro n
 induction n with
 |zero=>intro a x q h hu;rw [upW,if_pos (by omega)] at hu;cases hu
 |succ n ih=>
  intro a x q h hx hq
  have l1:=up_le _ a x (Nat.le_refl _) hx
  have l2:=up_le _ a q (Nat.le_refl _) hq
  by_cases c1:a=x
  ·subst c1
   refine ⟨fun c=>?_,fun _=>hq⟩
   obtain rfl:a=q:=by omega
   exact hx
  by_cases c2:a=q
  ·subst c2
   refine ⟨fun _=>hx,fun c=>?_⟩
   obtain rfl:a=x:=by omega
   exact hq
  rw [upW] at hx hq
  split at hx
  ·cases hx
  ·rename_i h0
   rw [if_neg h0,if_neg c2] at hq
   split at hx
   ·rename_i hp
    rw [if_pos hp] at hq
    exact ih (p a) x q (by omega) hx hq
   ·cases hx
end
section
variable {ds:List Dat} [L:Lam]
def DLs (ds:List Dat):Prop:=∀i,0<i→i<ds.length→(dat ds (dat ds i).parent.toNat).kind=4∧upW (par ds) ((i:Int) - 1) (dat ds i).parent=true
theorem DLs.of (h:dataF ds=0):DLs ds:=by
 have hz:∀j,j<ds.length→datF ds j=0:=by
  unfold dataF at h
  split at h
  ·intro j hj;exact firstF_zero _ _ h j (Nat.zero_le _) (by omega)
  ·cases h
 intro i h0 hi
 have h:=hz i hi
 unfold datF at h
 split at h
 ·cases h
 split at h
 ·rename_i hk;exact absurd h hk
 rw [if_neg (by omega)] at h
 split at h
 ·cases h
 split at h
 ·cases h
 ·rename_i c
  refine ⟨Classical.byContradiction fun k=>c (.inl k),?_⟩
  cases hu:upW (par ds) ((i:Int) - 1) (dat ds i).parent with
  |true=>rfl
  |false=>exact absurd (.inr hu) c
theorem kids_kind (hl:DLs ds) (hd:DOk ds) {x k:Nat} (hk:k∈kidsD ds x):(dat ds x).kind=4:=by
 obtain ⟨h1,h2⟩:=mem_kidsD.1 hk
 have h3:=hd.kid hk
 have:=(hl k (by omega) h1).1
 rw [h2] at this
 exact this
def subB (ds:List Dat) (x:Nat):Nat→Nat→List Dat
 |0,_=>[]
 |f+1,i=>if (dat ds i).parent<x then [] else {dat ds i with parent:=(dat ds i).parent - x}::subB ds x f (i+1)
theorem subB_eq (hl:DLs ds) (hd:DOk ds) {x:Nat}:∀f i,f=ds.length - i→x<i→upW (par ds) ((i:Int) - 1) x=true→subG ds x f i=subB ds x f i:=by
 intro f
 induction f with
 |zero=>intro i _ _ _;rfl
 |succ f ih=>
  intro i hf hi hu
  have hil:i<ds.length:=by omega
  have h1:=(hl i (by omega) hil).2
  have hp:=hd.par i (by omega) hil
  have e:par ds (i:Int)=(dat ds i).parent:=by unfold par;simp
  have hdi:deepW (par ds) (i:Int)=deepW (par ds) (dat ds i).parent+1:=by
   conv=>lhs;rw [deepW,if_neg (by omega),if_pos (by rw [e];omega),e]
  have ht:=up_two _ _ _ _ (Nat.le_refl _) hu h1
  rw [subG,subB]
  by_cases c:(dat ds i).parent<x
  ·have hu2:=ht.2 (by omega)
   have:=(up_deep _ _ _ (Nat.le_refl _) hu2).2 (by omega)
   rw [if_pos c,if_neg]
   unfold deepN
   omega
  ·have hu2:=ht.1 (by omega)
   have:=(up_deep _ _ _ (Nat.le_refl _) hu2).1
   rw [if_neg c,if_pos ⟨hil,.inr (by unfold deepN;omega)⟩,if_neg (by omega)]
   congr 1
   refine ih (i+1) (by omega) (by omega) ?_
   have:(((i+1:Nat):Int) - 1)=(i:Int):=by omega
   rw [this,upW,if_neg (by omega),if_neg (by omega),if_pos (by rw [e];omega),e]
   exact hu2
theorem subD_eq (hl:DLs ds) (hd:DOk ds) {x:Nat} (hx:x<ds.length):subD ds x={dat ds x with parent:= -1}::subB ds x (ds.length - (x+1)) (x+1):=by
 unfold subD
 obtain ⟨n,hn⟩:∃n,ds.length - x=n+1:=⟨ds.length - x - 1,by omega⟩
 rw [hn,subG,if_pos ⟨hx,.inl rfl⟩,if_pos rfl]
 congr 1
 rw [←subB_eq hl hd _ _ rfl (by omega)]
 ·rw [show ds.length - (x+1)=n by omega]
 ·rw [show (((x+1:Nat):Int) - 1)=(x:Int) by omega,upW,if_neg (by omega),if_pos rfl]
theorem idxS_pos (s:ByteArray):∀(l:List ByteArray) (k:Nat),idxS l s k=match posL l s with|none=> -1|some b=>((b+k:Nat):Int):=by
 intro l
 induction l with
 |nil=>intro k;rfl
 |cons t r ih=>
  intro k
  rw [idxS,posL]
  by_cases c:t=s
  ·rw [if_pos c.symm,if_pos c];simp
  ·rw [if_neg (fun e=>c e.symm),if_neg c,ih]
   cases posL r s with
   |none=>rfl
   |some b=>simp only [Option.map_some];congr 1;omega
theorem lets_eq:∀(l:List Nat) (ns:List ByteArray) (vs:List Nat),letsE ds l ns vs=if ∀k,k∈l→(kidsD ds k).length=2 then (namesE ds (l.map fun k=>(kidsD ds k).getD 0 0) ns).map fun ns'=>(ns',vs++l.map fun k=>(kidsD ds k).getD 1 0) else none:=by
 intro l
 induction l with
 |nil=>intro ns vs;rw [if_pos (fun k hk=>by cases hk)];simp [letsE,namesE]
 |cons k r ih=>
  intro ns vs
  rw [letsE]
  by_cases c:(kidsD ds k).length=2
  ·rw [if_neg (by simpa using c),List.map_cons,List.map_cons,namesE]
   by_cases c2:badP ds ((kidsD ds k).getD 0 0) ns=true
   ·rw [if_pos c2,if_pos c2]
    simp
   ·rw [if_neg c2,if_neg c2,ih]
    by_cases c3:∀j,j∈r→(kidsD ds j).length=2
    ·rw [if_pos c3,if_pos (fun j hj=>by rcases List.mem_cons.1 hj with rfl|hj;exact c;exact c3 j hj)]
     simp
    ·rw [if_neg c3,if_neg (fun h=>c3 fun j hj=>h j (List.mem_cons_of_mem _ hj))]
  ·rw [if_pos (by simpa using c),if_neg (fun h=>c (h k (by simp)))]
end
variable [L:Lam]
variable {σ τ τ':AH} {R:AEnd→AH→Prop}
theorem slc_roAt {sz:Nat} {es:List (List AV)} {k:Nat} (hk:k≤es.length) (hz:∀c,c∈es→c.length=sz):slc sz (.ro es) (some (iv (k:Nat))) none none σ=some (.ro (es.drop k)):=by
 have e1:abd (some (iv (k:Nat))) 0=some k:=abd_nat _ _
 have e2:abd none es.length=some es.length:=rfl
 simp only [slc,e1,e2]
 rw [if_pos ⟨hk,Nat.le_refl _,Nat.le_refl _,by simp,by rw [List.all_eq_true];intro c hc;simpa using hz c hc⟩]
 rw [List.take_length]
section
variable {ds:List Dat} {φm:Nat} {C:List Cor}
theorem c_impl_parts {x:Nat} (hl:ds.length≤1000000) (h:R (.ret (roK (kidsD ds x))) σ):acall TP fn_impl_parts [roD ds,iv (x:Int)] σ R:=by
 refine s_impl_parts_ok ?_
 unfold s_impl_parts
 refine bsl0 ?_
 simp only [len_ro,RR]
 refine lp_rel ds.length (fun i y τ=>∃u,y=(iv (x:Int),u,roD ds,iv (ds.length:Int),iv (i:Int),())∧Buf τ 1 u (innK (kdTo ds i x))∧AH.Sub σ τ∧∀ψ,ψ∈famL u→σ ψ=none) ⟨.emp,rfl,.inl ⟨.inr rfl,rfl⟩,.refl σ,fun ψ c=>by cases c⟩ ?_
 rintro i _ τ hi ⟨u,rfl,hB,hs,hf⟩ R' hR'
 by_cases hlt:i<ds.length
 ·have g:(i:Int)<(ds.length:Int):=by omega
  have l1:∀τ,lod (.rop (encDat (dat ds i)) 1) τ=some (iv (dat ds i).parent):=fun _=>rfl
  simp only [g,idx_ro hlt len_encDat,dat_at hlt,lodA_all (len_encDat _),jn,RR]
  refine new_frz rfl (len_encDat _) rfl (one_encDat _) ?_
  simp only [l1,RR]
  by_cases c:(dat ds i).parent=(x:Int)
  ·simp only [c,RR]
   refine push_row (row:=[iv (i:Int)]) hB rfl (by omega) rfl (fun y hy=>by obtain rfl:=List.mem_singleton.1 hy;rfl) (by have:=kdTo_le ds i x;simp;omega) fun u' τ' hB' hK hfam=>?_
   simp only [ibin_up hlt (by omega),RR]
   refine hR' _ _ _ hlt (.refl _) ⟨u',rfl,?_,hK.sub hs hf,fun ψ hψ=>(hfam ψ hψ).elim (hf ψ) fun d=>hs.none d⟩
   rw [kdTo_succ,if_pos c]
   simpa [innK] using hB'
  ·simp only [c,ibin_up hlt (by omega),RR]
   refine hR' _ _ _ hlt (.refl _) ⟨u,rfl,?_,hs,hf⟩
   rw [kdTo_succ,if_neg c,List.append_nil];exact hB
 ·have g:¬(i:Int)<(ds.length:Int):=by omega
  obtain rfl:i=ds.length:=by omega
  simp only [g,RR]
  exact aret_freeze hs (fz_row hB hf rfl (by intro c hc;obtain ⟨o,_,rfl⟩:=List.mem_map.1 hc;rfl) fun _ _ _ _=> .same _) h
theorem c_impl_sub {x:Nat} (hls:DLs ds) (hd:DOk ds) (hx:x<ds.length) (h:R (.ret (roD (subD ds x))) σ):acall TP fn_impl_sub [roD ds,iv (x:Int)] σ R:=by
 have hl:=hd.len
 refine s_impl_sub_ok ?_
 unfold s_impl_sub
 simp only [idx_ro hx len_encDat,dat_at hx,lodA_all (len_encDat _),RR]
 refine bsl1 (row:=encDat (dat ds x)) rfl (by omega) fun φ hφ=>?_
 have ix:idx 4 (.own φ 0 0 1) (.val (.int .i64 0)) (σ.set φ ⟨0,4,[encDat (dat ds x)]⟩)=some (.ptr φ 0 0 0):=idx_own (i:=0) (AH.set_same ..) (by omega)
 simp only [ix,RR]
 refine sto_fld (es:=[encDat (dat ds x)]) (cs:=encDat (dat ds x)) (AH.set_same ..) rfl (show 1<4 by omega) rfl rfl ?_
 rw [AH.set_set]
 have x1:∀(d:Dat) (a:Int),[encDat d].set 0 ((encDat d).set 1 (iv a))=[encDat {d with parent:=a}]:=fun d a=>rfl
 rw [x1]
 have hs0:AH.Sub σ (σ.set φ ⟨0,4,[encDat {dat ds x with parent:= -1}]⟩):= .set (.refl σ) _ hφ
 refine jn_by (P:=fun z τ=>∃u,z=(u,())∧Buf τ 4 u ((subD ds x).map encDat)∧AH.Sub σ τ∧∀ψ,ψ∈famL u→σ ψ=none) ?_ ?_
 ·rintro z τ ⟨u,rfl,hB,hs,hf⟩
  exact aret_freeze hs (fz_row hB hf rfl (by intro c hc;obtain ⟨o,_,rfl⟩:=List.mem_map.1 hc;rfl) fun _ _ _ _=> .same _) h
 intro k hk
 have ea:ibin .add (iv (x:Int)) (.val (.int .i64 1))=some (iv ((x+1:Nat):Int)):=by rw [ibin_add (by omega) (by omega)];rfl
 have es:slc 4 (roD ds) (some (iv ((x+1:Nat):Int))) none none (σ.set φ ⟨0,4,[encDat {dat ds x with parent:= -1}]⟩)=some (roD (ds.drop (x+1))):=by
  rw [slc_roAt (by simp;omega) (by intro c hc;obtain ⟨o,_,rfl⟩:=List.mem_map.1 hc;rfl),←List.map_drop]
 have el:lenS (roD (ds.drop (x+1)))=some (iv ((ds.length - (x+1):Nat):Int)):=by rw [len_ro];simp
 simp only [ea,es,el,RR]
 refine lp_by (fun n y τ=>∃(j:Nat) (u:AV) (es:List Dat),y=(iv (x:Int),u,roD (ds.drop (x+1)),iv ((ds.length - (x+1):Nat):Int),iv (j:Int),())∧Buf τ 4 u (es.map encDat)∧AH.Sub σ τ∧(∀ψ,ψ∈famL u→σ ψ=none)∧ds.length - (x+1) - j=n∧j≤ds.length - (x+1)∧es.length=j+1∧es++subB ds x (ds.length - (x+1) - j) (x+1+j)=subD ds x) (ds.length - (x+1))
  ⟨0,.own φ 0 0 1,[{dat ds x with parent:= -1}],rfl,.inr ⟨φ,0,rfl,AH.set_same ..⟩,hs0,(fun ψ c=>by obtain rfl:ψ=φ:=(by simpa [famL] using c);exact hφ),rfl,by omega,rfl,by rw [subD_eq hls hd hx];rfl⟩ ?_
 rintro n y τ ⟨j,u,es,rfl,hB,hs,hf,rfl,hj,hes,e⟩ R' hR'
 by_cases hlt:j<ds.length - (x+1)
 ·have g:(j:Int)<((ds.length - (x+1):Nat):Int):=by omega
  have hi:x+1+j<ds.length:=by omega
  have ix2:idx 4 (roD (ds.drop (x+1))) (iv (j:Int)) τ=some (.rop (encDat (dat ds (x+1+j))) 0):=by
   have hjl:j<(ds.drop (x+1)).length:=by simp;omega
   rw [idx_ro hjl len_encDat,List.getElem_drop,dat_at hi]
  obtain ⟨n,hn⟩:∃n,ds.length - (x+1) - j=n+1:=⟨ds.length - (x+1) - j - 1,by omega⟩
  rw [hn,subB] at e
  have hpar: -1≤(dat ds (x+1+j)).parent∧(dat ds (x+1+j)).parent≤80:=by
   have:=hd.par (x+1+j) (by omega) hi;omega
  simp only [g,ix2,lodA_all (len_encDat _),RR]
  intro ψ hψ
  refine sto_own (es:=[[iv 0,iv 0,iv 0,str ⟨#[]⟩]]) (cs:=encDat (dat ds (x+1+j))) (AH.set_same ..) (by simp) rfl rfl rfl (one_encDat _) ?_
  simp only [List.set_cons_zero,AH.set_set]
  have ll:lod (.ptr ψ 0 0 1) (τ.set ψ ⟨0,4,[encDat (dat ds (x+1+j))]⟩)=some (iv (dat ds (x+1+j)).parent):=lod_at (AH.set_same ..) rfl rfl
  have hsψ:AH.Sub τ (τ.set ψ ⟨0,4,[encDat (dat ds (x+1+j))]⟩):= .set (.refl τ) _ hψ
  by_cases c:(dat ds (x+1+j)).parent<x
  ·rw [if_pos c,List.append_nil] at e
   subst e
   simp only [ll,c,RR]
   exact hk _ _ ⟨u,rfl,hB.up fun χ hχ=>AH.set_ne' (by rintro rfl;obtain ⟨F,hF⟩:=hB.live hχ;rw [hψ] at hF;cases hF),hs.trans hsψ,hf⟩
  ·rw [if_neg c] at e
   have es1:ibin .sub (iv (dat ds (x+1+j)).parent) (iv (x:Int))=some (iv ((dat ds (x+1+j)).parent - x)):=ibin_sub (by omega) (by omega)
   simp only [ll,c,es1,RR]
   refine sto_fld (es:=[encDat (dat ds (x+1+j))]) (cs:=encDat (dat ds (x+1+j))) (AH.set_same ..) rfl (show 1<4 by omega) rfl rfl ?_
   rw [AH.set_set,x1]
   refine frz_cell hψ rfl ?_
   simp only [lodA_all (len_encDat _),RR]
   refine push_row (row:=encDat {dat ds (x+1+j) with parent:=(dat ds (x+1+j)).parent - x}) hB rfl (by omega) rfl (one_encDat _) (by simp;omega) fun u' τ3 hB' hK hfam=>?_
   simp only [ibin_up hlt (by omega),RR]
   refine hR' _ _ n τ3 (by omega) (.refl _) ⟨j+1,u',es++[{dat ds (x+1+j) with parent:=(dat ds (x+1+j)).parent - x}],rfl,by simpa using hB',hK.sub hs hf,(fun ψ hψ=>(hfam ψ hψ).elim (hf ψ) fun d=>hs.none d),by omega,hlt,by simp;omega,?_⟩
   rw [show ds.length - (x+1) - (j+1)=n by omega,List.append_assoc]
   exact e
 ·have g:¬(j:Int)<((ds.length - (x+1):Nat):Int):=by omega
  obtain rfl:j=ds.length - (x+1):=by omega
  rw [Nat.sub_self,subB,List.append_nil] at e
  subst e
  simp only [g,RR]
  exact hk _ _ ⟨u,rfl,hB,hs,hf⟩
theorem c_slices_IndexN {u:AV} {l:List ByteArray} {s:ByteArray} (hu:RdN σ u l) (hl:l.length≤1000000) (h:R (.ret (iv (idxS l s 0))) σ):acall TP fn_slices_Index [u,str s] σ R:=by
 refine s_slices_Index_ok ?_
 unfold s_slices_Index
 simp only [hu.len,RR]
 refine lp_by (fun n x τ=>τ=σ∧∃i:Nat,x=(u,str s,iv (l.length:Int),iv (i:Int),())∧l.length - i=n∧i≤l.length∧idxS l s 0=idxS (l.drop i) s i) l.length ⟨rfl,0,rfl,by omega,by omega,by simp⟩ ?_
 rintro n x τ ⟨rfl,i,rfl,rfl,hi,hj⟩ R' hR'
 by_cases hlt:i<l.length
 ·have g:(i:Int)<(l.length:Int):=by omega
  rw [List.drop_eq_getElem_cons hlt,idxS] at hj
  obtain ⟨q,q1,q2⟩:=hu.at_ i hlt
  simp only [g,q1,q2,sbin_eql',RR]
  by_cases c:s=l[i]
  ·rw [if_pos c] at hj
   rw [hj] at h
   have cd:decide (s=l[i])=true:=by simp [c]
   simp only [cd,RR]
   exact ret_here h
  ·rw [if_neg c] at hj
   have cd:decide (s=l[i])=false:=by simp [c]
   simp only [cd,ibin_up hlt (by omega),RR]
   exact hR' _ _ (l.length - (i+1)) τ (by omega) (.refl _) ⟨rfl,i+1,rfl,rfl,hlt,hj⟩
 ·have g:¬(i:Int)<(l.length:Int):=by omega
  obtain rfl:i=l.length:=by omega
  rw [List.drop_length,idxS] at hj
  rw [hj] at h
  simp only [g,RR]
  exact ret_here h
theorem c_slices_ContainsN {u:AV} {l:List ByteArray} {s:ByteArray} (hu:RdN σ u l) (hl:l.length≤1000000) (h:R (.ret (bv (inL l s))) σ):acall TP fn_slices_Contains [u,str s] σ R:=by
 refine s_slices_Contains_ok ?_
 unfold s_slices_Contains
 refine c_slices_IndexN hu hl ?_
 simp only [RR,idxS_in]
 exact ret_here h
def nmsV (o:Option (List ByteArray)):AV:=match o with
 |none=> .tup [roS [],bv false]
 |some ns=> .tup [roS ns,bv true]
structure RdK (τ:AH) (u:AV) (ks:List Nat):Prop where
 len:lenS u=some (iv (ks.length:Int))
 at_:∀j (h:j<ks.length),∃p,idx 1 u (iv (j:Int)) τ=some p∧lod p τ=some (iv (ks[j]:Nat))
theorem RdK.mono {u:AV} {ks:List Nat} (h:RdK τ u ks) (hs:AH.Sub τ τ'):RdK τ' u ks:=⟨h.len,fun j hj=>by
 obtain ⟨p,h1,h2⟩:=h.at_ j hj
 exact ⟨p,idx_mono hs h1,lod_mono hs h2⟩⟩
theorem RdK.ro {ks:List Nat}:RdK τ (roK ks) ks:=⟨lenK,fun j hj=>⟨_,idx_K hj,by rw [lod_1];simp [List.getD,hj]⟩⟩
theorem RdK.buf {u:AV} {ks:List Nat} (h:Buf τ 1 u (innK ks)):RdK τ u ks:=by
 have hb:=h.bfj
 refine ⟨by have:=hb.len;rwa [List.length_map] at this,fun j hj=>?_⟩
 obtain ⟨φt,st,t1,t2⟩:=hb.at (i:=j) (by simpa using hj)
 exact ⟨_,t1,t2 0 (iv (ks[j]:Nat)) (by rw [List.getElem_map];rfl)⟩
theorem c_impl_expander_names {ks:List Nat} {u0:AV} (hu0:RdK τ u0 ks) (e0:lod (.ptr φm 0 0 0) τ=some (roD ds)) (hks:∀k,k∈ks→k<ds.length) (hl:ks.length≤1000) (h:R (.ret (nmsV (namesE ds ks []))) τ):acall TP fn_impl_expander_names [.ptr φm 0 0 0,u0] τ R:=by
 refine s_impl_expander_names_ok ?_
 unfold s_impl_expander_names
 refine bsl0 ?_
 simp only [hu0.len,RR]
 refine lp_by (fun n y τ1=>∃(j:Nat) (u:AV) (ns:List ByteArray),y=(.ptr φm 0 0 0,u,u0,iv (ks.length:Int),iv (j:Int),())∧Buf τ1 1 u (ns.map fun s=>[str s])∧AH.Sub τ τ1∧(∀ψ,ψ∈famL u→τ ψ=none)∧ks.length - j=n∧j≤ks.length∧ns.length=j∧namesE ds (ks.drop j) ns=namesE ds ks []) ks.length
  ⟨0,.emp,[],rfl,emp_buf,.refl _,(fun ψ c=>by cases c),by omega,by omega,rfl,rfl⟩ ?_
 rintro n y τ1 ⟨j,u,ns,rfl,hB,hs,hf,rfl,hj,hnl,e⟩ R' hR'
 by_cases c:j<ks.length
 ·have g:(j:Int)<(ks.length:Int):=by omega
  have ej:ks[j]=ks.getD j 0:=by simp [List.getD,c]
  have hk:=hks _ (getD_mem c)
  rw [List.drop_eq_getElem_cons c,namesE,ej] at e
  obtain ⟨q,q1,q2⟩:=(hu0.mono hs).at_ j c
  rw [ej] at q2
  generalize ks.getD j 0=x at e hk ej q2
  have e1:=lod_mono hs e0
  have l0:∀τ,lod (.rop (encDat (dat ds x)) 0) τ=some (iv (dat ds x).kind):=fun _=>rfl
  have l3:∀τ,lod (.rop (encDat (dat ds x)) 3) τ=some (str (dat ds x).name):=fun _=>rfl
  simp only [g,q1,q2,e1,idx_ro hk len_encDat,dat_at hk,lodA_all (len_encDat _),RR]
  intro φ hφ
  refine sto_own (es:=[[iv 0,iv 0,iv 0,str ⟨#[]⟩]]) (cs:=encDat (dat ds x)) (AH.set_same ..) (by simp) rfl rfl rfl (one_encDat _) ?_
  simp only [List.set_cons_zero,AH.set_set]
  refine jn_by (P:=fun z τ2=>τ2=τ1∧z=(.ptr φm 0 0 0,u,.rop (encDat (dat ds x)) 0,u0,iv (ks.length:Int),iv (j:Int),bv (badP ds x ns),())) ?_ ?_
  ·rintro z τ2 ⟨rfl,rfl⟩
   cases hb:badP ds x ns with
   |true=>
    rw [if_pos hb] at e
    rw [←e] at h
    simp only [RR]
    refine aret_freeze (a':=nmsV none) hs (.tup rfl fun j hj=>?_) h
    match j,hj with
    |0,_=>exact .nil
    |1,_=>exact .same _
   |false=>
    rw [if_neg (by rw [hb];decide)] at e
    simp only [l3,RR]
    refine push_row (row:=[str (dat ds x).name]) hB aft1 (by omega) rfl one_strL (by simp;omega) fun u' τ3 hB' hK hfam=>?_
    simp only [ibin_up c (by omega),RR]
    exact hR' _ _ (ks.length - (j+1)) τ3 (by omega) (.refl _) ⟨j+1,u',ns++[(dat ds x).name],rfl,by simpa using hB',hK.sub hs hf,(fun ψ hψ=>(hfam ψ hψ).elim (hf ψ) fun d=>hs.none d),rfl,c,by simp;omega,e⟩
  ·intro k hk'
   refine frz_cell hφ rfl ?_
   by_cases c3:(dat ds x).kind=3
   ·simp only [l0,l3,c3,RR]
    refine c_impl_IsKeyword ?_
    cases ck:kwB (dat ds x).name with
    |true=>
     simp only [RR]
     exact hk' _ _ ⟨rfl,by simp [badP,ck];rfl⟩
    |false=>
     simp only [RR]
     refine c_slices_ContainsN (RdN.buf hB) (by omega) ?_
     simp only [RR]
     exact hk' _ _ ⟨rfl,by simp [badP,ck,c3];rfl⟩
   ·simp only [l0,c3,RR]
    exact hk' _ _ ⟨rfl,by simp [badP,c3];rfl⟩
 ·have g:¬(j:Int)<(ks.length:Int):=by omega
  obtain rfl:j=ks.length:=by omega
  rw [List.drop_length,namesE] at e
  rw [←e] at h
  simp only [g,RR]
  refine aret_freeze (a':=nmsV (some ns)) hs (.tup rfl fun j hj=>?_) h
  match j,hj with
  |0,_=>exact fz_row hB hf rfl (by intro c hc;obtain ⟨o,_,rfl⟩:=List.mem_map.1 hc;rfl) fun _ _ _ _=> .same _
  |1,_=>exact .same _
abbrev roSc (sc:Sco):AV:= .ro (sc.reverse.map fun ns=>[roS ns])
theorem idx_Sc {sc:Sco} {j:Nat} (h:j<sc.length):idx 1 (roSc sc) (iv ((sc.length - 1 - j:Nat):Int)) τ=some (.rop [roS sc[j]] 0):=by
 have hl:sc.length - 1 - j<sc.reverse.length:=by simp;omega
 have:=idx_ro (σ:=τ) (enc:=fun ns:List ByteArray=>[roS ns]) hl (sz:=1) fun _=>rfl
 rw [this,List.getElem_reverse]
 have e:sc.length - 1 - (sc.length - 1 - j)=j:=by omega
 simp only [e]
theorem findE_drop (s:ByteArray) (sc:Sco) (j:Nat) (h:j<sc.length):findE (sc.drop j) s=match posL sc[j] s with
  |some b=>some (0,b)
  |none=>(findE (sc.drop (j+1)) s).map fun p=>(p.1+1,p.2):=by
 rw [List.drop_eq_getElem_cons h,findE]
 cases posL sc[j] s<;>rfl
theorem c_impl_find {sc:Sco} {s:ByteArray} (hl:sc.length≤1000) (hsm:∀ns,ns∈sc→ns.length≤1000) (h:R (.ret (fndV (findE sc s))) σ):acall TP fn_impl_find [roSc sc,str s] σ R:=by
 refine s_impl_find_ok ?_
 unfold s_impl_find
 have hlen:lenS (roSc sc)=some (iv (sc.length:Int)):=by rw [len_ro];simp
 simp only [hlen,RR]
 refine lp_by (fun n x τ=>τ=σ∧∃j:Nat,x=(roSc sc,str s,iv (sc.length:Int),iv (j:Int),())∧sc.length - j=n∧j≤sc.length∧shF j (findE (sc.drop j) s)=findE sc s) sc.length ⟨rfl,0,rfl,by omega,by omega,by simp only [List.drop_zero];cases findE sc s<;>rfl⟩ ?_
 rintro n x τ ⟨rfl,j,rfl,rfl,hj,e⟩ R' hR'
 by_cases c:j<sc.length
 ·have g:(j:Int)<(sc.length:Int):=by omega
  rw [findE_drop s sc j c] at e
  have s1:ibin .sub (iv (sc.length:Int)) (.val (.int .i64 1))=some (iv ((sc.length:Int) - 1)):=ibin_sub (by omega) (by omega)
  have s2:ibin .sub (iv ((sc.length:Int) - 1)) (iv (j:Int))=some (iv ((sc.length - 1 - j:Nat):Int)):=by rw [ibin_sub (by omega) (by omega)];congr 3;omega
  simp only [g,hlen,s1,s2,idx_Sc c,lod_1,RR]
  refine c_slices_Index (Nat.le_trans (hsm _ (List.getElem_mem c)) (by omega)) ?_
  have ip:=idxS_pos s sc[j] 0
  cases hp:posL sc[j] s with
  |some b=>
   rw [hp] at e ip
   simp only [shF,Option.map_some,Nat.zero_add] at e
   rw [←e] at h
   dsimp only [Nat.add_zero] at ip
   rw [ip]
   have g0:(0:Int)≤(b:Int):=Int.natCast_nonneg b
   simp only [g0,RR]
   exact ret_here h
  |none=>
   rw [hp] at e ip
   dsimp only at e ip
   rw [ip]
   have g0:¬(0:Int)≤ -1:=by omega
   simp only [g0,ibin_up c (by omega),RR]
   refine hR' _ _ (sc.length - (j+1)) τ (by omega) (.refl _) ⟨rfl,j+1,rfl,rfl,c,?_⟩
   rw [←e]
   unfold shF
   rw [Option.map_map]
   congr 1
   funext p
   show (p.1+(j+1),p.2)=(p.1+1+j,p.2)
   congr 1;omega
 ·have g:¬(j:Int)<(sc.length:Int):=by omega
  obtain rfl:j=sc.length:=by omega
  rw [List.drop_length] at e
  simp only [findE,shF,Option.map_none] at e
  rw [←e] at h
  simp only [g,RR]
  exact ret_here h
theorem sl_scope:isSl TT ty_LLs=true:=by kernel_rfl
theorem c_impl_inner {sc:Sco} {ns:List ByteArray} (hl:sc.length≤1000) (h:R (.ret (roSc (ns::sc))) σ):acall TP fn_impl_inner [roSc sc,roS ns] σ R:=by
 refine s_impl_inner_ok ?_
 unfold s_impl_inner
 have rest:∀u τ,Buf τ 1 u (sc.reverse.map fun ns=>[roS ns])→AH.Sub σ τ→(∀ψ,ψ∈famL u→σ ψ=none)→bsl 1 [(.val (.slice none 0 0))] 1 [(0,roS ns)] τ fun v8 τ=>E.app 1 u v8 τ fun v9 τ=>aret v9 τ R:=fun u τ hB hs hf=>by
  refine push_row (row:=[roS ns]) hB rfl (by omega) rfl (fun y hy=>by obtain rfl:=List.mem_singleton.1 hy;rfl) (by simp;omega) fun u' τ' hB' hK hfam=>?_
  refine aret_freeze (hK.sub hs hf) (fz_row hB' (fun ψ hψ=>(hfam ψ hψ).elim (hf ψ) fun d=>hs.none d) rfl (by intro c hc;rcases List.mem_append.1 hc with hc|hc;(obtain ⟨o,_,rfl⟩:=List.mem_map.1 hc;rfl);(obtain rfl:=List.mem_singleton.1 hc;rfl)) fun _ _ _ _=> .same _) ?_
  have e:(sc.reverse.map fun ns=>[roS ns])++[[roS ns]]=((ns::sc).reverse.map fun ns=>[roS ns]):=by simp
  rw [e];exact h
 refine s_slices_Clone_180_ok ?_
 unfold s_slices_Clone_180
 refine eql_ro sl_scope fun b hb=>?_
 cases b with
 |true=>
  have e:sc=[]:=by
   refine Classical.byContradiction fun c=>?_
   have:=hb (by simpa using c)
   cases this
  subst e
  simp only [RR]
  refine ret_here ?_
  simp only [RR]
  exact rest _ σ (.inl ⟨.inl rfl,rfl⟩) (.refl σ) fun ψ c=>by cases c
 |false=>
  simp only [RR]
  refine bsl0 ?_
  refine buf_app (es:=[]) (.inl ⟨.inr rfl,rfl⟩) (xs:=sc.reverse.map fun ns=>[roS ns]) rfl (by intro c hc;obtain ⟨x,_,rfl⟩:=List.mem_map.1 hc;rfl) (by intro c hc y hy;obtain ⟨x,_,rfl⟩:=List.mem_map.1 hc;obtain rfl:=List.mem_singleton.1 hy;rfl) (by simp;omega) fun a τ' h1 h2 h3=>?_
  refine ret_here ?_
  simp only [RR]
  exact rest a τ' (by simpa using h1) (h2.sub (.refl σ) fun ψ c=>by cases c) fun ψ hψ=>(h3 ψ hψ).elim (fun c=>by cases c) id
def fdQ (ds:List Dat) (C:List Cor):List Fd:=[.fix (roD ds),.lst 6 (C.map encCor)]
theorem c_impl_expander_put {c:Cor} (h:MSt σ τ φm (fdQ ds C)) (hn:C.length≤1000) (h1:∀τ',MSt σ τ' φm (fdQ ds (C++[c]))→R (.ret (iv (C.length:Int))) τ'):acall TP fn_impl_expander_put [.ptr φm 0 0 0,.agg (encCor c)] τ R:=by
 refine s_impl_expander_put_ok ?_
 unfold s_impl_expander_put
 refine box_frz rfl ?_
 obtain ⟨v,e1,b1⟩:=h.lst (i:=1) rfl
 simp only [e1,lodA_all (len_encCor _),RR]
 rw [lit1 (sz:=6) (row:=encCor c) rfl rfl (by omega)]
 simp only [RR]
 refine h.app (i:=1) rfl e1 (row:=encCor c) rfl rfl (one_encCor _) (by simp;omega) fun v' τ1 k1=>?_
 simp only [RR,true_and]
 refine k1 _ fun τ2 S2=>?_
 have ef:(fdQ ds C).set 1 (.lst 6 (C.map encCor++[encCor c]))=fdQ ds (C++[c]):=by simp [fdQ]
 rw [ef] at S2
 obtain ⟨v2,e2,b2⟩:=S2.lst (i:=1) rfl
 have l2:=bfj_len b2
 have hl:(C++[c]).length=C.length+1:=by simp
 have es:ibin .sub (iv (((C++[c]).length:Nat):Int)) (.val (.int .i64 1))=some (iv (C.length:Int)):=by
  rw [sub_one (by omega) (by omega),hl];rfl
 simp only [e2,l2,es,RR,true_and]
 exact ret_here (h1 τ2 S2)
end
end Go.Proofs.YtbppopcpgcgkkaaGreatDoor.E
/- Data and cores as texts: the program's way. -/
namespace Go.Proofs.YtbppopcpgcgkkaaGreatDoor.E
open Go Go.RowKit
set_option maxRecDepth 100000
variable [L:Lam]
variable {σ τ τ':AH} {R:AEnd→AH→Prop}
theorem ro_strs {κ:Kap} {w:World} {xs:List ByteArray} {v:Value} (hr:Rel κ σ w) (hv:VR κ (roS xs) v):(∃b off cap,v= .slice (some ⟨b,off,none⟩) xs.length cap∧xs.length≤cap∧∀(j:Nat) x,xs[j]? =some x→w.cell? ⟨b,off+j,none⟩=some (.string x))∨(xs=[]∧∃a,v= .slice a 0 0):=by
 generalize ha:roS xs=a at hv
 cases hv with
 |roEnd a0=>
  have:xs.map (fun s=>[str s])=[]:=by injection ha
  exact .inr ⟨by simpa using this,a0,rfl⟩
 |@ro es b off cap sz vals hc hz hm hv=>
  have he:xs.map (fun s=>[str s])=es:=by injection ha
  subst he
  left
  refine ⟨b,off,cap,by simp,by simpa using hc,fun j x hx=>?_⟩
  have hj:j<xs.length:=(List.getElem?_eq_some_iff.1 hx).1
  have hj':j<(xs.map fun s=>[str s]).length:=by simpa using hj
  have hg:(xs.map fun s=>[str s]).getD j []=[str x]:=by
   simp [List.getD,hx]
  have hs:sz=1:=by have:=hz j hj';rw [hg] at this;exact this.symm
  subst hs
  have h1:=hm j 0 hj' (by omega)
  have h2:=hv j 0 hj' (by omega)
  rw [hg] at h2
  have e:vals j 0= .string x:=by
   have h3:VR κ (str x) (vals j 0):=h2
   generalize vals j 0=y at h3
   cases h3;rfl
  rw [e] at h1
  have:=hr.mem _ _ _ h1
  rwa [show off+j*1+0=off+j by omega] at this
 |_=>cases ha
theorem c_strings_Join {xs:List ByteArray} (hl:xs.length≤1000000) (hj:(Lib.join (xs.map by8) [32]).length≤1000000000) (h:R (.ret (str (bs (Lib.join (xs.map by8) [32])))) σ):acall TP fn_strings_Join [roS xs,str ⟨#[32]⟩] σ R:=by
 refine ⟨_,Tryz.func54,rfl,by decide,fun κ w vs hr hv=>?_⟩
 obtain ⟨v,z,rfl⟩:∃v z,vs=[v,z]:=by
  have:=hv.1
  match vs,this with
  |[a,b],_=>exact ⟨a,b,rfl⟩
 have e2:z= .string ⟨#[32]⟩:=by have h:VR κ (str ⟨#[32]⟩) z:=hv.2 1 (by simp);cases h;rfl
 subst e2
 have hx:VR κ (roS xs) v:=hv.2 0 (by simp)
 have eb:Lib.join (xs.map (·.data.toList)) (⟨#[32]⟩:ByteArray).data.toList=Lib.join (xs.map by8) [32]:=rfl
 rcases ro_strs hr hx with ⟨b,off,cap,rfl,hc,hm⟩|⟨rfl,a,rfl⟩
 ·by_cases hn:xs=[]
  ·subst hn
   refine (sh_strings_Join_none _ cap ⟨#[32]⟩ w).mono ?_
   rintro e w' ⟨rfl,rfl⟩
   exact ⟨κ,_,σ,h,.below hr (.refl _ _),.val _⟩
  ·have hp:0<xs.length:=List.length_pos_iff.2 hn
   have h0:=hm 0 xs[0] (List.getElem?_eq_getElem hp)
   refine (sh_strings_Join b off cap xs ⟨#[32]⟩ w hm (World.block_lt_of_cell? (h:=h0)) (by omega) hc (by rw [eb];omega)).mono ?_
   rintro e w' ⟨rfl,hw⟩
   exact ⟨κ,_,σ,h,.below hr hw,.val _⟩
 ·refine (sh_strings_Join_none a 0 ⟨#[32]⟩ w).mono ?_
  rintro e w' ⟨rfl,rfl⟩
  exact ⟨κ,_,σ,h,.below hr (.refl _ _),.val _⟩
theorem c_impl_boolText {n:Int} (h:R (.ret (str (bs (boolT n)))) σ):acall TP fn_impl_boolText [iv n] σ R:=by
 refine s_impl_boolText_ok ?_
 unfold s_impl_boolText
 unfold boolT at h
 by_cases c:n=1
 ·rw [if_pos c] at h
  simp only [c,RR]
  exact ret_here h
 ·rw [if_neg c] at h
  simp only [c,RR]
  exact ret_here h
theorem cat1 {a b:List UInt8} (h:a.length+b.length≤1000000000):sbin .add (str (bs a)) (str (bs b))=some (str (bs (a++b))):=by
 have:=sbin_add (bs a) (bs b) (by rw [size_bs,size_bs];omega)
 rw [bs_append] at this
 exact this
def ctxt (cs:List Cor):Int × List UInt8:=if coresF cs≠0 then (coresF cs,[]) else if 1500<(textC cs cs.length 0).length then (2,[]) else (0,textC cs cs.length 0)
theorem bldTx (c:Int) (u:ByteArray):bld [iv 0,str ⟨#[]⟩] [(0,1),(1,1)] [(0,iv c)]=some (.agg [iv c,str ⟨#[]⟩])∧bld [iv 0,str ⟨#[]⟩] [(0,1),(1,1)] [(1,str u)]=some (.agg [iv 0,str u]):=⟨rfl,rfl⟩
variable [K:Knows QS]
theorem c_impl_dec {n:Int} (h0: -9223372036854775808≤n) (h1:n≤9223372036854775807) (h:R (.ret (str (bs (Lib.itoa n)))) σ):acall TP fn_impl_dec [iv n] σ R:=by
 refine ⟨_,Tryz.func53,rfl,by decide,fun κ w vs hr hv=>?_⟩
 obtain ⟨v,rfl⟩:∃v,vs=[v]:=by
  have:=hv.1
  match vs,this with
  |[a],_=>exact ⟨a,rfl⟩
 have e1:v= .int .i64 n:=by have h:VR κ (iv n) v:=hv.2 0 (by simp);cases h;rfl
 subst e1
 refine (w_dec n h0 h1 w (QS_at hr).1.tab).mono ?_
 rintro e w' ⟨rfl,hw⟩
 exact ⟨κ,_,σ,h,.below hr hw,.val _⟩
theorem map_by8 (l:List (List UInt8)):(l.map bs).map by8=l:=by
 rw [List.map_map]
 conv=>rhs;rw [←List.map_id l]
 exact List.map_congr_left fun x _=>by8_bs x
theorem join_end {u:AV} {ws:List (List UInt8)} (hB:Buf τ 1 u ((ws.map bs).map fun s=>[str s])) (hs:AH.Sub σ τ) (hf:∀ψ,ψ∈famL u→σ ψ=none) (hl:ws.length≤1000000) (hj:(Lib.join ws [32]).length≤900000000) (h:R (.ret (str (bs (40::(Lib.join ws [32]++[41]))))) σ):
   acall TP fn_strings_Join [u,.val (.string ⟨#[32]⟩)] τ (onr (fun v46 σ=>
           og (sbin .add (.val (.string ⟨#[40]⟩)) v46) fun v47=>
           og (sbin .add v47 (.val (.string ⟨#[41]⟩))) fun v48=>
           aret v48 σ R) (fun v σ=>apan v σ R)):=by
 refine acall_frz (args':=[roS (ws.map bs),str ⟨#[32]⟩]) hs rfl (fun i hi=>?_) ?_
 · match i,hi with
   |0,_=>exact fz_row hB hf rfl (by intro c hc;obtain ⟨o,_,rfl⟩:=List.mem_map.1 hc;rfl) fun _ _ _ _=> .same _
   |1,_=>exact .same _
 refine c_strings_Join (by simpa using hl) (by rw [map_by8];omega) ?_
 rw [map_by8]
 have a1:=cat1 (a:=[40]) (b:=Lib.join ws [32]) (by simp;omega)
 have a2:=cat1 (a:=[40]++Lib.join ws [32]) (b:=[41]) (by simp;omega)
 change sbin .add (.val (.string ⟨#[40]⟩)) _=_ at a1
 change sbin .add _ (.val (.string ⟨#[41]⟩))=_ at a2
 simp only [a1,a2,RR]
 exact ret_here h
section
variable {ds:List Dat}
theorem c_impl_written (hd:DOk ds) (ht:DTx ds):∀f x,x<ds.length→ds.length≤f+x→∀{σ:AH} {R:AEnd→AH→Prop},R (.ret (str (bs (writeD ds f x)))) σ→acall TP fn_impl_written [roD ds,iv (x:Int)] σ R:=by
 intro f
 induction f with
 |zero=>intro x hx hf;omega
 |succ f ih=>
  intro x hx hfx σ R h
  have hdl:=hd.len
  have l0:∀τ,lod (.rop (encDat (dat ds x)) 0) τ=some (iv (dat ds x).kind):=fun _=>rfl
  have l2:∀τ,lod (.rop (encDat (dat ds x)) 2) τ=some (iv (dat ds x).num):=fun _=>rfl
  have l3:∀τ,lod (.rop (encDat (dat ds x)) 3) τ=some (str (dat ds x).name):=fun _=>rfl
  have hsm:=writeD_sm hd ht (f+1) x hx
  obtain ⟨t1,t2,t3⟩:=ht x hx
  refine s_impl_written_ok ?_
  unfold s_impl_written
  simp only [idx_ro hx len_encDat,dat_at hx,lodA_all (len_encDat _),RR]
  refine new_frz rfl (len_encDat _) rfl (one_encDat _) ?_
  rw [writeD] at h hsm
  by_cases c1:(dat ds x).kind=1
  ·rw [if_pos c1] at h
   simp only [l0,c1,l2,RR]
   have:=t1 c1
   refine c_impl_dec (by omega) (by omega) ?_
   simp only [RR]
   exact ret_here h
  rw [if_neg c1] at h hsm
  by_cases c2:(dat ds x).kind=2
  ·rw [if_pos c2] at h
   have d1:¬(2:Int)=1:=by decide
   simp only [l0,c2,d1,l2,RR]
   refine c_impl_boolText ?_
   simp only [RR]
   exact ret_here h
  rw [if_neg c2] at h hsm
  by_cases c3:(dat ds x).kind=3
  ·rw [if_pos c3,bs_by8] at h
   have d1:¬(3:Int)=1:=by decide
   have d2:¬(3:Int)=2:=by decide
   simp only [l0,c3,d1,d2,l3,RR]
   exact ret_here h
  rw [if_neg c3] at h hsm
  simp only [l0,c1,c2,c3,RR]
  refine bsl0 ?_
  refine c_impl_parts (by omega) ?_
  simp only [lenK,RR]
  have hks:∀k,k∈kidsD ds x→k<ds.length∧ds.length≤f+k:=fun k hk=>by have:=hd.kid hk;omega
  have hkl:=kids_len (ds:=ds) x
  generalize kidsD ds x=ks at h hsm hks hkl ⊢
  refine lp_by (fun n y τ=>∃(j:Nat) (u:AV),y=(roD ds,u,roK ks,iv (ks.length:Int),iv (j:Int),())∧Buf τ 1 u ((((ks.take j).map (writeD ds f)).map bs).map fun s=>[str s])∧AH.Sub σ τ∧(∀ψ,ψ∈famL u→σ ψ=none)∧ks.length - j=n∧j≤ks.length) ks.length ⟨0,.emp,rfl,emp_buf,.refl σ,(fun ψ c=>by cases c),rfl,by omega⟩ ?_
  rintro n y τ ⟨j,u,rfl,hB,hs,hf,rfl,hj⟩ R' hR'
  by_cases c:j<ks.length
  ·have g:(j:Int)<(ks.length:Int):=by omega
   have hm:=hks _ (getD_mem c)
   simp only [g,idx_K c,lod_1,RR]
   refine ih _ hm.1 hm.2 ?_
   simp only [RR]
   refine push_row (row:=[str (bs (writeD ds f (ks.getD j 0)))]) hB aft1 (by omega) rfl one_strL (by simp;omega) fun u' τ' hB' hK hfam=>?_
   simp only [ibin_up c (by omega),RR]
   refine hR' _ _ (ks.length - (j+1)) τ' (by omega) (.refl _) ⟨j+1,u',rfl,?_,hK.sub hs hf,(fun ψ hψ=>(hfam ψ hψ).elim (hf ψ) fun d=>hs.none d),rfl,c⟩
   rw [getD_len _ c]
   simpa using hB'
  ·have g:¬(j:Int)<(ks.length:Int):=by omega
   obtain rfl:j=ks.length:=by omega
   rw [List.take_length] at hB
   simp only [g,RR]
   refine join_end hB hs hf (by simp;omega) ?_ h
   simp only [List.length_cons,List.length_append,List.length_nil] at hsm
   omega
end
section
variable {cs:List Cor}
theorem c_impl_coreText (hw:WfC cs) (ht:CTx cs):∀f x,x<cs.length→cs.length≤f+x→∀{σ:AH} {R:AEnd→AH→Prop},R (.ret (str (bs (textC cs f x)))) σ→acall TP fn_impl_coreText [roC cs,roKK cs,iv (x:Int)] σ R:=by
 intro f
 induction f with
 |zero=>intro x hx hf;omega
 |succ f ih=>
  intro x hx hfx σ R h
  have hwl:=hw.len
  have l0:∀τ,lod (.rop (encCor (corAt cs x)) 0) τ=some (iv (corAt cs x).kind):=fun _=>rfl
  have l2:∀τ,lod (.rop (encCor (corAt cs x)) 2) τ=some (iv (corAt cs x).a):=fun _=>rfl
  have l3:∀τ,lod (.rop (encCor (corAt cs x)) 3) τ=some (iv (corAt cs x).b):=fun _=>rfl
  have l4:∀τ,lod (.rop (encCor (corAt cs x)) 4) τ=some (str (corAt cs x).name):=fun _=>rfl
  have l5:∀τ,lod (.rop (encCor (corAt cs x)) 5) τ=some (roD (corAt cs x).data):=fun _=>rfl
  have hsm:=textC_sm hw ht (f+1) x hx
  refine s_impl_coreText_ok ?_
  unfold s_impl_coreText
  simp only [idx_ro hx len_encCor,corAt_eq hx,lodA_all (len_encCor _),RR]
  refine bsl0 ?_
  intro φ hφ
  refine sto_own (es:=[[iv 0,iv 0,iv 0,iv 0,str ⟨#[]⟩,nilS]]) (cs:=encCor (corAt cs x)) (AH.set_same ..) (by simp) rfl rfl rfl (one_encCor _) ?_
  simp only [List.set_cons_zero,AH.set_set]
  refine jn_by (P:=fun z τ=>∃u,z=(roC cs,roKK cs,iv (x:Int),u,())∧Buf τ 1 u (((headW (corAt cs x)).map bs).map fun s=>[str s])∧AH.Sub σ τ∧(∀ψ,ψ∈famL u→σ ψ=none)∧R (.ret (str (bs (40::(Lib.join (headW (corAt cs x)++(kidsC cs x).map (textC cs f)) [32]++[41]))))) σ∧(40::(Lib.join (headW (corAt cs x)++(kidsC cs x).map (textC cs f)) [32]++[41])).length≤640000) ?_ ?_
  ·rintro z τ ⟨u,rfl,hB,hs,hf,h,hsm⟩
   have hks:∀k,k∈kidsC cs x→k<cs.length∧cs.length≤f+k:=fun k hk=>by have:=hw.kid hk;omega
   have hkl:(kidsC cs x).length≤cs.length:=by unfold kidsC;exact Nat.le_trans (List.length_filter_le _ _) (by simp)
   have hhl:(headW (corAt cs x)).length≤2:=by
    by_cases c4:(corAt cs x).kind=4<;>by_cases c5:(corAt cs x).kind=5<;>by_cases c6:(corAt cs x).kind=6<;>by_cases c7:(corAt cs x).kind=7<;>by_cases c8:(corAt cs x).kind=8<;>simp [headW,c4,c5,c6,c7,c8]
   simp only [idx_KK hx,lod_1,lenK,RR]
   generalize kidsC cs x=ks at h hsm hks hkl ⊢
   generalize headW (corAt cs x)=hd at h hsm hB hhl ⊢
   refine lp_by (fun n y τ=>∃(j:Nat) (u:AV),y=(roC cs,roKK cs,u,roK ks,iv (ks.length:Int),iv (j:Int),())∧Buf τ 1 u (((hd++(ks.take j).map (textC cs f)).map bs).map fun s=>[str s])∧AH.Sub σ τ∧(∀ψ,ψ∈famL u→σ ψ=none)∧ks.length - j=n∧j≤ks.length) ks.length ⟨0,u,rfl,by simpa using hB,hs,hf,rfl,by omega⟩ ?_
   rintro n y τ ⟨j,u,rfl,hB,hs,hf,rfl,hj⟩ R' hR'
   by_cases c:j<ks.length
   ·have g:(j:Int)<(ks.length:Int):=by omega
    have hm:=hks _ (getD_mem c)
    simp only [g,idx_K c,lod_1,RR]
    refine ih _ hm.1 hm.2 ?_
    simp only [RR]
    refine push_row (row:=[str (bs (textC cs f (ks.getD j 0)))]) hB aft1 (by omega) rfl one_strL (by simp;omega) fun u' τ' hB' hK hfam=>?_
    simp only [ibin_up c (by omega),RR]
    refine hR' _ _ (ks.length - (j+1)) τ' (by omega) (.refl _) ⟨j+1,u',rfl,?_,hK.sub hs hf,(fun ψ hψ=>(hfam ψ hψ).elim (hf ψ) fun d=>hs.none d),rfl,c⟩
    rw [getD_len _ c]
    simpa using hB'
   ·have g:¬(j:Int)<(ks.length:Int):=by omega
    obtain rfl:j=ks.length:=by omega
    rw [List.take_length] at hB
    simp only [g,RR]
    refine join_end hB hs hf (by simp;omega) ?_ h
    simp only [List.length_cons,List.length_append,List.length_nil] at hsm
    omega
  ·intro k hk
   refine frz_cell hφ rfl ?_
   rw [textC] at h hsm
   have one:∀(a:List UInt8),headW (corAt cs x)=[a]→R (.ret (str (bs (40::(Lib.join (headW (corAt cs x)++(kidsC cs x).map (textC cs f)) [32]++[41]))))) σ→(40::(Lib.join (headW (corAt cs x)++(kidsC cs x).map (textC cs f)) [32]++[41])).length≤640000→
     bsl 1 [(.val (.string ⟨#[]⟩))] 1 [(0,str (bs a))] σ fun v45 σ=>E.app 1 .emp v45 σ fun v46 σ=>k (roC cs,roKK cs,iv (x:Int),v46,()) σ:=fun a ha h hsm=>by
    refine push_row (row:=[str (bs a)]) emp_buf aft1 (by omega) rfl one_strL (by simp) fun u' τ' hB' hK hfam=>?_
    exact hk _ _ ⟨u',rfl,by rw [ha];exact hB',hK.sub (.refl σ) (fun ψ c=>by cases c),(fun ψ hψ=>(hfam ψ hψ).elim (fun c=>by cases c) id),h,hsm⟩
   have two:∀(a b:List UInt8),headW (corAt cs x)=[a,b]→R (.ret (str (bs (40::(Lib.join (headW (corAt cs x)++(kidsC cs x).map (textC cs f)) [32]++[41]))))) σ→(40::(Lib.join (headW (corAt cs x)++(kidsC cs x).map (textC cs f)) [32]++[41])).length≤640000→
     bsl 1 [(.val (.string ⟨#[]⟩))] 2 [(0,str (bs a)),(1,str (bs b))] σ fun v45 σ=>E.app 1 .emp v45 σ fun v46 σ=>k (roC cs,roKK cs,iv (x:Int),v46,()) σ:=fun a b ha h hsm=>by
    refine bsl_new (es:=[[str (bs a)],[str (bs b)]]) rfl (by omega) (by omega) fun ψ hψ=>?_
    refine buf_app (es:=[]) emp_buf (xs:=[[str (bs a)],[str (bs b)]]) (by simp [aelems,AH.set_same]) (by intro c hc;simp only [List.mem_cons,List.not_mem_nil,or_false] at hc;rcases hc with rfl|rfl<;>rfl) (by intro c hc y hy;simp only [List.mem_cons,List.not_mem_nil,or_false] at hc;rcases hc with rfl|rfl<;>(obtain rfl:=List.mem_singleton.1 hy;rfl)) (by simp) fun u' τ' hB' hK hfam=>?_
    have hs0:AH.Sub σ (σ.set ψ ⟨0,1,[[str (bs a)],[str (bs b)]]⟩):= .set (.refl σ) _ hψ
    exact hk _ _ ⟨u',rfl,by rw [ha];exact hB',hK.sub hs0 (fun ψ c=>by cases c),(fun χ hχ=>(hfam χ hχ).elim (fun c=>by cases c) fun d=>hs0.none d),h,hsm⟩
   by_cases c1:(corAt cs x).kind=1
   ·rw [if_pos c1] at h hsm
    have hd:=ht.data x hx c1
    have hdl:=(DOk.of hd).len
    simp only [l0,c1,l5,RR]
    refine c_impl_written (DOk.of hd) (DTx.of hd) (corAt cs x).data.length 0 (by omega) (by omega) ?_
    have a1:=cat1 (a:=[39]) (b:=writeD (corAt cs x).data (corAt cs x).data.length 0) (by simp only [List.length_cons,List.length_nil] at hsm ⊢;omega)
    change sbin .add (.val (.string ⟨#[39]⟩)) _=_ at a1
    simp only [a1,RR]
    exact ret_here h
   rw [if_neg c1] at h hsm
   by_cases c2:(corAt cs x).kind=2
   ·rw [if_pos c2] at h
    have hl:=ht.loc x hx c2
    have i1:=itoa_len (v:=(corAt cs x).a) (by omega) (by omega)
    have i2:=itoa_len (v:=(corAt cs x).b) (by omega) (by omega)
    have d1:¬(2:Int)=1:=by decide
    simp only [l0,c2,d1,l2,l3,RR]
    refine c_impl_dec (by omega) (by omega) ?_
    have a1:=cat1 (a:=[37]) (b:=Lib.itoa (corAt cs x).a) (by simp;omega)
    have a2:=cat1 (a:=[37]++Lib.itoa (corAt cs x).a) (b:=[46]) (by simp;omega)
    have a3:=cat1 (a:=[37]++Lib.itoa (corAt cs x).a++[46]) (b:=Lib.itoa (corAt cs x).b) (by simp;omega)
    change sbin .add (.val (.string ⟨#[37]⟩)) _=_ at a1
    change sbin .add _ (.val (.string ⟨#[46]⟩))=_ at a2
    simp only [a1,a2,l3,RR,true_and,and_true]
    refine c_impl_dec (by omega) (by omega) ?_
    simp only [a3,RR,true_and]
    have e:[37]++Lib.itoa (corAt cs x).a++[46]++Lib.itoa (corAt cs x).b=37::(Lib.itoa (corAt cs x).a++46::Lib.itoa (corAt cs x).b):=by simp
    rw [e]
    exact ret_here h
   rw [if_neg c2] at h hsm
   by_cases c3:(corAt cs x).kind=3
   ·rw [if_pos c3,bs_by8] at h
    have d1:¬(3:Int)=1:=by decide
    have d2:¬(3:Int)=2:=by decide
    simp only [l0,c3,d1,d2,l4,RR]
    exact ret_here h
   rw [if_neg c3] at h hsm
   by_cases c4:(corAt cs x).kind=4
   ·have d1:¬(4:Int)=1:=by decide
    have d2:¬(4:Int)=2:=by decide
    have d3:¬(4:Int)=3:=by decide
    simp only [l0,c4,d1,d2,d3,RR]
    exact one [105,102] (by unfold headW;rw [if_pos c4]) h hsm
   by_cases c5:(corAt cs x).kind=5
   ·have d1:¬(5:Int)=1:=by decide
    have d2:¬(5:Int)=2:=by decide
    have d3:¬(5:Int)=3:=by decide
    have d4:¬(5:Int)=4:=by decide
    have hl:=ht.lam x hx c5
    simp only [l0,c5,d1,d2,d3,d4,l2,RR]
    refine c_impl_dec (by omega) (by omega) ?_
    simp only [RR]
    exact two [102,110] _ (by unfold headW;rw [if_neg c4,if_pos c5]) h hsm
   by_cases c6:(corAt cs x).kind=6
   ·have d1:¬(6:Int)=1:=by decide
    have d2:¬(6:Int)=2:=by decide
    have d3:¬(6:Int)=3:=by decide
    have d4:¬(6:Int)=4:=by decide
    have d5:¬(6:Int)=5:=by decide
    simp only [l0,c6,d1,d2,d3,d4,d5,RR]
    exact one [115,101,113] (by unfold headW;rw [if_neg c4,if_neg c5,if_pos c6]) h hsm
   by_cases c7:(corAt cs x).kind=7
   ·have d1:¬(7:Int)=1:=by decide
    have d2:¬(7:Int)=2:=by decide
    have d3:¬(7:Int)=3:=by decide
    have d4:¬(7:Int)=4:=by decide
    have d5:¬(7:Int)=5:=by decide
    have d6:¬(7:Int)=6:=by decide
    simp only [l0,c7,d1,d2,d3,d4,d5,d6,l4,RR]
    have:=two [115,101,116] (by8 (corAt cs x).name) (by unfold headW;rw [if_neg c4,if_neg c5,if_neg c6,if_pos c7]) h hsm
    rw [bs_by8] at this
    exact this
   by_cases c8:(corAt cs x).kind=8
   ·have d1:¬(8:Int)=1:=by decide
    have d2:¬(8:Int)=2:=by decide
    have d3:¬(8:Int)=3:=by decide
    have d4:¬(8:Int)=4:=by decide
    have d5:¬(8:Int)=5:=by decide
    have d6:¬(8:Int)=6:=by decide
    have d7:¬(8:Int)=7:=by decide
    simp only [l0,c8,d1,d2,d3,d4,d5,d6,d7,l4,RR]
    have:=two [100,101,102] (by8 (corAt cs x).name) (by unfold headW;rw [if_neg c4,if_neg c5,if_neg c6,if_neg c7,if_pos c8]) h hsm
    rw [bs_by8] at this
    exact this
   simp only [l0,c1,c2,c3,c4,c5,c6,c7,c8,RR]
   exact one [97,112,112] (by unfold headW;rw [if_neg c4,if_neg c5,if_neg c6,if_neg c7,if_neg c8]) h hsm
end
theorem c_impl_CoreText {cs:List Cor} (ha:aOk cs) (hbig:cs.length≤9223372036854775807) (h:R (.ret (.agg [iv (ctxt cs).1,str (bs (ctxt cs).2)])) σ):acall TP fn_impl_CoreText [roC cs] σ R:=by
 refine s_impl_CoreText_ok ?_
 unfold s_impl_CoreText
 intro φ hφ
 refine c_impl_CoreFault ha hbig ?_
 unfold ctxt at h
 simp only [RR]
 by_cases c0:coresF cs=0
 ·rw [if_neg (by simpa using c0)] at h
  obtain ⟨hw,_⟩:=coresF_wf c0
  have ht:=CTx.of c0
  have hwl:=hw.len
  simp only [c0,RR]
  refine c_impl_kids (by omega) (fun i hi=>?_) ?_
  ·rcases Nat.eq_zero_or_pos i with c|c
   ·subst c;rw [hw.top];omega
   ·have:=hw.par i c hi;omega
  simp only [RR]
  refine c_impl_coreText hw ht cs.length 0 (by omega) (by omega) ?_
  simp only [size_bs,RR]
  by_cases c:1500<(textC cs cs.length 0).length
  ·rw [if_pos c] at h
   have g:(1500:Int)<((textC cs cs.length 0).length:Int):=by omega
   simp only [g,(bldTx 2 ⟨#[]⟩).1,RR]
   exact fin_cell hφ rfl rfl (one2 rfl rfl) h
  ·rw [if_neg c] at h
   have g:¬(1500:Int)<((textC cs cs.length 0).length:Int):=by omega
   simp only [g,(bldTx 0 (bs (textC cs cs.length 0))).2,RR]
   exact fin_cell hφ rfl rfl (one2 rfl rfl) h
 ·rw [if_pos c0] at h
  simp only [c0,(bldTx (coresF cs) ⟨#[]⟩).1,RR]
  exact fin_cell hφ rfl rfl (one2 rfl rfl) h
end Go.Proofs.YtbppopcpgcgkkaaGreatDoor.E
/- Data and cores of a text: names are short. No program in sight. -/
namespace Go.Proofs.YtbppopcpgcgkkaaGreatDoor.E
open Go Go.RowKit
variable [L:Lam]
abbrev sDn (ds:List Dat):Prop:=∀d,d∈ds→d.name.size≤1048576
def okCn (c:Cor):Prop:=c.name.size≤1048576∧sDn c.data
abbrev AllN (C:List Cor):Prop:=∀c,c∈C→okCn c
theorem AllN.app {C D:List Cor} (h:AllN C) (g:AllN D):AllN (C++D):=fun c hc=>(List.mem_append.1 hc).elim (h c) (g c)
theorem AllN.one {C:List Cor} {c:Cor} (h:AllN C) (g:okCn c):AllN (C++[c]):=h.app fun x hx=>by obtain rfl:=List.mem_singleton.1 hx;exact g
section
variable {ds:List Dat}
theorem dat_sDn (h:sDn ds) (x:Nat):(dat ds x).name.size≤1048576:=by
 by_cases c:x<ds.length
 ·exact h _ (dat_mem c)
 ·unfold dat
  simp [List.getD,List.getElem?_eq_none (Nat.le_of_not_lt c)]
  exact Nat.zero_le _
theorem subG_sDn (h:sDn ds) (x:Nat):∀f i,sDn (subG ds x f i):=by
 intro f
 induction f with
 |zero=>intro i d hd;simp [subG] at hd
 |succ f ih=>
  intro i d hd
  rw [subG] at hd
  split at hd
  ·rcases List.mem_cons.1 hd with rfl|hd
   ·exact dat_sDn h i
   ·exact ih _ d hd
  ·cases hd
theorem kon_okn (h:sDn ds) {p:Int} {x:Nat}:okCn (konC p (subD ds x)):=⟨Nat.zero_le _,subG_sDn h x _ _⟩
theorem loc_okn {p:Int} {a b:Nat}:okCn (locC p a b):=⟨Nat.zero_le _,fun d hd=>by cases hd⟩
theorem nod_okn {k p:Int} {a:Nat}:okCn (nodC k p a):=⟨Nat.zero_le _,fun d hd=>by cases hd⟩
theorem nmd_okn (h:sDn ds) {k p:Int} {x:Nat}:okCn (nmdC k p (dat ds x).name):=⟨dat_sDn h x,fun d hd=>by cases hd⟩
abbrev OkGn (g:Gx):Prop:=∀x p sc C,AllN C→AllN (g x p sc C).1
theorem all_okn {g:Nat→List Cor→Ex} (hg:∀k C,AllN C→AllN (g k C).1):∀ks C,AllN C→AllN (allE g ks C).1:=by
 intro ks
 induction ks with
 |nil=>intro C h;exact h
 |cons k r ih=>
  intro C h
  rw [allE]
  split
  ·exact hg k C h
  ·exact ih _ (hg k C h)
theorem asg_okn (h:sDn ds) {g:Gx} (hg:OkGn g) {ks:List Nat} {p kind:Int} {sc:Sco} {C:List Cor} (hC:AllN C):AllN (asgE ds g ks p sc C kind).1:=by
 unfold asgE
 split
 ·exact hC
 split
 ·exact hC
 split
 ·exact hC
 ·exact hg _ _ _ _ (hC.one (nmd_okn h))
theorem form_okn (h:sDn ds) {g:Gx} (hg:OkGn g) {w:ByteArray} {ks:List Nat} {p:Int} {sc:Sco} {C:List Cor} (hC:AllN C):AllN (formE ds g w ks p sc C).1:=by
 unfold formE
 split
 ·split
  ·exact hC
  ·exact hC.one (kon_okn h)
 split
 ·split
  ·exact hC
  ·exact all_okn (fun k C h=>hg _ _ _ _ h) _ _ (hC.one nod_okn)
 split
 ·split
  ·exact hC
  ·exact all_okn (fun k C h=>hg _ _ _ _ h) _ _ (hC.one nod_okn)
 split
 ·unfold lamE
  split
  ·exact hC
  ·split
   ·exact hC
   ·split
    ·exact hC
    ·exact hg _ _ _ _ (hC.one nod_okn)
 split
 ·unfold letE
  split
  ·exact hC
  ·split
   ·exact hC
   ·rename_i ns vs _
    split
    ·exact hC
    ·have h1:AllN (g (ks.getD 2 0) ((C.length+1:Nat):Int) (ns::sc) (C++[nodC 9 p 0]++[nodC 5 (C.length:Int) ns.length])).1:=hg _ _ _ _ ((hC.one nod_okn).one nod_okn)
     split
     ·exact h1
     ·exact all_okn (fun k C h=>hg _ _ _ _ h) _ _ h1
 split
 ·exact asg_okn h hg hC
 ·exact asg_okn h hg hC
theorem exp_okn (h:sDn ds):∀f,OkGn (expE ds f):=by
 intro f
 induction f with
 |zero=>intro x p sc C hC;exact hC
 |succ f ih=>
  intro x p sc C hC
  rw [expE]
  split
  ·exact hC.one (kon_okn h)
  split
  ·split
   ·exact hC
   ·split
    ·exact hC.one loc_okn
    ·exact hC.one (nmd_okn h)
  split
  ·exact hC
  split
  ·exact form_okn h ih hC
  split
  ·exact hC
  ·exact all_okn (fun k C h=>ih _ _ _ _ h) _ _ (hC.one nod_okn)
theorem expR_okn (h:sDn ds):AllN (expR ds).1:=by
 have no:AllN []:=fun c hc=>by cases hc
 unfold expR
 split
 ·exact no
 split
 ·exact no
 split
 ·exact no
 ·exact exp_okn h _ _ _ _ _ no
end
theorem toks_sm (t:List UInt8):∀f p out,(∀x,x∈out→(Tok.name x).size≤t.length)→∀x,x∈(toks t f p out).1→(Tok.name x).size≤t.length:=by
 intro f
 induction f with
 |zero=>intro p out h;exact h
 |succ f ih=>
  intro p out h
  rw [toks]
  split
  ·exact h
  ·rename_i c r hd
   split
   ·split
    ·intro x hx;cases hx
    ·refine ih _ _ fun x hx=>?_
     rcases List.mem_append.1 hx with k|k
     ·exact h x k
     ·obtain rfl:=List.mem_singleton.1 k;exact Nat.zero_le _
   ·split
    ·intro x hx;cases hx
    ·split
     ·intro x hx;cases hx
     ·refine ih _ _ fun x hx=>?_
      rcases List.mem_append.1 hx with k|k
      ·exact h x k
      ·obtain rfl:=List.mem_singleton.1 k
       have hl:((c::r).take (wrd (c::r))).length≤t.length:=by
        rw [←hd,List.length_take,List.length_drop];omega
       unfold wordT
       split
       ·exact Nat.zero_le _
       split
       ·exact Nat.zero_le _
       split
       ·exact Nat.zero_le _
       ·show (bs _).size≤_;rw [size_bs];exact hl
theorem tokR_sm (t:List UInt8):∀x,x∈(tokR t).1→(Tok.name x).size≤t.length:=by
 unfold tokR
 split
 ·intro x hx;cases hx
 ·exact toks_sm t _ _ [] (fun x hx=>by cases hx)
theorem sD_appn {a b:List Dat} (h:sDn a) (g:sDn b):sDn (a++b):=fun d hd=>(List.mem_append.1 hd).elim (h d) (g d)
theorem sD_onen {d:Dat} (h:d.name.size≤1048576):sDn [d]:=fun x hx=>by obtain rfl:=List.mem_singleton.1 hx;exact h
theorem tokenR_sDn {t:Tok} {s:Rds} (ht:t.name.size≤1048576) (h:sDn s.1):sDn (tokenR t s).1.1:=by
 have hp:∀(x:Dat) (s:Rds),x.name.size≤1048576→sDn s.1→sDn (putR x s).1.1:=fun x s hx hs=>by
  unfold putR
  split
  ·exact hs
  ·exact sD_appn hs (sD_onen hx)
 have hb:∀q,sDn (beginR q s).1.1:=fun q=>by
  unfold beginR
  split
  ·exact h
  ·have h2:sDn (opR q s).1:=hp lisD s (Nat.zero_le _) h
   split
   ·exact hp quoD _ (by decide) h2
   ·exact h2
 unfold tokenR
 split
 ·exact hb _
 split
 ·exact hb _
 split
 ·unfold closeR
  split
  ·exact h
  ·split<;>exact h
 ·unfold leafR
  split
  ·exact h
  ·exact sD_appn h (sD_onen ht)
theorem readR_sDn:∀(ts:List Tok) (i:Nat) (s:Rds),(∀x,x∈ts→(Tok.name x).size≤1048576)→sDn s.1→sDn (readR ts i s).1:=by
 intro ts
 induction ts with
 |nil=>
  intro i s _ h
  rw [readR]
  split
  ·intro d hd;cases hd
  ·exact h
 |cons t r ih=>
  intro i s ht h
  rw [readR]
  split
  ·intro d hd;cases hd
  ·split
   ·intro d hd;cases hd
   ·exact ih _ _ (fun x hx=>ht x (by simp [hx])) (tokenR_sDn (ht t (by simp)) h)
theorem dataR_sDn {t:List UInt8} (hl:t.length≤1048576):sDn (dataR t).1:=by
 unfold dataR
 split
 ·intro d hd;cases hd
 ·exact readR_sDn _ _ _ (fun x hx=>Nat.le_trans (tokR_sm t x hx) (by omega)) (fun d hd=>by cases hd)
theorem sDn.sD {ds:List Dat} (h:sDn ds):sD ds:=fun d hd=>Nat.le_trans (h d hd) (by decide)
def readC (t:List UInt8):Ex:=if (dataR t).2.1≠0 then ([],(dataR t).2.1) else expR (dataR t).1
theorem readC_wf {t:List UInt8} (h:(readC t).2=0):WfC (readC t).1∧∀i,(corAt (readC t).1 i).data.length≤80:=by
 unfold readC at h ⊢
 split
 ·rename_i c;rw [if_pos c] at h;exact absurd h c
 ·rename_i c;rw [if_neg c] at h;exact expR_wf h
theorem readC_sm {t:List UInt8} (hl:t.length≤1048576):AllN (readC t).1:=by
 unfold readC
 split
 ·intro c hc;cases hc
 ·exact expR_okn (dataR_sDn hl)
end Go.Proofs.YtbppopcpgcgkkaaGreatDoor.E
/- Forms that are expanded to cores: the program's way. -/
namespace Go.Proofs.YtbppopcpgcgkkaaGreatDoor.E
open Go Go.RowKit
set_option maxRecDepth 100000
variable [L:Lam]
variable {σ σ1 τ τ':AH} {R:AEnd→AH→Prop}
theorem MSt.base {φm:Nat} {fd:List Fd} {τ1:AH} (h:MSt σ τ φm fd) (hs:AH.Sub τ τ1):∃σ1,MSt σ1 τ1 φm fd∧AH.Sub σ σ1∧∀ψ,τ ψ=none→σ1 ψ=τ1 ψ:=by
 classical
 refine ⟨fun ψ=>if τ ψ=none then τ1 ψ else σ ψ,h.keep (fun ψ hn hc=>?_) (fun hn=>?_) fun ψ F hF=>?_,fun ψ F hF=>?_,fun ψ hψ=>by simp [hψ]⟩
 ·have hk:τ1 ψ=τ ψ:=by
   cases e:τ ψ with
   |none=>exact absurd e hn
   |some F=>exact hs _ _ e
  refine ⟨?_,hk⟩
  show (if τ ψ=none then τ1 ψ else σ ψ)=none
  rw [if_neg hn]
  rcases hc with rfl|hc
  ·exact h.fr
  ·exact hc
 ·have hk:τ1 φm=τ φm:=by
   cases e:τ φm with
   |none=>exact absurd e hn
   |some F=>exact hs _ _ e
  refine ⟨?_,hk⟩
  show (if τ φm=none then τ1 φm else σ φm)=none
  rw [if_neg hn];exact h.fr
 ·have hF:(if τ ψ=none then τ1 ψ else σ ψ)=some F:=hF
  split at hF
  ·exact hF
  ·exact hs _ _ (h.sub _ _ hF)
 ·have:τ ψ=some F:=h.sub _ _ hF
  show (if τ ψ=none then τ1 ψ else σ ψ)=some F
  rw [if_neg (by rw [this];simp)];exact hF
section
variable {ds:List Dat} {φm f:Nat} {C:List Cor}
def EndQ (σ:AH) (φm:Nat) (ds:List Dat) (E:Ex) (R:AEnd→AH→Prop):Prop:=(E.2=0→∀τ',MSt σ τ' φm (fdQ ds E.1)→R (.ret (.tup [])) τ')∧(E.2≠0→R (.pan (flt E.2)) σ)
theorem EndQ.step {E:Ex} {k:AV→AH→Prop} (h:E.2≠0→R (.pan (flt E.2)) σ) (hs:AH.Sub σ σ1) (hk:E.2=0→∀τ',MSt σ1 τ' φm (fdQ ds E.1)→k (.tup []) τ'):EndQ σ1 φm ds E (onr k fun v σ=>apan v σ R):=
 ⟨fun h0 τ' S=>hk h0 τ' S,fun h0=>apan_sub hs (h h0)⟩
theorem EndQ.tail {E:Ex} (h:EndQ σ φm ds E R) (hs:AH.Sub σ σ1):EndQ σ1 φm ds E (onr (fun _ σ=>aret (.tup []) σ R) fun v σ=>apan v σ R):=
 .step h.2 hs fun h0 τ' S=>ret_here (h.1 h0 τ' (S.drop hs))
theorem EndQ.bad {e:Int} {D:List Cor} (h:EndQ σ φm ds (D,e) R) (he:e≠0):R (.pan (flt e)) σ:=h.2 he
theorem EndQ.ok {D:List Cor} (h:EndQ σ φm ds (D,0) R) (S:MSt σ τ φm (fdQ ds D)):R (.ret (.tup [])) τ:=h.1 rfl τ S
theorem c_stop {b:Bool} {c:Int} {K:AV→AH→Prop} (hs:AH.Sub σ τ) (h:b=true→R (.pan (flt c)) σ) (hk:b=false→K (.tup []) τ):acall TP fn_impl_failIf [bv b,iv c] τ (onr K fun v σ=>apan v σ R):=
 c_impl_failIf (fun e=>hk e) fun e=>apan_sub hs (h e)
def ExpQ (ds:List Dat) (f φm:Nat):Prop:=∀(σ:AH) (x:Nat) (p:Int) (sc:Sco) (C:List Cor) (τ:AH) (R:AEnd→AH→Prop),x<ds.length→ds.length≤f+x→((p= -1∧sc=[])∨0≤p)→MSt σ τ φm (fdQ ds C)→(∀ns,ns∈sc→ns.length≤3)→C.length+2*nv ds x≤400→sc.length+nv ds x≤400→
 EndQ σ φm ds (expE ds f x p sc C) R→acall TP fn_impl_expander_form [.ptr φm 0 0 0,iv (x:Int),iv p,roSc sc] τ R
theorem c_impl_expander_all (hd:DOk ds) (hE:ExpQ ds f φm) {ks:List Nat} {p:Int} {sc:Sco} (hp:0≤p) (hks:∀k,k∈ks→k<ds.length∧ds.length≤f+k) (h:MSt σ τ φm (fdQ ds C)) (hsc:∀ns,ns∈sc→ns.length≤3) (hC:C.length+2*nvK ds ks≤400) (hn:sc.length+nvK ds ks≤400)
  (h1:EndQ σ φm ds (allE (fun k C'=>expE ds f k p sc C') ks C) R):acall TP fn_impl_expander_all [.ptr φm 0 0 0,iv p,roK ks,roSc sc] τ R:=by
 refine s_impl_expander_all_ok ?_
 unfold s_impl_expander_all
 have hln:=nvK_len (ds:=ds) ks
 simp only [lenK,RR]
 refine lp_by (fun n x τ'=>∃(j:Nat) (C1:List Cor),x=(.ptr φm 0 0 0,iv p,roSc sc,roK ks,iv (ks.length:Int),iv (j:Int),())∧MSt σ τ' φm (fdQ ds C1)∧ks.length - j=n∧j≤ks.length∧C1.length≤C.length+2*nvK ds (ks.take j)∧
  allE (fun k C'=>expE ds f k p sc C') (ks.drop j) C1=allE (fun k C'=>expE ds f k p sc C') ks C) ks.length ⟨0,C,rfl,h,by omega,by omega,by simp,rfl⟩ ?_
 rintro n x τ' ⟨j,C1,rfl,S,rfl,hj,hCl,e⟩ R' hR'
 by_cases c:j<ks.length
 ·have g:(j:Int)<(ks.length:Int):=by omega
  have hm:=hks _ (getD_mem c)
  have ev:=nvK_mem (ds:=ds) c
  have ej:ks[j]=ks.getD j 0:=by simp [List.getD,c]
  rw [List.drop_eq_getElem_cons c,allE,ej] at e
  simp only [g,idx_K c,lod_1,RR]
  have hle:=exp_less hd f (ks.getD j 0) p sc C1 hm.1
  refine hE σ _ p sc C1 τ' _ hm.1 hm.2 (.inr hp) S hsc (by omega) (by omega) (.step (fun c2=>?_) (.refl _) fun c2 τ2 S2=>?_)
  ·rw [if_pos (by simpa using c2)] at e
   rw [←e] at h1
   exact h1.2 c2
  ·rw [if_neg (by simpa using c2)] at e
   simp only [ibin_up c (by omega),RR]
   have et:nvK ds (ks.take (j+1))=nvK ds (ks.take j)+nv ds (ks.getD j 0):=by
    rw [List.take_succ_eq_append_getElem c,nvK_app,ej];simp [nvK]
   exact hR' _ _ (ks.length - (j+1)) τ2 (by omega) (.refl _) ⟨j+1,_,rfl,S2,rfl,c,by omega,e⟩
 ·have g:¬(j:Int)<(ks.length:Int):=by omega
  obtain rfl:j=ks.length:=by omega
  rw [List.drop_length,allE] at e
  rw [←e] at h1
  simp only [g,RR]
  exact ret_here (h1.ok S)
section
variable {ks:List Nat} {p:Int} {sc:Sco}
theorem len_K1 (h:1≤ks.length):lenS (roK (ks.drop 1))=some (iv ((ks.length - 1:Nat):Int)):=by rw [lenK,List.length_drop]
theorem idx_K1 {j:Nat} (h:j+1<ks.length):idx 1 (roK (ks.drop 1)) (iv (j:Int)) τ=some (.rop [iv ((ks.getD (j+1) 0:Nat):Int)] 0):=by
 have:=idx_K (σ:=τ) (ks:=ks.drop 1) (j:=j) (by rw [List.length_drop];omega)
 rw [this]
 simp [List.getD,Nat.add_comm]
theorem nms_ext {o:Option (List ByteArray)}:aext (nmsV o) 0=some (roS (o.getD []))∧aext (nmsV o) 1=some (bv o.isSome):=by cases o<;>exact ⟨rfl,rfl⟩
theorem nvK_one3 (h:ks.length=3):nv ds (ks.getD 1 0)+nv ds (ks.getD 2 0)+1≤nvK ds ks:=by
 have o1:=nvK_mem (ds:=ds) (ks:=ks) (j:=1) (by omega)
 have o3:=nvK_one (ds:=ds) (ks:=ks.drop 2) (j:=0) (by rw [List.length_drop];omega)
 have e2:(ks.drop 2).getD 0 0=ks.getD 2 0:=by simp [List.getD]
 have o4:=nvK_len (ds:=ds) (ks.take 1)
 rw [e2] at o3
 rw [List.length_take] at o4
 simp only [Nat.reduceAdd] at o1
 omega
set_option maxHeartbeats 400000 in
theorem c_impl_expander_let (hl:DLs ds) (hd:DOk ds) (hE:ExpQ ds f φm) (h0:1≤ks.length) (hks:∀k,k∈ks→k<ds.length∧ds.length≤f+k) (h:MSt σ τ φm (fdQ ds C)) (hsc:∀ns,ns∈sc→ns.length≤3) (hC:C.length+2*nvK ds ks+2≤400) (hn:sc.length+nvK ds ks≤400)
  (h1:EndQ σ φm ds (letE ds (expE ds f) ks p sc C) R):acall TP fn_impl_expander_let [.ptr φm 0 0 0,roK (ks.drop 1),iv p,roSc sc] τ R:=by
 refine s_impl_expander_let_ok ?_
 unfold s_impl_expander_let
 unfold letE at h1
 have hdl:=hd.len
 have e0:lod (.ptr φm 0 0 0) τ=some (roD ds):=h.fix rfl
 simp only [len_K1 h0,RR]
 by_cases c3:ks.length=3
 case neg=>
  rw [if_pos (.inl c3)] at h1
  have g3:¬((ks.length - 1:Nat):Int)=2:=by omega
  simp only [g3,RR]
  exact c_stop h.sub (fun _=>h1.bad (by decide)) fun c=>by cases c
 have g3:((ks.length - 1:Nat):Int)=2:=by omega
 have hm1:=hks _ (getD_mem (ks:=ks) (j:=1) (by omega))
 have hm2:=hks _ (getD_mem (ks:=ks) (j:=2) (by omega))
 have x1:∀τ,idx 1 (roK (ks.drop 1)) (.val (.int .i64 0)) τ=some (.rop [iv ((ks.getD 1 0:Nat):Int)] 0):=fun τ=>idx_K1 (j:=0) (by omega)
 have x2:∀τ,idx 1 (roK (ks.drop 1)) (.val (.int .i64 1)) τ=some (.rop [iv ((ks.getD 2 0:Nat):Int)] 0):=fun τ=>idx_K1 (j:=1) (by omega)
 have o1:=nvK_one3 (ds:=ds) c3
 have he1:=nv_eq hd hm1.1
 have l0:∀τ y,lod (.rop (encDat (dat ds y)) 0) τ=some (iv (dat ds y).kind):=fun _ _=>rfl
 by_cases c4:(dat ds (ks.getD 1 0)).kind=4
 case neg=>
  rw [if_pos (.inr c4)] at h1
  simp only [g3,x1,lod_1,e0,idx_ro hm1.1 len_encDat,dat_at hm1.1,l0,c4,RR]
  exact c_stop h.sub (fun _=>h1.bad (by decide)) fun c=>by cases c
 rw [if_neg (by rintro (k|k);exact k c3;exact k c4)] at h1
 simp only [g3,x1,lod_1,e0,idx_ro hm1.1 len_encDat,dat_at hm1.1,l0,c4,RR]
 refine c_stop h.sub (fun c=>by cases c) fun _=>?_
 simp only [RR,true_and]
 refine bsl0 (bsl0 ?_)
 simp only [x1,lod_1,e0,RR]
 refine c_impl_parts (by omega) ?_
 simp only [lenK,RR,true_and]
 have hkl:=kids_len (ds:=ds) (ks.getD 1 0)
 have hkm:∀k,k∈kidsD ds (ks.getD 1 0)→k<ds.length∧ks.getD 1 0<k:=fun k hk=>⟨(hd.kid hk).2,(hd.kid hk).1⟩
 have le:=lets_eq (ds:=ds) (kidsD ds (ks.getD 1 0)) [] []
 rw [le] at h1
 generalize kidsD ds (ks.getD 1 0)=lst at h1 hkl hkm he1 le ⊢
 refine lp_by (fun n x τ'=>∃(j:Nat) (u v:AV),x=(.ptr φm 0 0 0,roK (ks.drop 1),iv p,roSc sc,u,v,roK lst,iv (lst.length:Int),iv (j:Int),())∧AH.Sub τ τ'∧Buf τ' 1 u (innK ((lst.take j).map fun k=>(kidsD ds k).getD 0 0))∧(∀ψ,ψ∈famL u→τ ψ=none)∧Buf τ' 1 v (innK ((lst.take j).map fun k=>(kidsD ds k).getD 1 0))∧(∀ψ,ψ∈famL v→τ ψ=none)∧(∀ψ,ψ∈famL u→ψ∉famL v)∧
   lst.length - j=n∧j≤lst.length∧∀k,k∈lst.take j→(kidsD ds k).length=2) lst.length
  ⟨0,.emp,.emp,rfl,.refl τ,emp_buf,(fun ψ c=>by cases c),emp_buf,(fun ψ c=>by cases c),(fun ψ c=>by cases c),by omega,by omega,fun k hk=>by simp at hk⟩ ?_
 rintro n x τ1 ⟨j,u,v,rfl,hs,hB,hf,hBv,hfv,hdj,rfl,hj,h2⟩ R' hR'
 have e0':=lod_mono hs e0
 by_cases c:j<lst.length
 ·have g:(j:Int)<(lst.length:Int):=by omega
  have ej:lst[j]=lst.getD j 0:=by simp [List.getD,c]
  have hmem:=getD_mem (ks:=lst) c
  have hk:=hkm _ hmem
  simp only [g,idx_K c,lod_1,e0',RR]
  refine c_impl_parts (by omega) ?_
  simp only [e0',idx_ro hk.1 len_encDat,dat_at hk.1,l0,lenK,List.length_map,RR]
  by_cases c2:(kidsD ds (lst.getD j 0)).length=2
  ·have g2:((kidsD ds (lst.getD j 0)).length:Int)=2:=by omega
   have k4:(dat ds (lst.getD j 0)).kind=4:=kids_kind hl hd (getD_mem (ks:=kidsD ds (lst.getD j 0)) (j:=0) (by omega))
   have y0:∀τ,idx 1 (roK (kidsD ds (lst.getD j 0))) (.val (.int .i64 0)) τ=some (.rop [iv (((kidsD ds (lst.getD j 0)).getD 0 0:Nat):Int)] 0):=fun τ=>idx_K (j:=0) (by omega)
   have y1:∀τ,idx 1 (roK (kidsD ds (lst.getD j 0))) (.val (.int .i64 1)) τ=some (.rop [iv (((kidsD ds (lst.getD j 0)).getD 1 0:Nat):Int)] 0):=fun τ=>idx_K (j:=1) (by omega)
   simp only [lenK,g2,k4,RR]
   refine c_stop (h.sub.trans hs) (fun c=>by cases c) fun _=>?_
   simp only [y0,y1,lod_1,litI,RR]
   have hln:∀(q:Nat→Nat),((lst.take j).map q).length=j:=fun q=>by rw [List.length_map,List.length_take];omega
   refine buf_app hB (xs:=[[iv (((kidsD ds (lst.getD j 0)).getD 0 0:Nat):Int)]]) rfl (by intro c hc;obtain rfl:=List.mem_singleton.1 hc;rfl) (by intro c hc y hy;obtain rfl:=List.mem_singleton.1 hc;obtain rfl:=List.mem_singleton.1 hy;rfl) (by rw [List.length_map,hln];simp;omega) fun u' τ2 hB2 hK hfam=>?_
   have hBv2:Buf τ2 1 v (innK ((lst.take j).map fun k=>(kidsD ds k).getD 1 0)):=hBv.up fun ψ hψ=>by
    obtain ⟨F,hF⟩:=hBv.live hψ
    exact hK ψ (fun c=>hdj ψ c hψ) (by rw [hF];simp)
   have hdj2:∀ψ,ψ∈famL u'→ψ∉famL v:=fun ψ a b=>by
    rcases hfam ψ a with q|q
    ·exact hdj ψ q b
    ·obtain ⟨F,hF⟩:=hBv.live b;rw [q] at hF;cases hF
   have hs2:AH.Sub τ τ2:=hK.sub hs hf
   have hf2:∀ψ,ψ∈famL u'→τ ψ=none:=fun ψ hψ=>(hfam ψ hψ).elim (hf ψ) fun d=>hs.none d
   simp only [y1,lod_1,true_and,and_true]
   refine buf_app hBv2 (xs:=[[iv (((kidsD ds (lst.getD j 0)).getD 1 0:Nat):Int)]]) rfl (by intro c hc;obtain rfl:=List.mem_singleton.1 hc;rfl) (by intro c hc y hy;obtain rfl:=List.mem_singleton.1 hc;obtain rfl:=List.mem_singleton.1 hy;rfl) (by rw [List.length_map,hln];simp;omega) fun v' τ3 hB3 hK3 hfam3=>?_
   have hB2':Buf τ3 1 u' (innK ((lst.take j).map fun k=>(kidsD ds k).getD 0 0)++[[iv (((kidsD ds (lst.getD j 0)).getD 0 0:Nat):Int)]]):=hB2.up fun ψ hψ=>by
    obtain ⟨F,hF⟩:=hB2.live hψ
    exact hK3 ψ (hdj2 ψ hψ) (by rw [hF];simp)
   have et:∀q:Nat→Nat,innK ((lst.take (j+1)).map q)=innK ((lst.take j).map q)++[[iv ((q (lst.getD j 0):Nat):Int)]]:=fun q=>by
    rw [List.take_succ_eq_append_getElem c,ej];simp [innK]
   simp only [ibin_up c (by omega),RR]
   refine hR' _ _ (lst.length - (j+1)) τ3 (by omega) (.refl _) ⟨j+1,u',v',rfl,hK3.sub hs2 hfv,by rw [et];exact hB2',hf2,by rw [et];exact hB3,(fun ψ hψ=>(hfam3 ψ hψ).elim (hfv ψ) fun d=>hs2.none d),fun ψ a b=>?_,rfl,c,fun k hk=>?_⟩
   ·rcases hfam3 ψ b with q|q
    ·exact hdj2 ψ a q
    ·obtain ⟨F,hF⟩:=hB2.live a;rw [q] at hF;cases hF
   ·rw [List.take_succ_eq_append_getElem c,ej] at hk
    rcases List.mem_append.1 hk with hk|hk
    ·exact h2 k hk
    ·obtain rfl:=List.mem_singleton.1 hk;exact c2
  ·have g2:¬((kidsD ds (lst.getD j 0)).length:Int)=2:=by omega
   rw [if_neg (fun k=>c2 (k _ hmem))] at h1
   by_cases k4:(dat ds (lst.getD j 0)).kind=4
   ·simp only [lenK,g2,k4,RR]
    exact c_stop (h.sub.trans hs) (fun _=>h1.bad (by decide)) fun c=>by cases c
   ·simp only [k4,RR]
    exact c_stop (h.sub.trans hs) (fun _=>h1.bad (by decide)) fun c=>by cases c
 ·have g:¬(j:Int)<(lst.length:Int):=by omega
  obtain rfl:j=lst.length:=by omega
  rw [List.take_length] at h2 hB hBv
  rw [if_pos h2] at h1 le
  simp only [g,RR]
  have hvk:∀k,k∈(lst.map fun k=>(kidsD ds k).getD 0 0)→k<ds.length:=fun k hk=>by
   obtain ⟨y,hy,rfl⟩:=List.mem_map.1 hk
   exact (hd.kid (getD_mem (ks:=kidsD ds y) (j:=0) (by have:=h2 y hy;omega))).2
  refine c_impl_expander_names (RdK.buf hB) e0' hvk (by rw [List.length_map];omega) ?_
  simp only [nms_ext.1,nms_ext.2,RR]
  cases hN:namesE ds (lst.map fun k=>(kidsD ds k).getD 0 0) [] with
  |none=>
   rw [hN] at h1
   simp only [Option.map_none] at h1
   exact c_stop (h.sub.trans hs) (fun _=>h1.bad (by decide)) fun c=>by cases c
  |some ns=>
   rw [hN] at h1 le
   simp only [Option.map_some,List.nil_append] at h1 le
   have ll:=lets_nv hd _ _ _ _ _ (fun k hk=>(hkm k hk).1) le
   have e00:nvK ds []=0:=rfl
   refine c_stop (h.sub.trans hs) (fun c=>by cases c) fun _=>?_
   simp only [Option.getD_some,lenSS,RR]
   refine c_stop (h.sub.trans hs) (fun c5=>?_) fun c5=>?_
   ·have c5:3<ns.length:=by have:decide ((3:Int)<(ns.length:Int))=true:=c5;simp at this;omega
    rw [if_pos c5] at h1
    exact h1.bad (by decide)
   have c5:¬3<ns.length:=by have:decide ((3:Int)<(ns.length:Int))=false:=c5;simp at this;omega
   rw [if_neg c5] at h1
   obtain ⟨σ1,S1,hs1,hb1⟩:=h.base hs
   have hBv1:Buf σ1 1 v (innK (lst.map fun k=>(kidsD ds k).getD 1 0)):=hBv.up fun ψ hψ=>hb1 ψ (hfv ψ hψ)
   have hfv1:∀ψ,ψ∈famL v→σ ψ=none:=fun ψ hψ=>h.sub.none (hfv ψ hψ)
   generalize (lst.map fun k=>(kidsD ds k).getD 1 0)=vs at h1 ll hBv1
   simp only [bldC0,RR]
   refine nil_cor (nodC 9 p 0) rfl rfl ?_
   refine c_impl_expander_put S1 (by omega) fun τ2 S2=>?_
   simp only [x2,lod_1,bldC,lenSS,RR]
   refine nil_cor (nodC 5 (C.length:Int) ns.length) rfl rfl ?_
   refine c_impl_expander_put S2 (by simp;omega) fun τ3 S3=>?_
   have hl1:(C++[nodC 9 p 0]).length=C.length+1:=by simp
   rw [hl1]
   simp only [x2,lod_1,RR,true_and,and_true]
   have np1:=nv_pos (ds:=ds) (ks.getD 1 0)
   refine c_impl_inner (by omega) ?_
   simp only [RR]
   have hle:=exp_less hd f (ks.getD 2 0) ((C.length+1:Nat):Int) (ns::sc) (C++[nodC 9 p 0]++[nodC 5 (C.length:Int) ns.length]) hm2.1
   rw [List.length_append,List.length_append,List.length_singleton,List.length_singleton] at hle
   refine hE σ1 _ _ (ns::sc) _ τ3 _ hm2.1 hm2.2 (.inr (by omega)) S3 (fun q hq=>?_) (by rw [List.length_append,List.length_append,List.length_singleton,List.length_singleton];omega) (by rw [List.length_cons];omega) ?_
   ·rcases List.mem_cons.1 hq with rfl|hq
    ·omega
    ·exact hsc q hq
   generalize expE ds f (ks.getD 2 0) ((C.length+1:Nat):Int) (ns::sc) (C++[nodC 9 p 0]++[nodC 5 (C.length:Int) ns.length])=r at h1 hle ⊢
   refine .step (fun c6=>?_) hs1 fun c6 τ6 S6=>?_
   ·rw [if_pos (by simpa using c6)] at h1
    exact h1.2 c6
   rw [if_neg (by simpa using c6)] at h1
   obtain ⟨σ7,τ7,S7,hs7,hst7,hfz7,_⟩:=S6.give (sz2:=1) (b:= .emp) (fs:=[]) hs1 hBv1 hfv1 (by intro c hc;obtain ⟨x,_,rfl⟩:=List.mem_map.1 hc;rfl) emp_buf (fun ψ _ c=>by cases c)
   refine acall_frz (args':=[.ptr φm 0 0 0,iv (C.length:Int),roK vs,roSc sc]) hst7 rfl (fun i hi=>?_) ?_
   ·match i,hi with
    |0,_=>exact .same _
    |1,_=>exact .same _
    |2,_=>exact hfz7
    |3,_=>exact .same _
   refine c_impl_expander_all hd hE (Int.natCast_nonneg _) (fun k hk=>?_) (S7.drop hs7) hsc (by omega) (by omega) (h1.tail (.refl _))
   rcases ll.2 k hk with q|⟨q,w,q2,q3⟩
   ·cases q
   ·have:=hkm w q2
    exact ⟨q,by omega⟩
end
end
end Go.Proofs.YtbppopcpgcgkkaaGreatDoor.E
/- Forms that are expanded to cores: the program's way, the end of it. -/
namespace Go.Proofs.YtbppopcpgcgkkaaGreatDoor.E
open Go Go.RowKit
set_option maxRecDepth 100000
variable [L:Lam]
variable {σ σ1 τ τ':AH} {R:AEnd→AH→Prop}
theorem kw_rest {w:ByteArray} (h:kwB w=true) (c1:¬w=⟨#[113,117,111,116,101]⟩) (c2:¬w=⟨#[105,102]⟩) (c3:¬w=⟨#[98,101,103,105,110]⟩) (c4:¬w=⟨#[108,97,109,98,100,97]⟩) (c5:¬w=⟨#[108,101,116]⟩):w=⟨#[100,101,102,105,110,101]⟩∨w=⟨#[115,101,116,33]⟩:=by
 unfold kwB inL kws at h
 simp only [List.any_cons,List.any_nil,Bool.or_eq_true,decide_eq_true_iff,Bool.or_false] at h
 rcases h with h|h|h|h|h|h|h
 ·exact absurd h c1
 ·exact absurd h c2
 ·exact absurd h c4
 ·exact absurd h c5
 ·exact absurd h c3
 ·exact .inl h
 ·exact .inr h
section
variable {ds:List Dat} {φm f:Nat} {C:List Cor} {ks:List Nat} {p:Int} {sc:Sco}
theorem slc_K01 (h:2≤ks.length):slc 1 (roK (ks.drop 1)) none (some (.val (.int .i64 1))) none τ=some (roK [ks.getD 1 0]):=by
 have hl:(ks.drop 1).length=ks.length - 1:=List.length_drop ..
 have e1:abd none 0=some 0:=rfl
 have e2:abd (some (.val (.int .i64 1))) ((ks.drop 1).map fun k:Nat=>[iv (k:Int)]).length=some 1:=rfl
 have e3:abd none ((ks.drop 1).map fun k:Nat=>[iv (k:Int)]).length=some ((ks.drop 1).map fun k:Nat=>[iv (k:Int)]).length:=rfl
 simp only [slc,e1,e2,e3]
 rw [if_pos ⟨by omega,by simp;omega,by simp,by simp,by rw [List.all_eq_true];intro c hc;obtain ⟨x,_,rfl⟩:=List.mem_map.1 hc;rfl⟩]
 match ks,h with
 |a::b::r,_=>rfl
theorem names_one {k:Nat}:namesE ds [k] []=if badP ds k [] then none else some [(dat ds k).name]:=by
 rw [namesE]
 split
 ·rfl
 ·rfl
set_option maxHeartbeats 1000000 in
theorem c_impl_expander_keyword (hl:DLs ds) (hd:DOk ds) (hE:ExpQ ds f φm) {w:ByteArray} (hw:kwB w=true) (hp:(p= -1∧sc=[])∨0≤p) (h0:1≤ks.length) (hks:∀k,k∈ks→k<ds.length∧ds.length≤f+k) (h:MSt σ τ φm (fdQ ds C)) (hsc:∀ns,ns∈sc→ns.length≤3) (hC:C.length+2*nvK ds ks+2≤400) (hn:sc.length+nvK ds ks≤400)
   (h1:EndQ σ φm ds (formE ds (expE ds f) w ks p sc C) R):acall TP fn_impl_expander_keyword [.ptr φm 0 0 0,str w,roK (ks.drop 1),iv p,roSc sc] τ R:=by
 refine s_impl_expander_keyword_ok ?_
 unfold s_impl_expander_keyword
 unfold formE at h1
 have hdl:=hd.len
 have hnl:=nvK_len (ds:=ds) ks
 have e0:lod (.ptr φm 0 0 0) τ=some (roD ds):=h.fix rfl
 have hdr:=nvK_drop (ds:=ds) ks 1
 have l0:∀τ y,lod (.rop (encDat (dat ds y)) 0) τ=some (iv (dat ds y).kind):=fun _ _=>rfl
 simp only [len_K1 h0,sbin_eql',RR]
 have x1:2≤ks.length→∀τ,idx 1 (roK (ks.drop 1)) (.val (.int .i64 0)) τ=some (.rop [iv ((ks.getD 1 0:Nat):Int)] 0):=fun h τ=>idx_K1 (j:=0) (by omega)
 have x2:3≤ks.length→∀τ,idx 1 (roK (ks.drop 1)) (.val (.int .i64 1)) τ=some (.rop [iv ((ks.getD 2 0:Nat):Int)] 0):=fun h τ=>idx_K1 (j:=1) (by omega)
 by_cases c1:w=⟨#[113,117,111,116,101]⟩
 · rw [if_pos c1] at h1
   simp only [c1,RR]
   by_cases c:ks.length=2
   · rw [if_neg (by simpa using c)] at h1
     have g:((ks.length - 1:Nat):Int)=1:=by omega
     have hm1:=hks _ (getD_mem (ks:=ks) (j:=1) (by omega))
     simp only [g,RR]
     refine c_stop h.sub (fun c=>by cases c) fun _=>?_
     simp only [e0,x1 (by omega),lod_1,RR]
     refine c_impl_sub hl hd hm1.1 ?_
     simp only [bldCd,RR,true_and]
     refine c_impl_expander_put h (by omega) fun τ1 S1=>?_
     simp only [RR,true_and]
     exact ret_here (h1.ok S1)
   · rw [if_pos (by simpa using c)] at h1
     have g:¬((ks.length - 1:Nat):Int)=1:=by omega
     simp only [g,RR]
     exact c_stop h.sub (fun _=>h1.bad (by decide)) fun c=>by cases c
 rw [if_neg c1] at h1
 have go:∀k,EndQ σ φm ds (allE (fun k C'=>expE ds f k (C.length:Int) sc C') (ks.drop 1) (C++[nodC k p 0])) R→acall TP fn_impl_expander_put [.ptr φm 0 0 0,.agg [iv k,iv p,iv 0,iv 0,str ⟨#[]⟩,nilS]] τ (onr (fun v40 σ=>
       acall TP fn_impl_expander_all [.ptr φm 0 0 0,v40,roK (ks.drop 1),roSc sc] σ (onr (fun v42 σ=>
       aret (.tup []) σ R) (fun v σ=>apan v σ R))) (fun v σ=>apan v σ R)):=fun k h1=>by
   refine nil_cor (nodC k p 0) rfl rfl ?_
   refine c_impl_expander_put h (by omega) fun τ1 S1=>?_
   simp only [RR]
   exact c_impl_expander_all hd hE (Int.natCast_nonneg _) (fun k hk=>hks k (List.mem_of_mem_drop hk)) S1 hsc (by rw [List.length_append,List.length_singleton];omega) (by omega) (h1.tail (.refl _))
 by_cases c2:w=⟨#[105,102]⟩
 · rw [if_pos c2] at h1
   have d1:¬(⟨#[105,102]⟩:ByteArray)=⟨#[113,117,111,116,101]⟩:=by rw [←c2];exact c1
   simp only [c2,d1,RR]
   by_cases c:ks.length=4
   · rw [if_neg (by simpa using c)] at h1
     have g:((ks.length - 1:Nat):Int)=3:=by omega
     simp only [g,RR]
     refine c_stop h.sub (fun c=>by cases c) fun _=>?_
     have hh:=go 4 h1
     simp only [bldC0,RR]
     exact hh
   · rw [if_pos (by simpa using c)] at h1
     have g:¬((ks.length - 1:Nat):Int)=3:=by omega
     simp only [g,RR]
     exact c_stop h.sub (fun _=>h1.bad (by decide)) fun c=>by cases c
 rw [if_neg c2] at h1
 by_cases c3:w=⟨#[98,101,103,105,110]⟩
 · rw [if_pos c3] at h1
   have d1:¬(⟨#[98,101,103,105,110]⟩:ByteArray)=⟨#[113,117,111,116,101]⟩:=by rw [←c3];exact c1
   have d2:¬(⟨#[98,101,103,105,110]⟩:ByteArray)=⟨#[105,102]⟩:=by rw [←c3];exact c2
   simp only [c3,d1,d2,RR]
   by_cases c:ks.length<2
   · rw [if_pos c] at h1
     have g:((ks.length - 1:Nat):Int)=0:=by omega
     simp only [g,RR]
     exact c_stop h.sub (fun _=>h1.bad (by decide)) fun c=>by cases c
   · rw [if_neg c] at h1
     have g:¬((ks.length - 1:Nat):Int)=0:=by omega
     simp only [g,RR]
     refine c_stop h.sub (fun c=>by cases c) fun _=>?_
     have hh:=go 6 h1
     simp only [bldC0,RR]
     exact hh
 rw [if_neg c3] at h1
 by_cases c4:w=⟨#[108,97,109,98,100,97]⟩
 · rw [if_pos c4] at h1
   have d1:¬(⟨#[108,97,109,98,100,97]⟩:ByteArray)=⟨#[113,117,111,116,101]⟩:=by rw [←c4];exact c1
   have d2:¬(⟨#[108,97,109,98,100,97]⟩:ByteArray)=⟨#[105,102]⟩:=by rw [←c4];exact c2
   have d3:¬(⟨#[108,97,109,98,100,97]⟩:ByteArray)=⟨#[98,101,103,105,110]⟩:=by rw [←c4];exact c3
   simp only [c4,d1,d2,d3,RR]
   unfold lamE at h1
   by_cases k3:ks.length=3
   case neg=>
     rw [if_pos (.inl k3)] at h1
     have g3:¬((ks.length - 1:Nat):Int)=2:=by omega
     simp only [g3,RR]
     exact c_stop h.sub (fun _=>h1.bad (by decide)) fun c=>by cases c
   have g3:((ks.length - 1:Nat):Int)=2:=by omega
   have hm1:=hks _ (getD_mem (ks:=ks) (j:=1) (by omega))
   have hm2:=hks _ (getD_mem (ks:=ks) (j:=2) (by omega))
   have o1:=nvK_one3 (ds:=ds) k3
   have np1:=nv_pos (ds:=ds) (ks.getD 1 0)
   by_cases k4:(dat ds (ks.getD 1 0)).kind=4
   case neg=>
     rw [if_pos (.inr k4)] at h1
     simp only [g3,x1 (by omega),lod_1,e0,idx_ro hm1.1 len_encDat,dat_at hm1.1,l0,k4,RR]
     exact c_stop h.sub (fun _=>h1.bad (by decide)) fun c=>by cases c
   rw [if_neg (by rintro (k|k);exact k k3;exact k k4)] at h1
   simp only [g3,x1 (by omega),lod_1,e0,idx_ro hm1.1 len_encDat,dat_at hm1.1,l0,k4,RR]
   refine c_stop h.sub (fun c=>by cases c) fun _=>?_
   simp only [x1 (by omega),lod_1,e0,RR,true_and]
   refine c_impl_parts (by omega) ?_
   simp only [RR,true_and]
   have hkl:=kids_len (ds:=ds) (ks.getD 1 0)
   refine c_impl_expander_names RdK.ro e0 (fun k hk=>(hd.kid hk).2) (by omega) ?_
   simp only [nms_ext.1,nms_ext.2,RR,true_and]
   cases hN:namesE ds (kidsD ds (ks.getD 1 0)) [] with
   |none=>
     rw [hN] at h1
     exact c_stop h.sub (fun _=>h1.bad (by decide)) fun c=>by cases c
   |some ns=>
     rw [hN] at h1
     dsimp only at h1
     refine c_stop h.sub (fun c=>by cases c) fun _=>?_
     simp only [Option.getD_some,lenSS,RR]
     refine c_stop h.sub (fun c5=>?_) fun c5=>?_
     · have c5:3<ns.length:=by have:decide ((3:Int)<(ns.length:Int))=true:=c5;simp at this;omega
       rw [if_pos c5] at h1
       exact h1.bad (by decide)
     have c5:¬3<ns.length:=by have:decide ((3:Int)<(ns.length:Int))=false:=c5;simp at this;omega
     rw [if_neg c5] at h1
     simp only [x2 (by omega),lod_1,bldC,lenSS,RR]
     refine nil_cor (nodC 5 p ns.length) rfl rfl ?_
     refine c_impl_expander_put h (by omega) fun τ3 S3=>?_
     simp only [x2 (by omega),lod_1,RR,true_and,and_true]
     refine c_impl_inner (by omega) ?_
     simp only [RR]
     refine hE σ _ _ (ns::sc) _ τ3 _ hm2.1 hm2.2 (.inr (Int.natCast_nonneg _)) S3 (fun q hq=>?_) (by rw [List.length_append,List.length_singleton];omega) (by rw [List.length_cons];omega) (h1.tail (.refl _))
     rcases List.mem_cons.1 hq with rfl|hq
     · omega
     · exact hsc q hq
 rw [if_neg c4] at h1
 by_cases c5:w=⟨#[108,101,116]⟩
 · rw [if_pos c5] at h1
   have d1:¬(⟨#[108,101,116]⟩:ByteArray)=⟨#[113,117,111,116,101]⟩:=by rw [←c5];exact c1
   have d2:¬(⟨#[108,101,116]⟩:ByteArray)=⟨#[105,102]⟩:=by rw [←c5];exact c2
   have d3:¬(⟨#[108,101,116]⟩:ByteArray)=⟨#[98,101,103,105,110]⟩:=by rw [←c5];exact c3
   have d4:¬(⟨#[108,101,116]⟩:ByteArray)=⟨#[108,97,109,98,100,97]⟩:=by rw [←c5];exact c4
   simp only [c5,d1,d2,d3,d4,RR]
   exact c_impl_expander_let hl hd hE h0 hks h hsc hC hn (h1.tail (.refl _))
 rw [if_neg c5] at h1
 have hw2:=kw_rest hw c1 c2 c3 c4 c5
 simp only [c1,c2,c3,c4,c5,RR]
 by_cases k3:ks.length=3
 case neg=>
   have h1:R (.pan (flt 1)) σ:=by
     rcases hw2 with k|k
     · rw [if_pos k] at h1;unfold asgE at h1;rw [if_pos (.inl k3)] at h1;exact h1.bad (by decide)
     · rw [if_neg (by rw [k];decide)] at h1;unfold asgE at h1;rw [if_pos (.inl k3)] at h1;exact h1.bad (by decide)
   have g3:¬((ks.length - 1:Nat):Int)=2:=by omega
   simp only [g3,RR]
   exact c_stop h.sub (fun _=>h1) fun c=>by cases c
 have g3:((ks.length - 1:Nat):Int)=2:=by omega
 have hm1:=hks _ (getD_mem (ks:=ks) (j:=1) (by omega))
 have hm2:=hks _ (getD_mem (ks:=ks) (j:=2) (by omega))
 have o1:=nvK_one3 (ds:=ds) k3
 have np1:=nv_pos (ds:=ds) (ks.getD 1 0)
 simp only [g3,RR]
 refine c_stop h.sub (fun c=>by cases c) fun _=>?_
 simp only [slc_K01 (show 2≤ks.length by omega),RR]
 refine c_impl_expander_names (ks:=[ks.getD 1 0]) RdK.ro e0 (fun k hk=>by obtain rfl:=List.mem_singleton.1 hk;exact hm1.1) (by simp) ?_
 rw [names_one]
 simp only [nms_ext.1,nms_ext.2,RR]
 cases hb:badP ds (ks.getD 1 0) [] with
 |true=>
   have h1:R (.pan (flt 1)) σ:=by
     rcases hw2 with k|k
     · rw [if_pos k] at h1;unfold asgE at h1;rw [if_pos hb] at h1;split at h1<;>exact h1.bad (by decide)
     · rw [if_neg (by rw [k];decide)] at h1;unfold asgE at h1;rw [if_pos hb] at h1;split at h1<;>exact h1.bad (by decide)
   simp only [if_true,Option.isSome_none,RR]
   exact c_stop h.sub (fun _=>h1) fun c=>by cases c
 |false=>
   simp only [Bool.false_eq_true,if_false,Option.isSome_some,Option.getD_some,sbin_eql',RR]
   have rest:∀(kind:Int),EndQ σ φm ds (expE ds f (ks.getD 2 0) (C.length:Int) sc (C++[nmdC kind p (dat ds (ks.getD 1 0)).name])) R→
       acall TP fn_impl_expander_put [.ptr φm 0 0 0,.agg [iv kind,iv p,iv 0,iv 0,str (dat ds (ks.getD 1 0)).name,nilS]] τ (onr (fun v67 σ=>
               acall TP fn_impl_expander_form [.ptr φm 0 0 0,iv ((ks.getD 2 0:Nat):Int),v67,roSc sc] σ (onr (fun v69 σ=>
               aret (.tup []) σ R) (fun v σ=>apan v σ R))) (fun v σ=>apan v σ R)):=fun kind h1=>by
     refine nil_cor (nmdC kind p (dat ds (ks.getD 1 0)).name) rfl rfl ?_
     refine c_impl_expander_put h (by omega) fun τ3 S3=>?_
     simp only [RR]
     exact hE σ _ _ sc _ τ3 _ hm2.1 hm2.2 (.inr (Int.natCast_nonneg _)) S3 hsc (by rw [List.length_append,List.length_singleton];omega) (by omega) (h1.tail (.refl _))
   have xs:∀τ,idx 1 (roS [(dat ds (ks.getD 1 0)).name]) (.val (.int .i64 0)) τ=some (.rop [str (dat ds (ks.getD 1 0)).name] 0):=fun τ=>idx_S (j:=0) (l:=[(dat ds (ks.getD 1 0)).name]) (by simp)
   rcases hw2 with k|k
   · rw [if_pos k] at h1
     have d1:¬(⟨#[100,101,102,105,110,101]⟩:ByteArray)=⟨#[115,101,116,33]⟩:=by decide
     unfold asgE at h1
     rcases hp with ⟨hp1,hp2⟩|hp
     · subst hp1 hp2
       rw [if_neg (by rintro (q|⟨_,q⟩);exact q k3;exact q rfl),if_neg (by rw [hb];decide)] at h1
       simp only [findE,Option.isSome_none,Bool.false_eq_true,if_false] at h1
       have g0:¬(0:Int)≤ -1:=by omega
       simp only [k,g0,RR]
       refine c_stop h.sub (fun c=>by cases c) fun _=>?_
       simp only [jn,d1,x2 (by omega),xs,lod_1,bldCn,RR,true_and,and_true]
       exact rest 8 h1
     · rw [if_pos (.inr ⟨rfl,by omega⟩)] at h1
       simp only [k,hp,RR]
       exact c_stop h.sub (fun _=>h1.bad (by decide)) fun c=>by cases c
   · rw [if_neg (by rw [k];decide)] at h1
     have d1:¬(⟨#[115,101,116,33]⟩:ByteArray)=⟨#[100,101,102,105,110,101]⟩:=by decide
     unfold asgE at h1
     rw [if_neg (by rintro (q|⟨q,_⟩);exact q k3;cases q),if_neg (by rw [hb];decide)] at h1
     simp only [k,d1,RR]
     refine c_stop h.sub (fun c=>by cases c) fun _=>?_
     simp only [jn,xs,lod_1,RR]
     refine c_impl_find (by omega) (fun ns hns=>by have:=hsc ns hns;omega) ?_
     cases hf:findE sc (dat ds (ks.getD 1 0)).name with
     |some q=>
       rw [hf] at h1
       simp only [Option.isSome_some,if_true] at h1
       have a0:aext (fndV (some q)) 0=some (iv (q.1:Int)):=rfl
       have a1:aext (fndV (some q)) 1=some (iv (q.2:Int)):=rfl
       have a2:aext (fndV (some q)) 2=some (bv true):=rfl
       simp only [a0,a1,a2,RR]
       exact c_stop h.sub (fun _=>h1.bad (by decide)) fun c=>by cases c
     |none=>
       rw [hf] at h1
       simp only [Option.isSome_none,Bool.false_eq_true,if_false] at h1
       have a0:aext (fndV none) 0=some (iv 0):=rfl
       have a1:aext (fndV none) 1=some (iv 0):=rfl
       have a2:aext (fndV none) 2=some (bv false):=rfl
       simp only [a0,a1,a2,RR]
       refine c_stop h.sub (fun c=>by cases c) fun _=>?_
       simp only [x2 (by omega),xs,lod_1,bldCn,RR,true_and,and_true]
       exact rest 7 h1
end
end Go.Proofs.YtbppopcpgcgkkaaGreatDoor.E
/- Forms that are expanded to cores: the program's way, all of it. -/
namespace Go.Proofs.YtbppopcpgcgkkaaGreatDoor.E
open Go Go.RowKit
set_option maxRecDepth 100000
variable [L:Lam]
variable {σ σ1 τ τ':AH} {R:AEnd→AH→Prop}
section
variable {ds:List Dat} {φm f:Nat}
set_option maxHeartbeats 1000000 in
theorem expQ_all (hl:DLs ds) (hd:DOk ds):∀f,ExpQ ds f φm:=by
 intro f
 induction f with
 |zero=>intro σ x p sc C τ R hx hf;omega
 |succ f ih=>
  intro σ x p sc C τ R hx hfx hp h hsc hC hn h1
  have hdl:=hd.len
  have hkd:=hd.kind x hx
  have hnv:=nv_eq hd hx
  have hks:∀k,k∈kidsD ds x→k<ds.length∧ds.length≤f+k:=fun k hk=>by have:=hd.kid hk;omega
  have e0:∀{τ C},MSt σ τ φm (fdQ ds C)→lod (.ptr φm 0 0 0) τ=some (roD ds):=fun h=>h.fix rfl
  have l0:∀τ y,lod (.rop (encDat (dat ds y)) 0) τ=some (iv (dat ds y).kind):=fun _ _=>rfl
  have l3:∀τ y,lod (.rop (encDat (dat ds y)) 3) τ=some (str (dat ds y).name):=fun _ _=>rfl
  refine s_impl_expander_form_ok ?_
  unfold s_impl_expander_form
  simp only [e0 h,idx_ro hx len_encDat,dat_at hx,lodA_all (len_encDat _),RR]
  refine new_frz rfl (len_encDat _) rfl (one_encDat _) ?_
  simp only [l0,RR]
  rw [expE] at h1
  refine jn_by (P:=fun z τ'=>τ'=τ∧z=(.ptr φm 0 0 0,iv (x:Int),iv p,roSc sc,.rop (encDat (dat ds x)) 0,iv (dat ds x).kind,bv (decide ((dat ds x).kind=1)||decide ((dat ds x).kind=2)),())) ?_ ?_
  ·rintro z τ' ⟨rfl,rfl⟩
   by_cases c12:(dat ds x).kind=1∨(dat ds x).kind=2
   ·rw [if_pos c12] at h1
    have g:(decide ((dat ds x).kind=1)||decide ((dat ds x).kind=2))=true:=by simpa using c12
    simp only [g,e0 h,RR]
    refine c_impl_sub hl hd hx ?_
    simp only [bldCd,RR]
    refine c_impl_expander_put h (by omega) fun τ1 S1=>?_
    simp only [RR]
    exact ret_here (h1.ok S1)
   rw [if_neg c12] at h1
   have g:(decide ((dat ds x).kind=1)||decide ((dat ds x).kind=2))=false:=by simpa using c12
   by_cases c3:(dat ds x).kind=3
   ·rw [if_pos c3] at h1
    have g2:(decide ((3:Int)=1)||decide ((3:Int)=2))=false:=rfl
    simp only [c3,g2,l3,RR]
    refine c_impl_IsKeyword ?_
    simp only [RR]
    refine c_stop h.sub (fun hk=>?_) fun hk=>?_
    ·rw [if_pos hk] at h1
     exact h1.bad (by decide)
    rw [if_neg (by rw [hk];decide)] at h1
    simp only [jn,l3,RR]
    refine c_impl_find (by omega) (fun ns hns=>by have:=hsc ns hns;omega) ?_
    cases hf:findE sc (dat ds x).name with
    |some q=>
     rw [hf] at h1
     dsimp only at h1
     have a0:aext (fndV (some q)) 0=some (iv (q.1:Int)):=rfl
     have a1:aext (fndV (some q)) 1=some (iv (q.2:Int)):=rfl
     have a2:aext (fndV (some q)) 2=some (bv true):=rfl
     simp only [a0,a1,a2,bldCl,RR]
     refine nil_cor (locC p q.1 q.2) rfl rfl ?_
     refine c_impl_expander_put h (by omega) fun τ1 S1=>?_
     simp only [RR]
     exact ret_here (h1.ok S1)
    |none=>
     rw [hf] at h1
     dsimp only at h1
     have a0:aext (fndV none) 0=some (iv 0):=rfl
     have a1:aext (fndV none) 1=some (iv 0):=rfl
     have a2:aext (fndV none) 2=some (bv false):=rfl
     simp only [a0,a1,a2,l3,bldCn,RR]
     refine nil_cor (nmdC 3 p (dat ds x).name) rfl rfl ?_
     refine c_impl_expander_put h (by omega) fun τ1 S1=>?_
     simp only [RR]
     exact ret_here (h1.ok S1)
   rw [if_neg c3] at h1
   simp only [g,c3,e0 h,RR]
   refine c_impl_parts (by omega) ?_
   simp only [lenK,RR]
   refine c_stop h.sub (fun c0=>?_) fun c0=>?_
   ·have c0:(kidsD ds x).length=0:=by have:decide (((kidsD ds x).length:Int)=0)=true:=c0;simp at this;rw [this];rfl
    rw [if_pos c0] at h1
    exact h1.bad (by decide)
   have c0:¬(kidsD ds x).length=0:=by have:decide (((kidsD ds x).length:Int)=0)=false:=c0;simpa using this
   rw [if_neg c0] at h1
   have hk0:=hks _ (getD_mem (ks:=kidsD ds x) (j:=0) (by omega))
   have x0:∀τ,idx 1 (roK (kidsD ds x)) (.val (.int .i64 0)) τ=some (.rop [iv (((kidsD ds x).getD 0 0:Nat):Int)] 0):=fun τ=>idx_K (j:=0) (by omega)
   simp only [x0,lod_1,e0 h,idx_ro hk0.1 len_encDat,dat_at hk0.1,lodA_all (len_encDat _),RR]
   intro φ hφ
   simp only [true_and]
   refine sto_own (es:=[[iv 0,iv 0,iv 0,str ⟨#[]⟩]]) (cs:=encDat (dat ds ((kidsD ds x).getD 0 0))) (AH.set_same ..) (by simp) rfl rfl rfl (one_encDat _) ?_
   simp only [List.set_cons_zero,AH.set_set,true_and]
   refine jn_by (P:=fun z τ2=>τ2=τ'∧z=(.ptr φm 0 0 0,iv p,roSc sc,roK (kidsD ds x),.rop (encDat (dat ds ((kidsD ds x).getD 0 0))) 0,bv (decide ((dat ds ((kidsD ds x).getD 0 0)).kind=3∧kwB (dat ds ((kidsD ds x).getD 0 0)).name=true)),())) ?_ ?_
   ·rintro z τ2 ⟨rfl,rfl⟩
    by_cases cf:(dat ds ((kidsD ds x).getD 0 0)).kind=3∧kwB (dat ds ((kidsD ds x).getD 0 0)).name=true
    ·rw [if_pos cf] at h1
     have gf:decide ((dat ds ((kidsD ds x).getD 0 0)).kind=3∧kwB (dat ds ((kidsD ds x).getD 0 0)).name=true)=true:=by simpa using cf
     simp only [gf,l3,slc_K1 (show 1≤(kidsD ds x).length by omega),RR,true_and]
     exact c_impl_expander_keyword hl hd ih cf.2 hp (by omega) hks h hsc (by omega) (by omega) (h1.tail (.refl _))
    ·rw [if_neg cf] at h1
     have gf:decide ((dat ds ((kidsD ds x).getD 0 0)).kind=3∧kwB (dat ds ((kidsD ds x).getD 0 0)).name=true)=false:=by simpa using cf
     simp only [gf,lenK,RR]
     refine c_stop h.sub (fun c4=>?_) fun c4=>?_
     ·have c4:4<(kidsD ds x).length:=by have:decide ((4:Int)<((kidsD ds x).length:Int))=true:=c4;simp at this;omega
      rw [if_pos c4] at h1
      exact h1.bad (by decide)
     have c4:¬4<(kidsD ds x).length:=by have:decide ((4:Int)<((kidsD ds x).length:Int))=false:=c4;simp at this;omega
     rw [if_neg c4] at h1
     simp only [bldC0,RR]
     refine nil_cor (nodC 9 p 0) rfl rfl ?_
     refine c_impl_expander_put h (by omega) fun τ3 S3=>?_
     simp only [RR]
     exact c_impl_expander_all hd ih (Int.natCast_nonneg _) hks S3 hsc (by rw [List.length_append,List.length_singleton];omega) (by omega) (h1.tail (.refl _))
   ·intro k hk
    refine frz_cell hφ rfl ?_
    by_cases c:(dat ds ((kidsD ds x).getD 0 0)).kind=3
    ·simp only [l0,l3,c,RR]
     refine c_impl_IsKeyword ?_
     simp only [RR]
     exact hk _ _ ⟨rfl,by rw [dand_t c]<;>rfl⟩
    ·simp only [l0,c,RR]
     exact hk _ _ ⟨rfl,by rw [dand_f c]<;>rfl⟩
  ·intro k hk
   by_cases c1:(dat ds x).kind=1
   ·have:(decide ((dat ds x).kind=1)||decide ((dat ds x).kind=2))=true:=by simp [c1]
    rw [this] at hk
    simp only [c1,RR] at hk ⊢
    exact hk _ _ ⟨rfl,rfl⟩
   ·have:(decide ((dat ds x).kind=1)||decide ((dat ds x).kind=2))=decide ((dat ds x).kind=2):=by simp [c1]
    rw [this] at hk
    simp only [c1,RR]
    exact hk _ _ ⟨rfl,rfl⟩
end
def expV (ds:List Dat):AV:=if (expE ds ds.length 0 (-1) [] []).2≠0 then .tup [roC [],iv (expE ds ds.length 0 (-1) [] []).2] else if 160<(expE ds ds.length 0 (-1) [] []).1.length then .tup [roC [],iv 2] else .tup [roC (expE ds ds.length 0 (-1) [] []).1,iv 0]
set_option maxHeartbeats 1000000 in
theorem c_impl_expanded {ds:List Dat} (h0:dataF ds=0) (h:R (.ret (expV ds)) σ):acall TP fn_impl_expanded [roD ds] σ R:=by
 have hd:=DOk.of h0
 have hls:=DLs.of h0
 have hdl:=hd.len
 refine acall_imp (Q:=fun e τ=>∃v,e= .ret v∧AH.Sub σ τ∧Fz σ τ v (expV ds)) ?_ (fun e τ ⟨v,h1,h2,h3⟩=>⟨v,h1,_,σ,imp_freeze h2 h3,h⟩)
 refine s_impl_expanded_ok (tF:=ty_RiE) catch_92 fun φa φb hφa hφb=>?_
 unfold s_impl_expanded
 have hs1:AH.Sub σ ((σ.set φa ⟨0,1,[[.val (.slice none 0 0)]]⟩).set φb ⟨0,1,[[.val (.int .i64 0)]]⟩):=(AH.Sub.set (.refl σ) _ hφa).trans (.set (.refl _) _ hφb)
 have hne:φa≠φb:=by rintro rfl;rw [AH.set_same] at hφb;cases hφb
 have hFa:((σ.set φa ⟨0,1,[[.val (.slice none 0 0)]]⟩).set φb ⟨0,1,[[.val (.int .i64 0)]]⟩) φa=some ⟨0,1,[[.val (.slice none 0 0)]]⟩:=by rw [AH.set_ne' hne,AH.set_same]
 have hFb:((σ.set φa ⟨0,1,[[.val (.slice none 0 0)]]⟩).set φb ⟨0,1,[[.val (.int .i64 0)]]⟩) φb=some ⟨0,1,[[.val (.int .i64 0)]]⟩:=AH.set_same ..
 have hb0:σ φb=none:=by rwa [AH.set_ne' (Ne.symm hne)] at hφb
 generalize (σ.set φa ⟨0,1,[[.val (.slice none 0 0)]]⟩).set φb ⟨0,1,[[.val (.int .i64 0)]]⟩=σ1 at hs1 hFa hFb ⊢
 have hset:∀(a b:AV),AH.Sub σ ((σ1.set φa ⟨0,1,[[a]]⟩).set φb ⟨0,1,[[b]]⟩):=fun a b ψ F hF=>by
  rw [AH.set_ne' (by rintro rfl;rw [hb0] at hF;cases hF),AH.set_ne' (by rintro rfl;rw [hφa] at hF;cases hF)]
  exact hs1 _ _ hF
 have hpan:∀c:Int,expV ds= .tup [roC [],iv c]→RD φa φb ty_RiE (fun e τ=>∃v,e= .ret v∧AH.Sub σ τ∧Fz σ τ v (expV ds)) (.pan (flt c)) σ1:=fun c hc=>⟨c,_,_,rfl,hFa,hFb,_,rfl,hset _ _,by
  rw [hc]
  refine .tup rfl fun j hj=>?_
  match j,hj with
  |0,_=>exact .nil
  |1,_=>exact .same _⟩
 have eb:bld [(.val (.slice none 0 0)),(.val (.slice none 0 0))] [(0,1),(1,1)] [(0,roD ds)]=some (.agg [roD ds,nilS]):=rfl
 simp only [eb,RR]
 refine abox_new rfl fun φm hφm=>?_
 have S0:MSt σ1 (σ1.set φm ⟨0,(fdQ ds []).length,[[roD ds,nilS]]⟩) φm (fdQ ds []):=by
  refine MSt.new hφm rfl (fun i f hf=>?_) (by intro v hv;simp only [List.mem_cons,List.not_mem_nil,or_false] at hv;rcases hv with rfl|rfl<;>rfl)
  match i,hf with
  |0,hf=>obtain rfl:=Option.some.inj hf;exact ⟨rfl,rfl,rfl⟩
  |1,hf=>obtain rfl:=Option.some.inj hf;exact .nil
 refine acall_frz (σ0:=σ1.set φm ⟨0,2,[[roD ds,nilS]]⟩) (args':=[.ptr φm 0 0 0,iv ((0:Nat):Int),iv (-1),roSc []]) (.refl _) rfl (fun i hi=>?_) ?_
 ·match i,hi with
  |0,_=>exact .same _
  |1,_=>exact .same _
  |2,_=>exact .same _
  |3,_=>exact .nil
 have hb:=nv_bound hd (x:=0) (by omega)
 have hV:expV ds=expV ds:=rfl
 conv at hV=>rhs;unfold expV
 refine expQ_all hls hd ds.length σ1 0 (-1) [] [] _ _ (by omega) (by omega) (.inl ⟨rfl,rfl⟩) S0 (fun q hq=>by cases hq) (by simp;omega) (by simp;omega) ?_
 generalize expE ds ds.length 0 (-1) [] []=E at hV ⊢
 refine .step (fun c2=>?_) (.refl _) fun c2 τ' S=>?_
 ·rw [if_pos c2] at hV
  exact hpan _ hV
 rw [if_neg (by simpa using c2)] at hV
 have hfz:Fz σ1 τ' (.ptr φm 0 0 0) (.rop [roD ds,roC E.1] 0):=by
  obtain ⟨vs,q1,q2,q3,q4,q5⟩:=S.ex
  obtain ⟨v1,e1,b1⟩:=S.lst (i:=1) rfl
  have e0:lod (.ptr φm 0 0 0) τ'=some (roD ds):=S.fix rfl
  have z1:=S.fzl (i:=1) rfl e1 (by intro c hc;obtain ⟨x,_,rfl⟩:=List.mem_map.1 hc;rfl)
  have hl:vs.length=2:=q2
  obtain ⟨a0,a1,rfl⟩:∃a0 a1,vs=[a0,a1]:=by
   match vs,hl with
   |[a0,a1],_=>exact ⟨a0,a1,rfl⟩
  have y0:lod (.ptr φm 0 0 0) τ'=some a0:=lod_at q1 rfl rfl
  have y1:lod (.ptr φm 0 0 1) τ'=some a1:=lod_at q1 rfl rfl
  rw [y0] at e0;rw [y1] at e1
  obtain rfl:=Option.some.inj e0
  obtain rfl:=Option.some.inj e1
  refine .ptr q1 S.fr rfl (by simp) rfl rfl fun j hj=>?_
  match j,hj with
  |0,_=>exact .same _
  |1,_=>exact z1
 refine ⟨_,σ1,S.sub,hfz,?_⟩
 have l1:∀τ,lod (.rop [roD ds,roC E.1] 1) τ=some (roC E.1):=fun _=>rfl
 have an:anil (.rop [roD ds,roC E.1] 0)=some (.rop [roD ds,roC E.1] 0):=rfl
 simp only [an,l1,len_ro,RR]
 refine c_stop (.refl _) (fun c3=>?_) fun c3=>?_
 ·have c3:160<E.1.length:=by have:decide ((160:Int)<(E.1.length:Int))=true:=c3;simp at this;omega
  rw [if_pos c3] at hV
  exact hpan _ hV
 have c3:¬160<E.1.length:=by have:decide ((160:Int)<(E.1.length:Int))=false:=c3;simp at this;omega
 rw [if_neg c3] at hV
 refine sto_fld (cs:=[.val (.slice none 0 0)]) hFa rfl (by decide) (acells_one rfl) rfl ?_
 refine sto_fld (cs:=[.val (.int .i64 0)]) (by rw [AH.set_ne' (Ne.symm hne)];exact hFb) rfl (by decide) rfl rfl ?_
 have la:lod (.ptr φa 0 0 0) ((σ1.set φa ⟨0,1,[[roC E.1]]⟩).set φb ⟨0,1,[[.val (.int .i64 0)]]⟩)=some (roC E.1):=lod_at (i:=0) (by rw [AH.set_ne' hne];exact AH.set_same ..) rfl rfl
 have lb:lod (.ptr φb 0 0 0) ((σ1.set φa ⟨0,1,[[roC E.1]]⟩).set φb ⟨0,1,[[.val (.int .i64 0)]]⟩)=some (.val (.int .i64 0)):=lod_at (i:=0) (AH.set_same ..) rfl rfl
 show og (lod (.ptr φa 0 0 0) ((σ1.set φa ⟨0,1,[[roC E.1]]⟩).set φb ⟨0,1,[[.val (.int .i64 0)]]⟩)) _
 rw [la]
 show og (lod (.ptr φb 0 0 0) ((σ1.set φa ⟨0,1,[[roC E.1]]⟩).set φb ⟨0,1,[[.val (.int .i64 0)]]⟩)) _
 rw [lb]
 refine ret_here ⟨_,rfl,hset _ _,?_⟩
 rw [hV]
 exact .same _
theorem c_impl_ExpandData {ds:List Dat} (h:R (.ret (.agg [iv (expR ds).2,roC (expR ds).1])) σ):acall TP fn_impl_ExpandData [roD ds] σ R:=by
 refine s_impl_ExpandData_ok ?_
 unfold s_impl_ExpandData
 intro φ hφ
 refine c_impl_DataFault ?_
 unfold expR at h
 simp only [RR]
 by_cases c:dataF ds=0
 ·rw [if_neg (by simpa using c)] at h
  simp only [c,RR]
  refine c_impl_expanded c ?_
  unfold expV
  generalize expE ds ds.length 0 (-1) [] []=E at h ⊢
  have fin:∀(a:Int) (cs:List Cor),R (.ret (.agg [iv a,roC cs])) σ→onr (fun v14 σ=>
    og (aext v14 0) fun v15=>
    og (aext v14 1) fun v16=>
    og (bld [(.val (.int .i64 0)),(.val (.slice none 0 0))] [(0,1),(1,1)] [(0,v16),(1,v15)]) fun v19=>
    sto 2 (.ptr φ 0 0 0) v19 σ fun σ=>
    og (lodA 2 (.ptr φ 0 0 0) σ) fun r2=>
    aret r2 σ R) (fun v σ=>apan v σ R) (.ret (.tup [roC cs,iv a])) (σ.set φ ⟨0,2,[[iv 0,nilS]]⟩):=fun a cs hh=>by
   have x0:aext (.tup [roC cs,iv a]) 0=some (roC cs):=rfl
   have x1:aext (.tup [roC cs,iv a]) 1=some (iv a):=rfl
   have eb:bld [(.val (.int .i64 0)),(.val (.slice none 0 0))] [(0,1),(1,1)] [(0,iv a),(1,roC cs)]=some (.agg [iv a,roC cs]):=rfl
   simp only [x0,x1,eb,RR]
   exact fin_cell hφ rfl rfl (by intro x hx;simp at hx;rcases hx with rfl|rfl<;>rfl) hh
  by_cases c2:E.2=0
  ·rw [if_neg (by simpa using c2)] at h ⊢
   by_cases c3:160<E.1.length
   ·rw [if_pos c3] at h ⊢
    exact fin _ _ h
   ·rw [if_neg c3] at h ⊢
    exact fin _ _ h
  ·rw [if_pos (by simpa using c2)] at h ⊢
   exact fin _ _ h
 ·rw [if_pos (by simpa using c)] at h
  have eb:bld [(.val (.int .i64 0)),(.val (.slice none 0 0))] [(0,1),(1,1)] [(0,iv (dataF ds))]=some (.agg [iv (dataF ds),nilS]):=rfl
  simp only [c,eb,RR]
  refine fin_cellZ (cs':=[iv (dataF ds),roC []]) hφ rfl rfl (by intro x hx;simp at hx;rcases hx with rfl|rfl<;>rfl) rfl (fun j hj=>?_) h
  match j,hj with
  |0,_=>exact .same _
  |1,_=>exact .nil
end Go.Proofs.YtbppopcpgcgkkaaGreatDoor.E
/- Code that is lent, and handed back. -/
namespace Go.Proofs.YtbppopcpgcgkkaaGreatDoor.E
open Go Go.RowKit
set_option maxRecDepth 100000
variable [L:Lam]
variable {σ τ τ':AH} {R:AEnd→AH→Prop}
open Classical in
noncomputable def only (τ:AH) (F:List Nat):AH:=fun φ=>if φ∈F then τ φ else none
end Go.Proofs.YtbppopcpgcgkkaaGreatDoor.E
/- Code of a line: by both; the law of PlainCode. -/
namespace Go.Proofs.YtbppopcpgcgkkaaGreatDoor.E
open Go Go.RowKit
set_option maxRecDepth 100000
variable [L:Lam]
variable {σ τ τ':AH} {R:AEnd→AH→Prop}
def bCo (N:Nat) (cs:List Cor):Prop:=cs.length≤N∧∀x,x∈cs→x.name.size≤N∧bD N x.data
theorem bCo_at {N:Nat} {cs:List Cor} (h:bCo N cs) (i:Nat):(corAt cs i).name.size≤N∧bD N (corAt cs i).data:=by
 by_cases hi:i<cs.length
 ·rw [←corAt_eq hi];exact h.2 _ (List.getElem_mem hi)
 ·have:corAt cs i=default:=by simp [corAt,List.getD,List.getElem?_eq_none (Nat.le_of_not_lt hi)]
  rw [this]
  exact ⟨Nat.zero_le _,Nat.zero_le _,fun d hd=>by cases hd⟩
theorem readC_bCo {t:List UInt8} (hl:t.length≤1048576) (h:(readC t).2=0):bCo 1048576 (readC t).1:=by
 obtain ⟨hw,hd⟩:=readC_wf h
 have hs:=readC_sm hl
 refine ⟨by have:=hw.len;omega,fun c hc=>⟨(hs c hc).1,?_,(hs c hc).2⟩⟩
 obtain ⟨i,hi,rfl⟩:=corAt_mem hc
 have:=hd i;omega
theorem cores_steps {f1 f2:FuncId} {t:List UInt8} (h1:∀{σ:AH} {R:AEnd→AH→Prop},R (.ret (.agg [iv (dataR t).2.1,iv ((dataR t).2.2:Nat),roD (dataR t).1])) σ→acall TP f1 [str (bs t)] σ R)
  (h2:∀{σ:AH} {R:AEnd→AH→Prop},R (.ret (.agg [iv (expR (dataR t).1).2,roC (expR (dataR t).1).1])) σ→acall TP f2 [roD (dataR t).1] σ R) (h:R (.ret (.tup [roC (readC t).1,iv (readC t).2])) σ):
  acall TP f1 [str (bs t)] σ (onr (fun v7 σ=>
 new [(.val (.int .i64 0)),(.val (.int .i64 0)),(.val (.slice none 0 0))] σ fun v4 σ=>
 sto 3 v4 v7 σ fun σ=>
 frz v4 σ fun f4 σ=>
 og (fldA 0 f4) fun v8=>
 og (lod v8 σ) fun v9=>
 og (ibin .neq v9 (.val (.int .i64 0))) fun v10=>
 apick v10 (
  og (fldA 0 f4) fun v11=>
  og (lod v11 σ) fun v12=>
  aret (.tup [(.val (.slice none 0 0)),v12]) σ R) (
  og (fldA 2 f4) fun v13=>
  og (lod v13 σ) fun v14=>
  acall TP f2 [v14] σ (onr (fun v15 σ=>
  new [(.val (.int .i64 0)),(.val (.slice none 0 0))] σ fun v5 σ=>
  sto 2 v5 v15 σ fun σ=>
  frz v5 σ fun f5 σ=>
  og (fldA 1 f5) fun v16=>
  og (lod v16 σ) fun v17=>
  og (fldA 0 f5) fun v18=>
  og (lod v18 σ) fun v19=>
  aret (.tup [v17,v19]) σ R) (fun v σ=>apan v σ R)))) (fun v σ=>apan v σ R)):=by
 refine h1 ?_
 simp only [RR]
 refine new_frz rfl rfl rfl (by intro y hy;simp only [List.mem_cons,List.not_mem_nil,or_false] at hy;rcases hy with rfl|rfl|rfl<;>rfl) ?_
 have l0:∀τ,lod (.rop [iv (dataR t).2.1,iv ((dataR t).2.2:Nat),roD (dataR t).1] 0) τ=some (iv (dataR t).2.1):=fun _=>rfl
 have l2:∀τ,lod (.rop [iv (dataR t).2.1,iv ((dataR t).2.2:Nat),roD (dataR t).1] 2) τ=some (roD (dataR t).1):=fun _=>rfl
 unfold readC at h
 simp only [l0,RR]
 by_cases c:(dataR t).2.1=0
 ·rw [if_neg (by simpa using c)] at h
  simp only [c,l2,RR]
  refine h2 ?_
  simp only [RR]
  refine new_frz rfl rfl rfl (one2 rfl rfl) ?_
  have m0:∀τ,lod (.rop [iv (expR (dataR t).1).2,roC (expR (dataR t).1).1] 0) τ=some (iv (expR (dataR t).1).2):=fun _=>rfl
  have m1:∀τ,lod (.rop [iv (expR (dataR t).1).2,roC (expR (dataR t).1).1] 1) τ=some (roC (expR (dataR t).1).1):=fun _=>rfl
  simp only [m0,m1,RR]
  exact ret_here h
 ·rw [if_pos (by simpa using c)] at h
  simp only [c,l0,RR]
  refine aret_freeze (a':= .tup [roC [],iv (dataR t).2.1]) (.refl _) (.tup rfl fun j hj=>?_) h
  match j,hj with
  |0,_=>exact .nil
  |1,_=>exact .same _
theorem c_spec_l8Cores {t:List UInt8} (hl:t.length≤1048576) (h:R (.ret (.tup [roC (readC t).1,iv (readC t).2])) σ):acall TP fn_spec_l8Cores [str (bs t)] σ R:=by
 refine s_spec_l8Cores_ok ?_
 unfold s_spec_l8Cores
 exact cores_steps (fun h=>c_spec_ReadData hl h) (fun h=>c_spec_ExpandData (dataR_sDn hl).sD h) h
section
variable [K:Knows QS]
theorem c_impl_readCore {t:List UInt8} (hl:t.length≤1048576) (h:R (.ret (.tup [roC (readC t).1,iv (readC t).2])) σ):acall TP fn_impl_readCore [str (bs t)] σ R:=by
 refine s_impl_readCore_ok ?_
 unfold s_impl_readCore
 exact cores_steps (fun h=>c_impl_ReadData (fun h=>c_impl_TokensOf h) h) (fun h=>c_impl_ExpandData h) h
end
end Go.Proofs.YtbppopcpgcgkkaaGreatDoor.E
/- Data and cores as texts: the reference's way; the law of CoreFor. -/
namespace Go.Proofs.YtbppopcpgcgkkaaGreatDoor.E
open Go Go.RowKit
set_option maxRecDepth 100000
variable [L:Lam]
variable {σ τ τ':AH} {R:AEnd→AH→Prop}
theorem join_step {f:Nat→List UInt8} {ks:List Nat} {j:Nat} (h:j<ks.length):Lib.join ((ks.take (j+1)).map f) [32]=(if j=0 then [] else Lib.join ((ks.take j).map f) [32]++[32])++f (ks.getD j 0):=by
 rw [getD_len f h,join_succ]
 by_cases c:j=0
 ·subst c;simp
 ·have hne:¬(ks.take j).map f=[]:=fun e=>by
   have:=congrArg List.length e
   rw [List.length_map,List.length_take,List.length_nil] at this
   omega
  rw [if_neg hne,if_neg c];simp
theorem sum_ones (ks:List Nat):(ks.map fun _=>1).sum=ks.length:=by
 induction ks with
 |nil=>rfl
 |cons k r ih=>rw [List.map_cons,List.sum_cons,ih,List.length_cons];omega
theorem join_le {f:Nat→List UInt8} (ks:List Nat) (j:Nat):(Lib.join ((ks.take j).map f) [32]).length≤sumL (ks.map f):=by
 have h1:=join_len ((ks.take j).map f)
 have h2:sumL (ks.map f)=sumL ((ks.take j).map f)+sumL ((ks.drop j).map f):=by rw [←sumL_app,←List.map_append,List.take_append_drop]
 omega
theorem tail_le {f:Nat→List UInt8} {ks:List Nat} {j:Nat} (h:j<ks.length):(f (ks.getD j 0)).length+1≤sumL (ks.map f):=by
 have h2:sumL (ks.map f)=sumL ((ks.take (j+1)).map f)+sumL ((ks.drop (j+1)).map f):=by rw [←sumL_app,←List.map_append,List.take_append_drop]
 rw [getD_len f h,sumL_app] at h2
 have h3:sumL [f (ks.getD j 0)]=(f (ks.getD j 0)).length+1:=by simp [sumL]
 omega
section
variable {ds:List Dat}
theorem c_spec_l3Write (hd:DOk ds) (ht:DTx ds):∀f x,x<ds.length→ds.length≤f+x→∀{σ:AH} {R:AEnd→AH→Prop},R (.ret (str (bs (writeD ds f x)))) σ→acall TP fn_spec_l3Write [roD ds,iv (x:Int)] σ R:=by
 intro f
 induction f with
 |zero=>intro x hx hf;omega
 |succ f ih=>
   intro x hx hfx σ R h
   have hdl:=hd.len
   have l0:∀τ,lod (.rop (encDat (dat ds x)) 0) τ=some (iv (dat ds x).kind):=fun _=>rfl
   have l2:∀τ,lod (.rop (encDat (dat ds x)) 2) τ=some (iv (dat ds x).num):=fun _=>rfl
   have l3:∀τ,lod (.rop (encDat (dat ds x)) 3) τ=some (str (dat ds x).name):=fun _=>rfl
   obtain ⟨t1,t2,t3⟩:=ht x hx
   refine s_spec_l3Write_ok ?_
   unfold s_spec_l3Write
   simp only [idx_ro hx len_encDat,dat_at hx,RR]
   rw [writeD] at h
   by_cases c1:(dat ds x).kind=1
   · rw [if_pos c1] at h
     simp only [l0,c1,l2,RR]
     have:=t1 c1
     refine c_spec_l1Digits_int (by omega) (by omega) ?_
     simp only [RR]
     exact ret_here h
   rw [if_neg c1] at h
   by_cases c2:(dat ds x).kind=2
   · rw [if_pos c2] at h
     have d1:¬(2:Int)=1:=by decide
     simp only [l0,c2,d1,RR]
     refine bsl_new (es:=[[str ⟨#[35,102]⟩],[str ⟨#[35,116]⟩]]) rfl (by omega) (by omega) fun ψ hψ=>?_
     have ix:∀i:Nat,i<2→idx 1 (.own ψ 0 0 2) (iv (i:Int)) (σ.set ψ ⟨0,1,[[str ⟨#[35,102]⟩],[str ⟨#[35,116]⟩]]⟩)=some (.ptr ψ 0 i 0):=fun i hi=>by
       have:=idx_own (st:=0) (off:=0) (i:=i) (n:=2) (AH.set_same σ ψ ⟨0,1,[[str ⟨#[35,102]⟩],[str ⟨#[35,116]⟩]]⟩) hi
       rwa [Nat.zero_add] at this
     have e0:lod (.ptr ψ 0 0 0) (σ.set ψ ⟨0,1,[[str ⟨#[35,102]⟩],[str ⟨#[35,116]⟩]]⟩)=some (str ⟨#[35,102]⟩):=lod_at (AH.set_same ..) rfl rfl
     have e1:lod (.ptr ψ 0 1 0) (σ.set ψ ⟨0,1,[[str ⟨#[35,102]⟩],[str ⟨#[35,116]⟩]]⟩)=some (str ⟨#[35,116]⟩):=lod_at (AH.set_same ..) rfl rfl
     have i0:=ix 0 (by omega)
     have i1:=ix 1 (by omega)
     rcases t2 c2 with n|n
     · have hb:boolT (dat ds x).num=[35,102]:=by unfold boolT;rw [if_neg (by omega)]
       rw [hb] at h
       simp only [l2,n,RR]
       change og (idx 1 (.own ψ 0 0 2) (iv ((0:Nat):Int)) _) _
       rw [i0]
       simp only [e0,RR]
       exact aret_sub (.set (.refl σ) _ hψ) h
     · have hb:boolT (dat ds x).num=[35,116]:=by unfold boolT;rw [if_pos n]
       rw [hb] at h
       simp only [l2,n,RR]
       change og (idx 1 (.own ψ 0 0 2) (iv ((1:Nat):Int)) _) _
       rw [i1]
       simp only [e1,RR]
       exact aret_sub (.set (.refl σ) _ hψ) h
   rw [if_neg c2] at h
   by_cases c3:(dat ds x).kind=3
   · rw [if_pos c3,bs_by8] at h
     have d1:¬(3:Int)=1:=by decide
     have d2:¬(3:Int)=2:=by decide
     simp only [l0,c3,d1,d2,l3,RR]
     exact ret_here h
   rw [if_neg c3] at h
   simp only [l0,c1,c2,c3,RR]
   refine c_spec_l3Parts (by omega) ?_
   simp only [RR]
   have hks:∀k,k∈kidsD ds x→k<ds.length∧ds.length≤f+k:=fun k hk=>by have:=hd.kid hk;omega
   have hkl:=kids_len (ds:=ds) x
   have hsm:sumL ((kidsD ds x).map (writeD ds f))≤300000:=by
     have h2:=sumL_map (f:=writeD ds f) (g:=fun _=>1) (B:=3201) (kidsD ds x) fun k hk=>by
       have:=writeD_sm hd ht f k (hd.kid hk).2;omega
     have h3:((kidsD ds x).map fun _=>1).sum=(kidsD ds x).length:=sum_ones _
     rw [h3] at h2
     omega
   generalize kidsD ds x=ks at h hsm hks hkl ⊢
   refine lp_by (fun n y τ=>τ=σ∧∃j:Nat,y=(roD ds,str (bs (40::Lib.join ((ks.take j).map (writeD ds f)) [32])),roK ks,iv (j:Int),())∧ks.length - j=n∧j≤ks.length) ks.length ⟨rfl,0,rfl,rfl,by omega⟩ ?_
   rintro n y τ ⟨rfl,j,rfl,rfl,hj⟩ R' hR'
   have hjl:=join_le (f:=writeD ds f) ks j
   simp only [lenK,RR]
   by_cases c:j<ks.length
   · have g:(j:Int)<(ks.length:Int):=by omega
     have hm:=hks _ (getD_mem c)
     have htl:=tail_le (f:=writeD ds f) c
     have step:∀z:List UInt8,z.length≤400000→z++writeD ds f (ks.getD j 0)=40::Lib.join ((ks.take (j+1)).map (writeD ds f)) [32]→
         og (idx 1 (roK ks) (iv (j:Int)) τ) fun v55=>
               og (lod v55 τ) fun v56=>
               acall TP fn_spec_l3Write [roD ds,v56] τ (onr (fun v57 σ=>
               og (sbin .add (str (bs z)) v57) fun v58=>
               og (ibin .add (iv (j:Int)) (.val (.int .i64 1))) fun v46=>
               R' (roD ds,v58,roK ks,v46,()) σ) (fun v σ=>apan v σ R)):=fun z hz e=>by
       simp only [idx_K c,lod_1,RR]
       refine ih _ hm.1 hm.2 ?_
       have a1:=cat1 (a:=z) (b:=writeD ds f (ks.getD j 0)) (by omega)
       simp only [a1,ibin_up c (by omega),RR]
       rw [e]
       exact hR' _ _ (ks.length - (j+1)) τ (by omega) (.refl _) ⟨rfl,j+1,rfl,rfl,c⟩
     have js:=join_step (f:=writeD ds f) c
     by_cases cj:j=0
     · have gj:¬(0:Int)<(j:Int):=by omega
       simp only [g,gj,jn,RR]
       refine step (40::Lib.join ((ks.take j).map (writeD ds f)) [32]) (by rw [List.length_cons];omega) ?_
       rw [js,if_pos cj,cj];simp [Lib.join_nil]
     · have gj:(0:Int)<(j:Int):=by omega
       have a0:=cat1 (a:=40::Lib.join ((ks.take j).map (writeD ds f)) [32]) (b:=[32]) (by simp only [List.length_cons,List.length_append,List.length_nil];omega)
       change sbin .add _ (.val (.string ⟨#[32]⟩))=_ at a0
       simp only [g,gj,a0,jn,RR]
       refine step ((40::Lib.join ((ks.take j).map (writeD ds f)) [32])++[32]) (by simp only [List.length_cons,List.length_append,List.length_nil];omega) ?_
       rw [js,if_neg cj];simp
   · have g:¬(j:Int)<(ks.length:Int):=by omega
     obtain rfl:j=ks.length:=by omega
     rw [List.take_length] at hjl ⊢
     have a0:=cat1 (a:=40::Lib.join (ks.map (writeD ds f)) [32]) (b:=[41]) (by simp only [List.length_cons,List.length_append,List.length_nil];omega)
     change sbin .add _ (.val (.string ⟨#[41]⟩))=_ at a0
     simp only [g,a0,RR]
     exact ret_here h
end
section
variable {cs:List Cor}
theorem tails_step {f:Nat→List UInt8} {ks:List Nat} {j:Nat} (h:j<ks.length):(((ks.take (j+1)).map f).map fun y=>(32:UInt8)::y).flatten=(((ks.take j).map f).map fun y=>(32:UInt8)::y).flatten++32::f (ks.getD j 0):=by
 rw [getD_len f h];simp
theorem tails_le {f:Nat→List UInt8} (ks:List Nat) (j:Nat):((((ks.take j).map f).map fun y=>(32:UInt8)::y).flatten).length≤sumL (ks.map f):=by
 have h2:sumL (ks.map f)=sumL ((ks.take j).map f)+sumL ((ks.drop j).map f):=by rw [←sumL_app,←List.map_append,List.take_append_drop]
 have:((((ks.take j).map f).map fun y=>(32:UInt8)::y).flatten).length=sumL ((ks.take j).map f):=by simp [sumL,List.length_flatten,Function.comp_def]
 omega
theorem c_spec_l4Text (hw:WfC cs) (ht:CTx cs):∀f x,x<cs.length→cs.length≤f+x→∀{σ:AH} {R:AEnd→AH→Prop},R (.ret (str (bs (textC cs f x)))) σ→acall TP fn_spec_l4Text [roC cs,iv (x:Int)] σ R:=by
 intro f
 induction f with
 |zero=>intro x hx hf;omega
 |succ f ih=>
  intro x hx hfx σ R h
  have hwl:=hw.len
  have l0:∀τ,lod (.rop (encCor (corAt cs x)) 0) τ=some (iv (corAt cs x).kind):=fun _=>rfl
  have l2:∀τ,lod (.rop (encCor (corAt cs x)) 2) τ=some (iv (corAt cs x).a):=fun _=>rfl
  have l3:∀τ,lod (.rop (encCor (corAt cs x)) 3) τ=some (iv (corAt cs x).b):=fun _=>rfl
  have l4:∀τ,lod (.rop (encCor (corAt cs x)) 4) τ=some (str (corAt cs x).name):=fun _=>rfl
  have l5:∀τ,lod (.rop (encCor (corAt cs x)) 5) τ=some (roD (corAt cs x).data):=fun _=>rfl
  have hsm:=textC_sm hw ht (f+1) x hx
  refine s_spec_l4Text_ok ?_
  unfold s_spec_l4Text
  simp only [idx_ro hx len_encCor,corAt_eq hx,RR]
  refine jn_by (P:=fun z τ=>τ=σ∧z=(roC cs,iv (x:Int),str (bs (40::Lib.join (headW (corAt cs x)) [32])),())∧(Lib.join (headW (corAt cs x)) [32]).length≤100∧R (.ret (str (bs (40::(Lib.join (headW (corAt cs x)++(kidsC cs x).map (textC cs f)) [32]++[41]))))) σ) ?_ ?_
  ·rintro z τ ⟨rfl,rfl,hhl,h⟩
   refine c_spec_l4Kids (by omega) ?_
   simp only [RR]
   rw [join_more (headW_ne _)] at h
   have hks:∀k,k∈kidsC cs x→k<cs.length∧cs.length≤f+k:=fun k hk=>by have:=hw.kid hk;omega
   have hkl:(kidsC cs x).length≤cs.length:=by unfold kidsC;exact Nat.le_trans (List.length_filter_le _ _) (by simp)
   have hsum:sumL ((kidsC cs x).map (textC cs f))≤110000000:=by
    have h2:=sumL_map (f:=textC cs f) (g:=fun _=>1) (B:=640001) (kidsC cs x) fun k hk=>by
     have:=textC_sm hw ht f k (hw.kid hk).2;omega
    have h3:((kidsC cs x).map fun _=>1).sum=(kidsC cs x).length:=sum_ones _
    rw [h3] at h2
    omega
   generalize kidsC cs x=ks at h hsum hks hkl ⊢
   generalize Lib.join (headW (corAt cs x)) [32]=hd at h hhl ⊢
   refine lp_by (fun n y τ1=>τ1=τ∧∃j:Nat,y=(roC cs,str (bs (40::(hd++(((ks.take j).map (textC cs f)).map fun y=>(32:UInt8)::y).flatten))),roK ks,iv (j:Int),())∧ks.length - j=n∧j≤ks.length) ks.length ⟨rfl,0,by simp;rfl,rfl,by omega⟩ ?_
   rintro n y τ1 ⟨rfl,j,rfl,rfl,hj⟩ R' hR'
   have hjl:=tails_le (f:=textC cs f) ks j
   simp only [lenK,RR]
   by_cases c:j<ks.length
   ·have g:(j:Int)<(ks.length:Int):=by omega
    have hm:=hks _ (getD_mem c)
    have htl:=tail_le (f:=textC cs f) c
    have js:=tails_step (f:=textC cs f) c
    generalize hp:(((ks.take j).map (textC cs f)).map fun y=>(32:UInt8)::y).flatten=pre at hjl js ⊢
    have a0:=cat1 (a:=40::(hd++pre)) (b:=[32]) (by simp only [List.length_cons,List.length_append,List.length_nil];omega)
    change sbin .add _ (.val (.string ⟨#[32]⟩))=_ at a0
    simp only [g,a0,idx_K c,lod_1,RR]
    refine ih _ hm.1 hm.2 ?_
    have a1:=cat1 (a:=40::(hd++pre)++[32]) (b:=textC cs f (ks.getD j 0)) (by simp only [List.length_cons,List.length_append,List.length_nil];omega)
    simp only [a1,ibin_up c (by omega),RR]
    have e:40::(hd++pre)++[32]++textC cs f (ks.getD j 0)=40::(hd++(((ks.take (j+1)).map (textC cs f)).map fun y=>(32:UInt8)::y).flatten):=by rw [js];simp
    rw [e]
    exact hR' _ _ (ks.length - (j+1)) τ1 (by omega) (.refl _) ⟨rfl,j+1,rfl,rfl,c⟩
   ·have g:¬(j:Int)<(ks.length:Int):=by omega
    obtain rfl:j=ks.length:=by omega
    rw [List.take_length] at hjl ⊢
    have a0:=cat1 (a:=40::(hd++((ks.map (textC cs f)).map fun y=>(32:UInt8)::y).flatten)) (b:=[41]) (by simp only [List.length_cons,List.length_append,List.length_nil];omega)
    change sbin .add _ (.val (.string ⟨#[41]⟩))=_ at a0
    simp only [g,a0,RR]
    exact ret_here h
  ·intro k hk
   rw [textC] at h hsm
   have an:anil (.rop (encCor (corAt cs x)) 0)=some (.rop (encCor (corAt cs x)) 0):=rfl
   have hdl:∀l:List (List UInt8),headW (corAt cs x)=l→sumL l≤100→(Lib.join (headW (corAt cs x)) [32]).length≤100:=fun l e hl=>Nat.le_trans (join_len _) (by rw [e];exact hl)
   have fin:∀(z:List UInt8) (l:List (List UInt8)),headW (corAt cs x)=l→sumL l≤100→z=40::Lib.join l [32]→R (.ret (str (bs (40::(Lib.join (headW (corAt cs x)++(kidsC cs x).map (textC cs f)) [32]++[41]))))) σ→k (roC cs,iv (x:Int),str (bs z),()) σ:=fun z l e hl hz h=>hk _ _ ⟨rfl,by subst e;rw [hz];rfl,hdl l e hl,h⟩
   by_cases c1:(corAt cs x).kind=1
   ·rw [if_pos c1] at h hsm
    have hd:=ht.data x hx c1
    have hdl:=(DOk.of hd).len
    simp only [an,l0,c1,l5,RR]
    refine c_spec_l3Write (DOk.of hd) (DTx.of hd) (corAt cs x).data.length 0 (by omega) (by omega) ?_
    have a1:=cat1 (a:=[39]) (b:=writeD (corAt cs x).data (corAt cs x).data.length 0) (by simp only [List.length_cons,List.length_nil] at hsm ⊢;omega)
    change sbin .add (.val (.string ⟨#[39]⟩)) _=_ at a1
    simp only [a1,RR]
    exact ret_here h
   rw [if_neg c1] at h hsm
   by_cases c2:(corAt cs x).kind=2
   ·rw [if_pos c2] at h
    have hl:=ht.loc x hx c2
    have i1:=itoa_len (v:=(corAt cs x).a) (by omega) (by omega)
    have i2:=itoa_len (v:=(corAt cs x).b) (by omega) (by omega)
    have d1:¬(2:Int)=1:=by decide
    simp only [an,l0,c2,d1,l2,l3,RR]
    refine c_spec_l1Digits_int (by omega) (by omega) ?_
    have a1:=cat1 (a:=[37]) (b:=Lib.itoa (corAt cs x).a) (by simp;omega)
    have a2:=cat1 (a:=[37]++Lib.itoa (corAt cs x).a) (b:=[46]) (by simp;omega)
    have a3:=cat1 (a:=[37]++Lib.itoa (corAt cs x).a++[46]) (b:=Lib.itoa (corAt cs x).b) (by simp;omega)
    change sbin .add (.val (.string ⟨#[37]⟩)) (str (itB (corAt cs x).a))=_ at a1
    change sbin .add _ (.val (.string ⟨#[46]⟩))=_ at a2
    change sbin .add _ (str (itB (corAt cs x).b))=_ at a3
    simp only [a1,a2,l3,RR,true_and,and_true]
    refine c_spec_l1Digits_int (by omega) (by omega) ?_
    simp only [a3,RR,true_and]
    have e:[37]++Lib.itoa (corAt cs x).a++[46]++Lib.itoa (corAt cs x).b=37::(Lib.itoa (corAt cs x).a++46::Lib.itoa (corAt cs x).b):=by simp
    rw [e]
    exact ret_here h
   rw [if_neg c2] at h hsm
   by_cases c3:(corAt cs x).kind=3
   ·rw [if_pos c3,bs_by8] at h
    have d1:¬(3:Int)=1:=by decide
    have d2:¬(3:Int)=2:=by decide
    simp only [an,l0,c3,d1,d2,l4,RR]
    exact ret_here h
   rw [if_neg c3] at h hsm
   by_cases c4:(corAt cs x).kind=4
   ·have d1:¬(4:Int)=1:=by decide
    have d2:¬(4:Int)=2:=by decide
    have d3:¬(4:Int)=3:=by decide
    simp only [an,l0,c4,d1,d2,d3,RR]
    exact fin [40,105,102] [[105,102]] (by unfold headW;rw [if_pos c4]) (by decide) (by rw [Lib.join_one]) h
   by_cases c5:(corAt cs x).kind=5
   ·have d1:¬(5:Int)=1:=by decide
    have d2:¬(5:Int)=2:=by decide
    have d3:¬(5:Int)=3:=by decide
    have d4:¬(5:Int)=4:=by decide
    have hl:=ht.lam x hx c5
    have il:=itoa_len (v:=(corAt cs x).a) (by omega) (by omega)
    simp only [an,l0,c5,d1,d2,d3,d4,l2,RR]
    refine c_spec_l1Digits_int (by omega) (by omega) ?_
    have a1:=cat1 (a:=[40,102,110,32]) (b:=Lib.itoa (corAt cs x).a) (by simp;omega)
    change sbin .add (.val (.string ⟨#[40,102,110,32]⟩)) (str (itB (corAt cs x).a))=_ at a1
    simp only [a1,RR]
    exact fin _ [[102,110],Lib.itoa (corAt cs x).a] (by unfold headW;rw [if_neg c4,if_pos c5]) (by simp [sumL];omega) (by rw [join_tail];simp) h
   by_cases c6:(corAt cs x).kind=6
   ·have d1:¬(6:Int)=1:=by decide
    have d2:¬(6:Int)=2:=by decide
    have d3:¬(6:Int)=3:=by decide
    have d4:¬(6:Int)=4:=by decide
    have d5:¬(6:Int)=5:=by decide
    simp only [an,l0,c6,d1,d2,d3,d4,d5,RR]
    exact fin [40,115,101,113] [[115,101,113]] (by unfold headW;rw [if_neg c4,if_neg c5,if_pos c6]) (by decide) (by rw [Lib.join_one]) h
   by_cases c7:(corAt cs x).kind=7
   ·have d1:¬(7:Int)=1:=by decide
    have d2:¬(7:Int)=2:=by decide
    have d3:¬(7:Int)=3:=by decide
    have d4:¬(7:Int)=4:=by decide
    have d5:¬(7:Int)=5:=by decide
    have d6:¬(7:Int)=6:=by decide
    have hn:=ht.name x hx (by rw [c7];rfl)
    rw [size_by8] at hn
    have a1:=cat1 (a:=[40,115,101,116,32]) (b:=by8 (corAt cs x).name) (by simp only [List.length_cons,List.length_nil];omega)
    rw [bs_by8] at a1
    change sbin .add (.val (.string ⟨#[40,115,101,116,32]⟩)) _=_ at a1
    simp only [an,l0,c7,d1,d2,d3,d4,d5,d6,l4,a1,RR]
    exact fin _ [[115,101,116],by8 (corAt cs x).name] (by unfold headW;rw [if_neg c4,if_neg c5,if_neg c6,if_pos c7]) (by simp [sumL] at hn ⊢;omega) (by rw [join_tail];simp) h
   by_cases c8:(corAt cs x).kind=8
   ·have d1:¬(8:Int)=1:=by decide
    have d2:¬(8:Int)=2:=by decide
    have d3:¬(8:Int)=3:=by decide
    have d4:¬(8:Int)=4:=by decide
    have d5:¬(8:Int)=5:=by decide
    have d6:¬(8:Int)=6:=by decide
    have d7:¬(8:Int)=7:=by decide
    have hn:=ht.name x hx (by rw [c8];rfl)
    rw [size_by8] at hn
    have a1:=cat1 (a:=[40,100,101,102,32]) (b:=by8 (corAt cs x).name) (by simp only [List.length_cons,List.length_nil];omega)
    rw [bs_by8] at a1
    change sbin .add (.val (.string ⟨#[40,100,101,102,32]⟩)) _=_ at a1
    simp only [an,l0,c8,d1,d2,d3,d4,d5,d6,d7,l4,a1,RR]
    exact fin _ [[100,101,102],by8 (corAt cs x).name] (by unfold headW;rw [if_neg c4,if_neg c5,if_neg c6,if_neg c7,if_pos c8]) (by simp [sumL] at hn ⊢;omega) (by rw [join_tail];simp) h
   simp only [an,l0,c1,c2,c3,c4,c5,c6,c7,c8,RR]
   exact fin [40,97,112,112] [[97,112,112]] (by unfold headW;rw [if_neg c4,if_neg c5,if_neg c6,if_neg c7,if_neg c8]) (by decide) (by rw [Lib.join_one]) h
end
theorem c_spec_CoreText {cs:List Cor} (hnm:∀i,(corAt cs i).name.size≤1099511627776) (hsd:∀i,sD (corAt cs i).data) (h:R (.ret (.agg [iv (ctxt cs).1,str (bs (ctxt cs).2)])) σ):acall TP fn_spec_CoreText [roC cs] σ R:=by
 refine s_spec_CoreText_ok ?_
 unfold s_spec_CoreText
 intro φ hφ
 refine c_spec_l4Fault hnm hsd ?_
 unfold ctxt at h
 simp only [RR]
 by_cases c0:coresF cs=0
 ·rw [if_neg (by simpa using c0)] at h
  obtain ⟨hw,_⟩:=coresF_wf c0
  have ht:=CTx.of c0
  have hwl:=hw.len
  simp only [c0,RR]
  refine c_spec_l4Text hw ht cs.length 0 (by omega) (by omega) ?_
  simp only [size_bs,RR]
  by_cases c:1500<(textC cs cs.length 0).length
  ·rw [if_pos c] at h
   have g:(1500:Int)<((textC cs cs.length 0).length:Int):=by omega
   simp only [g,(bldTx 2 ⟨#[]⟩).1,RR]
   exact fin_cell hφ rfl rfl (one2 rfl rfl) h
  ·rw [if_neg c] at h
   have g:¬(1500:Int)<((textC cs cs.length 0).length:Int):=by omega
   simp only [g,(bldTx 0 (bs (textC cs cs.length 0))).2,RR]
   exact fin_cell hφ rfl rfl (one2 rfl rfl) h
 ·rw [if_pos c0] at h
  simp only [c0,(bldTx (coresF cs) ⟨#[]⟩).1,RR]
  exact fin_cell hφ rfl rfl (one2 rfl rfl) h
def cfor (t:List UInt8):Int × List UInt8:=if (readC t).2≠0 then ((readC t).2,[]) else ctxt (readC t).1
theorem c_spec_CoreFor {t:List UInt8} (hl:t.length≤1048576) (h:R (.ret (.agg [iv (cfor t).1,str (bs (cfor t).2)])) σ):acall TP fn_spec_CoreFor [str (bs t)] σ R:=by
 refine s_spec_CoreFor_ok ?_
 unfold s_spec_CoreFor
 intro φ hφ
 refine c_spec_l8Cores hl ?_
 have x0:aext (.tup [roC (readC t).1,iv (readC t).2]) 0=some (roC (readC t).1):=rfl
 have x1:aext (.tup [roC (readC t).1,iv (readC t).2]) 1=some (iv (readC t).2):=rfl
 unfold cfor at h
 simp only [x0,x1,RR]
 by_cases c:(readC t).2=0
 ·rw [if_neg (by simpa using c)] at h
  have hb:=readC_bCo hl c
  simp only [c,RR]
  refine c_spec_CoreText (fun i=>Nat.le_trans (bCo_at hb i).1 (by decide)) (fun i d hd=>Nat.le_trans ((bCo_at hb i).2.2 d hd) (by decide)) ?_
  simp only [RR]
  exact fin_cell hφ rfl rfl (one2 rfl rfl) h
 ·rw [if_pos c] at h
  simp only [c,(bldTx (readC t).2 ⟨#[]⟩).1,RR]
  exact fin_cell hφ rfl rfl (one2 rfl rfl) h
def AllA (C:List Cor):Prop:=∀c,c∈C→c.a≤1000
theorem AllA.one {C:List Cor} {c:Cor} (h:AllA C) (g:c.a≤1000):AllA (C++[c]):=fun x hx=>(List.mem_append.1 hx).elim (h x) fun hx=>by obtain rfl:=List.mem_singleton.1 hx;exact g
theorem findE_lt {s:ByteArray}:∀(sc:Sco) (a b:Nat),findE sc s=some (a,b)→a<sc.length:=by
 intro sc
 induction sc with
 |nil=>intro a b h;cases h
 |cons ns r ih=>
  intro a b h
  rw [findE] at h
  cases hp:posL ns s with
  |some k=>
   rw [hp] at h
   have:(0,k)=(a,b):=Option.some.inj h
   injection this with h1 _
   rw [←h1,List.length_cons];omega
  |none=>
   rw [hp] at h
   cases hf:findE r s with
   |none=>rw [hf] at h;cases h
   |some q=>
    rw [hf] at h
    have:(q.1+1,q.2)=(a,b):=Option.some.inj h
    injection this with h1 _
    have:=ih q.1 q.2 hf
    rw [List.length_cons];omega
def OkA (g:Gx) (m:Nat):Prop:=∀x p sc C,List.length sc≤m→AllA C→AllA (g x p sc C).1
theorem all_a {g:Nat→List Cor→Ex} (hg:∀k C,AllA C→AllA (g k C).1):∀ks C,AllA C→AllA (allE g ks C).1:=by
 intro ks
 induction ks with
 |nil=>intro C h;exact h
 |cons k r ih=>
  intro C h
  rw [allE]
  split
  ·exact hg k C h
  ·exact ih _ (hg k C h)
section
variable {ds:List Dat}
theorem form_a {g:Gx} {m:Nat} (hg:OkA g m) (hg1:OkA g (m+1)) {w:ByteArray} {ks:List Nat} {p:Int} {sc:Sco} {C:List Cor} (hs:sc.length≤m) (hC:AllA C):AllA (formE ds g w ks p sc C).1:=by
 have nod:∀(k p:Int) (a:Nat),a≤1000→(nodC k p a).a≤1000:=fun k p a h=>by show (a:Int)≤1000;omega
 have asg:∀kind,AllA (asgE ds g ks p sc C kind).1:=fun kind=>by
  unfold asgE
  split
  ·exact hC
  split
  ·exact hC
  split
  ·exact hC
  ·exact hg _ _ _ _ hs (hC.one (by show (0:Int)≤1000;omega))
 unfold formE
 split
 ·split
  ·exact hC
  ·exact hC.one (by show (0:Int)≤1000;omega)
 split
 ·split
  ·exact hC
  ·exact all_a (fun k C h=>hg _ _ _ _ hs h) _ _ (hC.one (nod _ _ _ (by omega)))
 split
 ·split
  ·exact hC
  ·exact all_a (fun k C h=>hg _ _ _ _ hs h) _ _ (hC.one (nod _ _ _ (by omega)))
 split
 ·unfold lamE
  split
  ·exact hC
  ·split
   ·exact hC
   ·split
    ·exact hC
    ·exact hg1 _ _ _ _ (by rw [List.length_cons];omega) (hC.one (nod _ _ _ (by omega)))
 split
 ·unfold letE
  split
  ·exact hC
  ·split
   ·exact hC
   ·rename_i ns vs _
    split
    ·exact hC
    ·have h1:AllA (g (ks.getD 2 0) ((C.length+1:Nat):Int) (ns::sc) (C++[nodC 9 p 0]++[nodC 5 (C.length:Int) ns.length])).1:=hg1 _ _ _ _ (by rw [List.length_cons];omega) ((hC.one (nod _ _ _ (by omega))).one (nod _ _ _ (by omega)))
     split
     ·exact h1
     ·exact all_a (fun k C h=>hg _ _ _ _ hs h) _ _ h1
 split
 ·exact asg 8
 ·exact asg 7
theorem exp_a:∀f m,m+f≤1000→OkA (expE ds f) m:=by
 intro f
 induction f with
 |zero=>intro m _ x p sc C _ hC;exact hC
 |succ f ih=>
  intro m hm x p sc C hs hC
  rw [expE]
  split
  ·exact hC.one (by show (0:Int)≤1000;omega)
  split
  ·split
   ·exact hC
   ·split
    ·rename_i a b e
     have:=findE_lt _ _ _ e
     exact hC.one (by show (a:Int)≤1000;omega)
    ·exact hC.one (by show (0:Int)≤1000;omega)
  split
  ·exact hC
  split
  ·exact form_a (ih m (by omega)) (ih (m+1) (by omega)) hs hC
  split
  ·exact hC
  ·exact all_a (fun k C h=>ih m (by omega) _ _ _ _ hs h) _ _ (hC.one (by show ((0:Nat):Int)≤1000;omega))
end
theorem readC_aOk {t:List UInt8}:aOk (readC t).1:=by
 have no:AllA []:=fun c hc=>by cases hc
 have key:AllA (readC t).1:=by
  unfold readC
  split
  ·exact no
  unfold expR
  split
  ·exact no
  rename_i c
  have hl:=dataF_len (Classical.byContradiction c)
  split
  ·exact no
  split
  ·exact no
  ·exact exp_a _ 0 (by omega) _ _ _ _ (Nat.le_refl _) no
 intro i
 by_cases hi:i<(readC t).1.length
 ·have:=key _ (List.getElem_mem hi)
  rw [corAt_eq hi] at this;omega
 ·have:corAt (readC t).1 i=default:=by simp [corAt,List.getD,List.getElem?_eq_none (Nat.le_of_not_lt hi)]
  rw [this]
  show (0:Int)≤_
  omega
variable [K:Knows QS]
theorem c_impl_CoreFor {t:List UInt8} (hl:t.length≤1048576) (h:R (.ret (.agg [iv (cfor t).1,str (bs (cfor t).2)])) σ):acall TP fn_impl_CoreFor [str (bs t)] σ R:=by
 refine s_impl_CoreFor_ok ?_
 unfold s_impl_CoreFor
 intro φ hφ
 refine c_impl_readCore hl ?_
 have x0:aext (.tup [roC (readC t).1,iv (readC t).2]) 0=some (roC (readC t).1):=rfl
 have x1:aext (.tup [roC (readC t).1,iv (readC t).2]) 1=some (iv (readC t).2):=rfl
 unfold cfor at h
 simp only [x0,x1,RR]
 by_cases c:(readC t).2=0
 ·rw [if_neg (by simpa using c)] at h
  have hw:=(readC_wf c).1.len
  simp only [c,RR]
  refine c_impl_CoreText readC_aOk (by omega) ?_
  simp only [RR]
  exact fin_cell hφ rfl rfl (one2 rfl rfl) h
 ·rw [if_pos c] at h
  simp only [c,(bldTx (readC t).2 ⟨#[]⟩).1,RR]
  exact fin_cell hφ rfl rfl (one2 rfl rfl) h
theorem c_laws_eqTextResult {c:Int} {s:ByteArray} (h:R (.ret (bv true)) σ):acall TP fn_laws_eqTextResult [.agg [iv c,str s],.agg [iv c,str s]] σ R:=by
 refine s_laws_eqTextResult_ok ?_
 unfold s_laws_eqTextResult
 refine box2_frz rfl rfl ?_
 have e0:∀τ,lod (.rop [iv c,str s] 0) τ=some (iv c):=fun _=>rfl
 have e1:∀τ,lod (.rop [iv c,str s] 1) τ=some (str s):=fun _=>rfl
 simp only [RR,e0,e1,sbin_neq',dec_self]
 exact ret_here h
theorem c_laws_FnExactCoreFor {x:ByteArray} {R:AEnd→AH→Prop} (h:∀σ,R (.ret (bv true)) σ):acall TP fn_laws_FnExactCoreFor [str x] ah0 R:=by
 have hret:∀σ,aret (bv true) σ R:=fun σ=>ret_here (h σ)
 rw [←bs_by8 x]
 generalize by8 x=t
 refine s_laws_FnExactCoreFor_ok ?_
 unfold s_laws_FnExactCoreFor
 simp only [size_bs,RR]
 refine apick_cases (fun _=>hret _) (fun c=>?_)
 have hl:t.length≤1048576:=by have:=of_decide_eq_false c;omega
 refine c_spec_CoreFor hl ?_
 refine new_frz rfl rfl rfl (one2 rfl rfl) ?_
 refine c_impl_CoreFor hl ?_
 refine new_frz rfl rfl rfl (one2 rfl rfl) ?_
 simp only [lodA_all (cs:=[_,_]) (n:=2) rfl,RR]
 refine c_laws_eqTextResult ?_
 simp only [RR]
 exact hret _
end Go.Proofs.YtbppopcpgcgkkaaGreatDoor.E

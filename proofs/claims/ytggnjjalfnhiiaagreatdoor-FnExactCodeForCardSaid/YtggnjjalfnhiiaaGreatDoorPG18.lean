import Derived.Test.YtggnjjalfnhiiaaGreatDoorPG17
import Derived.Lib.FrozenHead
import Derived.Lib.OthersKept
import Derived.Deep.RegionWith
import Derived.WalkKit
import Derived.BigCall
import Derived.BigGuard
/- Data and cores as texts: the reference's way; the law of CoreFor. -/
set_option linter.unusedSectionVars false
set_option linter.unusedSimpArgs false
set_option linter.unusedVariables false
namespace Go.Proofs.YtggnjjalfnhiiaaGreatDoor.E
open Go Go.RowKit
section
set_option maxRecDepth 100000
variable [L:Lam] {σ τ τ':AH} {R:AEnd→AH→Prop}
theorem Qvv {f:Nat→List UInt8} {ks:List Nat} {j:Nat} (h:j<ks.length):Lib.join ((ks.take (j+1)).map f) [32]=(if j=0 then [] else Lib.join ((ks.take j).map f) [32]++[32])++f (ks.getD j 0):=by
 rw[Qnt f h,Qqt];by_cases c:j=0
 ·subst c;simp
 ·have hne:¬(ks.take j).map f=[]:=fun e=>by
   have:=congrArg List.length e;rw[List.length_map,List.length_take,List.length_nil] at this;omega
  rw[if_neg hne,if_neg c];simp
theorem Qxk (ks:List Nat):(ks.map fun _=>1).sum=ks.length:=by
 induction ks with
 |nil=>rfl
 |cons k r ih=>rw[List.map_cons,List.sum_cons,ih,List.length_cons];omega
theorem QAp {f:Nat→List UInt8} (ks:List Nat) (j:Nat):(Lib.join ((ks.take j).map f) [32]).length≤sumL (ks.map f):=by
 have h1:=Qns ((ks.take j).map f);have h2:sumL (ks.map f)=sumL ((ks.take j).map f)+sumL ((ks.drop j).map f):=by rw[←QiS,←List.map_append,List.take_append_drop]
 omega
theorem QAq {f:Nat→List UInt8} {ks:List Nat} {j:Nat} (h:j<ks.length):(f (ks.getD j 0)).length+1≤sumL (ks.map f):=by
 have h2:sumL (ks.map f)=sumL ((ks.take (j+1)).map f)+sumL ((ks.drop (j+1)).map f):=by rw[←QiS,←List.map_append,List.take_append_drop]
 rw[Qnt f h,QiS] at h2;have h3:sumL [f (ks.getD j 0)]=(f (ks.getD j 0)).length+1:=by simp[sumL]
 omega
section
variable {ds:List Dat}
theorem QpR (hd:DOk ds) (ht:DTx ds):∀f x,x<ds.length→ds.length≤f+x→∀{σ:AH} {R:AEnd→AH→Prop},R (.ret (str (bs (QX ds f x)))) σ→acall TP Qcn [roD ds,iv (x:Int)] σ R:=by
 intro f
 induction f with
 |zero=>intro x hx hf;omega
 |succ f ih=>
   intro x hx hfx σ R h;have hdl:=hd.len;have l0:∀τ,lod (.rop (Qc (dat ds x)) 0) τ=some (iv (dat ds x).kind):=fun _=>rfl
   have l2:∀τ,lod (.rop (Qc (dat ds x)) 2) τ=some (iv (dat ds x).num):=fun _=>rfl
   have l3:∀τ,lod (.rop (Qc (dat ds x)) 3) τ=some (str (dat ds x).name):=fun _=>rfl
   obtain ⟨t1,t2,t3⟩:=ht x hx;refine Qly ?_;unfold x42;dsimp only[den,dE,di,tupL,lTup,den2,den3,den4,List.map,den0,den1];simp only[Qq hx Ql,QZ hx,RR];rw[QX] at h;by_cases c1:(dat ds x).kind=1
   · rw[if_pos c1] at h
     simp only[l0,c1,l2,RR];have:=t1 c1;refine JC (by omega) (by omega) ?_;simp only[RR];exact Qa h
   rw[if_neg c1] at h;by_cases c2:(dat ds x).kind=2
   · rw[if_pos c2] at h
     have d1:¬(2:Int)=1:=by decide
     simp only[l0,c2,d1,RR];refine QpJ (es:=[[str ⟨#[35,102]⟩],[str ⟨#[35,116]⟩]]) rfl (by omega) (by omega) fun ψ hψ=>?_
     have ix:∀i:Nat,i<2→idx 1 (.own ψ 0 0 2) (iv (i:Int)) (σ.set ψ ⟨0,1,[[str ⟨#[35,102]⟩],[str ⟨#[35,116]⟩]]⟩)=some (.ptr ψ 0 i 0):=fun i hi=>by
       have:=Jg (st:=0) (off:=0) (i:=i) (n:=2) (AH.set_same σ ψ ⟨0,1,[[str ⟨#[35,102]⟩],[str ⟨#[35,116]⟩]]⟩) hi
       rwa [Nat.zero_add] at this
     have e0:lod (.ptr ψ 0 0 0) (σ.set ψ ⟨0,1,[[str ⟨#[35,102]⟩],[str ⟨#[35,116]⟩]]⟩)=some (str ⟨#[35,102]⟩):=Qz (AH.set_same ..) rfl rfl;have e1:lod (.ptr ψ 0 1 0) (σ.set ψ ⟨0,1,[[str ⟨#[35,102]⟩],[str ⟨#[35,116]⟩]]⟩)=some (str ⟨#[35,116]⟩):=Qz (AH.set_same ..) rfl rfl;have i0:=ix 0 (by omega);have i1:=ix 1 (by omega);rcases t2 c2 with n|n
     · have hb:QgF (dat ds x).num=[35,102]:=by unfold QgF;rw[if_neg (by omega)]
       rw[hb] at h;simp only[l2,n,RR];change og (idx 1 (.own ψ 0 0 2) (iv ((0:Nat):Int)) _) _;rw[i0];simp only[e0,RR];exact Uk (.set (.refl σ) _ hψ) h
     · have hb:QgF (dat ds x).num=[35,116]:=by unfold QgF;rw[if_pos n]
       rw[hb] at h;simp only[l2,n,RR];change og (idx 1 (.own ψ 0 0 2) (iv ((1:Nat):Int)) _) _;rw[i1];simp only[e1,RR];exact Uk (.set (.refl σ) _ hψ) h
   rw[if_neg c2] at h;by_cases c3:(dat ds x).kind=3
   · rw[if_pos c3,Qfc] at h
     have d1:¬(3:Int)=1:=by decide
     have d2:¬(3:Int)=2:=by decide
     simp only[l0,c3,d1,d2,l3,RR];exact Qa h
   rw[if_neg c3] at h;simp only[l0,c1,c2,c3,RR];refine U1 (by omega) ?_;simp only[RR];have hks:∀k,k∈Qe ds x→k<ds.length∧ds.length≤f+k:=fun k hk=>by have:=hd.kid hk;omega
   have hkl:=Qc0 (ds:=ds) x;have hsm:sumL ((Qe ds x).map (QX ds f))≤300000:=by
     have h2:=Qse (f:=QX ds f) (g:=fun _=>1) (B:=3201) (Qe ds x) fun k hk=>by
       have:=QgG hd ht f k (hd.kid hk).2;omega
     have h3:((Qe ds x).map fun _=>1).sum=(Qe ds x).length:=Qxk _;rw[h3] at h2;omega
   generalize Qe ds x=ks at h hsm hks hkl ⊢;refine QF (fun n y τ=>τ=σ∧∃j:Nat,y=(roD ds,str (bs (40::Lib.join ((ks.take j).map (QX ds f)) [32])),roK ks,iv (j:Int),())∧ks.length - j=n∧j≤ks.length) ks.length ⟨rfl,0,rfl,rfl,by omega⟩ ?_;rintro n y τ ⟨rfl,j,rfl,rfl,hj⟩ R' hR';have hjl:=QAp (f:=QX ds f) ks j;simp only[lenK,RR];by_cases c:j<ks.length
   · have g:(j:Int)<(ks.length:Int):=by omega
     have hm:=hks _ (QD c);have htl:=QAq (f:=QX ds f) c;have step:∀z:List UInt8,z.length≤400000→z++QX ds f (ks.getD j 0)=40::Lib.join ((ks.take (j+1)).map (QX ds f)) [32]→
         og (idx 1 (roK ks) (iv (j:Int)) τ) fun v55=>
               og (lod v55 τ) fun v56=>
               acall TP Qcn [roD ds,v56] τ (onr (fun v57 σ=>
               og (sbin .add (str (bs z)) v57) fun v58=>
               og (ibin .add (iv (j:Int)) (iv 1)) fun v46=>
               R' (roD ds,v58,roK ks,v46,()) σ) (fun v σ=>apan v σ R)):=fun z hz e=>by
       simp only[Q1 c,Qv,RR];refine ih _ hm.1 hm.2 ?_;have a1:=cat1 (a:=z) (b:=QX ds f (ks.getD j 0)) (by omega);simp only[a1,Qh c (by omega),RR];rw[e];exact hR' _ _ (ks.length - (j+1)) τ (by omega) (.refl _) ⟨rfl,j+1,rfl,rfl,c⟩
     have js:=Qvv (f:=QX ds f) c;by_cases cj:j=0
     · have gj:¬(0:Int)<(j:Int):=by omega
       simp only[g,gj,jn,RR];refine step (40::Lib.join ((ks.take j).map (QX ds f)) [32]) (by rw[List.length_cons];omega) ?_;rw[js,if_pos cj,cj];simp[Lib.join_nil]
     · have gj:(0:Int)<(j:Int):=by omega
       have a0:=cat1 (a:=40::Lib.join ((ks.take j).map (QX ds f)) [32]) (b:=[32]) (by simp only[List.length_cons,List.length_append,List.length_nil];omega);change sbin .add _ (.val (.string ⟨#[32]⟩))=_ at a0;simp only[g,gj,a0,jn,RR];refine step ((40::Lib.join ((ks.take j).map (QX ds f)) [32])++[32]) (by simp only[List.length_cons,List.length_append,List.length_nil];omega) ?_;rw[js,if_neg cj];simp
   · have g:¬(j:Int)<(ks.length:Int):=by omega
     obtain rfl:j=ks.length:=by omega
     rw[List.take_length] at hjl ⊢;have a0:=cat1 (a:=40::Lib.join (ks.map (QX ds f)) [32]) (b:=[41]) (by simp only[List.length_cons,List.length_append,List.length_nil];omega);change sbin .add _ (.val (.string ⟨#[41]⟩))=_ at a0;simp only[g,a0,RR];exact Qa h
end
section
variable {cs:List Cor}
end
section
variable {ds:List Dat}
end
variable [K:Knows QS]
end
section
set_option maxRecDepth 100000
variable [L:Lam] {σ τ τ':AH} {R:AEnd→AH→Prop}
set_option maxHeartbeats 1000000 in
theorem QqW {o:OpD} (ho:OTx o) (h:R (.ret (str (bs (txtO o)))) σ):acall TP Qg8 [.rop (Qk o) 0] σ R:=by
 obtain ⟨n,hn,hk⟩:∃n:Nat,n<16∧o.kind=(n:Int)+1:=⟨(o.kind - 1).toNat,by have:=ho.kind;omega,by have:=ho.kind;omega⟩;have l0:∀τ,lod (.rop (Qk o) 0) τ=some (iv o.kind):=fun _=>rfl
 have l5:∀τ,lod (.rop (Qk o) 5) τ=some (str o.name):=fun _=>rfl
 have l6:∀τ,lod (.rop (Qk o) 6) τ=some (roD o.data):=fun _=>rfl
 have hpt:=Qqu ho;have hnl:=QiA o.kind;have hnums:=ho.num;have a0:anil (.rop (Qk o) 0)=some (.rop (Qk o) 0):=rfl;refine QmH ?_;unfold x23;dsimp only[den,dE,di,tupL,lTup,den2,den3,den4,List.map,den0,den1];refine Qpc (es:=([]::kwL).map fun w=>[str (bs w)]) rfl (by decide) rfl (fun c hc=>by obtain ⟨x,_,rfl⟩:=List.mem_map.1 hc;rfl) ?_;have hlt:n+1<(([]:List UInt8)::kwL).length:=by show n+1<17;omega
 have ix:idx 1 (.ro ((([]:List UInt8)::kwL).map fun w=>[str (bs w)])) (iv o.kind) σ=some (.rop [str (bs ((([]:List UInt8)::kwL)[n+1]'hlt))] 0):=by
  rw[hk];exact Qq (enc:=fun w=>[str (bs w)]) (es:=[]::kwL) hlt fun _=>rfl
 have ew:(([]:List UInt8)::kwL)[n+1]'hlt=kwL.getD n []:=by
  have h2:n<kwL.length:=hn;rw[List.getElem_cons_succ];simp[List.getD,h2]
 rw[ew] at ix;have lw:∀τ,lod (.rop [str (bs (kwL.getD n []))] 0) τ=some (str (bs (kwL.getD n []))):=fun _=>rfl
 have ekw:(o.kind - 1).toNat=n:=by omega
 have hk10:=Qvt n;simp only[a0,l0,ix,lw,RR];refine J3 (P:=fun z τ=>σ=τ∧∃t,z=(.rop (Qk o) 0,str (bs t),())∧t.length≤3000∧((Uh o.kind=false∧t=Lib.join (hdO o) [32])∨(Uh o.kind=true∧t=kwL.getD n []∧hdO o=[kwL.getD n [],QX o.data o.data.length 0]))) ?_ ?_
 ·rintro z _ ⟨rfl,t,rfl,ht,hc⟩;refine J3 (P:=fun z τ1=>σ=τ1∧z=(.rop (Qk o) 0,str (bs (Lib.join (hdO o) [32])),())) ?_ ?_
  ·rintro z _ ⟨rfl,rfl⟩;refine QkK ?_;simp only[RR];refine QF (fun m y τ1=>∃j:Nat,y=(.rop (Qk o) 0,str (bs (Lib.join (hdO o++((opL o).take j).map Lib.itoa) [32])),roN (opL o),iv (j:Int),())∧σ=τ1∧QJ o.kind - j=m∧j≤QJ o.kind) (QJ o.kind) ⟨0,by rw[List.take_zero,List.map_nil,List.append_nil];rfl,rfl,rfl,by omega⟩ ?_;rintro m y _ ⟨j,rfl,rfl,rfl,hj⟩ R' hR';simp only[a0,l0,RR];refine Qjv ?_;by_cases c:j<QJ o.kind
   ·have g:(j:Int)<(QJ o.kind:Int):=by omega
    have hj4:j<4:=by omega
    have hm:=hnums _ (List.getElem_mem (show j<(opL o).length from hj4));have lx:∀τ,lod (.rop [iv ((opL o)[j]'hj4)] 0) τ=some (iv ((opL o)[j]'hj4)):=fun _=>rfl
    have hp:=hpt j;have hp1:=hpt (j+1);have es:(opL o).take (j+1)=(opL o).take j++[(opL o)[j]'hj4]:=List.take_succ_eq_append_getElem (show j<(opL o).length from hj4);have eJ:Lib.join (hdO o++((opL o).take (j+1)).map Lib.itoa) [32]=Lib.join (hdO o++((opL o).take j).map Lib.itoa) [32]++[32]++Lib.itoa ((opL o)[j]'hj4):=by
     rw[es,List.map_append,←List.append_assoc];have:([(opL o)[j]'hj4].map Lib.itoa)=[Lib.itoa ((opL o)[j]'hj4)]:=rfl;rw[this,Qqt,if_neg (by unfold hdO;simp)];simp
    have hil:=Um (v:=(opL o)[j]'hj4) (by omega) (by omega);have c1:=cat1 (a:=Lib.join (hdO o++((opL o).take j).map Lib.itoa) [32]) (b:=[32]) (by simp only[List.length_cons,List.length_nil];omega);have c2:=cat1 (a:=Lib.join (hdO o++((opL o).take j).map Lib.itoa) [32]++[32]) (b:=Lib.itoa ((opL o)[j]'hj4)) (by simp only[List.length_append,List.length_cons,List.length_nil];omega);change sbin .add _ (.val (.string ⟨#[32]⟩))=_ at c1;simp only[g,c1,Qpq hj4,lx,RR];refine JC (by omega) (by omega) ?_;change og (sbin .add _ (str (bs (Lib.itoa ((opL o)[j]'hj4))))) _;simp only[c2,Qh c (by omega),RR];exact hR' _ _ (QJ o.kind - (j+1)) _ (by omega) (.refl _) ⟨j+1,by rw[eJ];rfl,rfl,rfl,c⟩
   ·have g:¬(j:Int)<(QJ o.kind:Int):=by omega
    obtain rfl:j=QJ o.kind:=by omega
    simp only[g,RR];exact Qa h
  ·intro k hk2;simp only[a0,l0,RR];refine UY ?_;rcases hc with ⟨cd,rfl⟩|⟨cd,rfl,e⟩
   ·simp only[cd,RR];exact hk2 _ _ ⟨rfl,rfl⟩
   ·have hd:=ho.data cd;have hwl:=QgG (DOk.of hd) (DTx.of hd) o.data.length 0 (by have:=(DOk.of hd).len;omega);have c1:=cat1 (a:=kwL.getD n []) (b:=[32]) (by simp only[List.length_cons,List.length_nil];omega);have c2:=cat1 (a:=kwL.getD n []++[32]) (b:=QX o.data o.data.length 0) (by simp only[List.length_append,List.length_cons,List.length_nil];omega);change sbin .add _ (.val (.string ⟨#[32]⟩))=_ at c1;simp only[cd,c1,a0,l6,RR];refine QpR (DOk.of hd) (DTx.of hd) o.data.length 0 (by have:=(DOk.of hd).len;omega) (by omega) ?_;simp only[c2,RR];refine hk2 _ _ ⟨rfl,?_⟩;have ej:Lib.join [kwL.getD n [],QX o.data o.data.length 0] [32]=kwL.getD n []++[32]++QX o.data o.data.length 0:=by simp[Qdy]
    rw[e,ej];rfl
 ·intro k hk2;refine QcU ?_;cases cn:JN o.kind with
  |true=>
   have hnm:=ho.name cn;have e8:o.name.size=(by8 o.name).length:=Qfd ..;have c1:=cat1 (a:=kwL.getD n []) (b:=[32]) (by simp only[List.length_cons,List.length_nil];omega);have c2:=cat1 (a:=kwL.getD n []++[32]) (b:=by8 o.name) (by simp only[List.length_append,List.length_cons,List.length_nil];omega);rw[Qfc] at c2;change sbin .add _ (.val (.string ⟨#[32]⟩))=_ at c1;simp only[c1,a0,l5,c2,RR];have eh:hdO o=[kwL.getD n [],by8 o.name]:=by unfold hdO;rw[ekw,if_pos cn]
   exact hk2 _ _ ⟨rfl,_,rfl,by simp only[List.length_append,List.length_cons,List.length_nil];omega,.inl ⟨QoU cn,by rw[eh];simp[Qdy]⟩⟩
  |false=>
   simp only[RR];cases cd:Uh o.kind with
   |true=>exact hk2 _ _ ⟨rfl,_,rfl,by omega,.inr ⟨cd,rfl,by unfold hdO;rw[ekw,if_neg (by rw[cn];decide),if_pos cd]⟩⟩
   |false=>
    have eh:hdO o=[kwL.getD n []]:=by unfold hdO;rw[ekw,if_neg (by rw[cn];decide),if_neg (by rw[cd];decide)]
    exact hk2 _ _ ⟨rfl,_,rfl,by omega,.inl ⟨cd,by rw[eh];exact (Lib.join_one _ _).symm⟩⟩
def Past (bs:List Blk) (a:List UInt8):Prop:=6000<a.length∧6000<(QE bs bs.length).length
set_option maxHeartbeats 2000000 in
theorem QoZ {bs':List Blk} (hs:sC bs') (h:R (.ret (.agg [iv (btxt bs').1,str (bs (btxt bs').2)])) σ):acall TP QeC [roBk bs'] σ R:=by
 refine Qj5 ?_;unfold x7;dsimp only[den,dE,di,tupL,lTup,den2,den3,den4,dwat,Qf,List.map,den0,den1];intro φ hφ;refine Qps hs ?_;unfold btxt at h;by_cases c0:opsF bs'=0
 case neg=>
   rw[if_pos c0] at h;simp only[c0,(QoX (opsF bs') ⟨#[]⟩).1,RR];exact J0 hφ rfl rfl (one2 rfl rfl) h
 rw[if_neg (by simpa using c0)] at h;obtain ⟨hl,hb⟩:=Qdz c0;have hall:=Qk6 c0;simp only[c0,RR];refine QF (fun m y τ1=>∃(i:Nat) (a:List UInt8),y=(roBk bs',.ptr φ 0 0 0,str (bs a),iv (i:Int),())∧σ.set φ ⟨0,2,[[iv 0,str ⟨#[]⟩]]⟩=τ1∧i≤bs'.length∧(a=QE bs' i∨Past bs' a)∧bs'.length - i=m) bs'.length ⟨0,[],rfl,rfl,by omega,.inl rfl,rfl⟩ ?_;rintro m y _ ⟨i,a,rfl,rfl,hi,ha,rfl⟩ R' hR';simp only[QA,RR];have fin:(i=bs'.length∨6000<a.length)→og (lenStr (str (bs a))) fun v69=>
       og (ibin .gtr v69 (iv 6000)) fun v70=>
       apick v70 (
         og (bld [(iv 0),(.val (.string ⟨#[]⟩))] [(0,1),(1,1)] [(0,(iv 2))]) fun v71=>
         sto 2 (.ptr φ 0 0 0) v71 (σ.set φ ⟨0,2,[[iv 0,str ⟨#[]⟩]]⟩) fun σ=>
         og (lodA 2 (.ptr φ 0 0 0) σ) fun r2=>
         aret r2 σ R) (
         og (bld [(iv 0),(.val (.string ⟨#[]⟩))] [(0,1),(1,1)] [(1,str (bs a))]) fun v73=>
         sto 2 (.ptr φ 0 0 0) v73 (σ.set φ ⟨0,2,[[iv 0,str ⟨#[]⟩]]⟩) fun σ=>
         og (lodA 2 (.ptr φ 0 0 0) σ) fun r2=>
         aret r2 σ R):=fun hc=>by
   by_cases g6:6000<a.length
   · have hT:6000<(QE bs' bs'.length).length:=by
       rcases ha with rfl|ha
       · exact Nat.lt_of_lt_of_le g6 (Qnu bs' hi)
       · exact ha.2
     rw[if_pos hT] at h;have g:(6000:Int)<(a.length:Int):=by omega
     simp only[Qm,g,(QoX 2 ⟨#[]⟩).1,RR];exact J0 hφ rfl rfl (one2 rfl rfl) h
   · have e:a=QE bs' bs'.length:=by
       rcases ha with rfl|ha
       · rcases hc with rfl|hc
         · rfl
         · exact absurd hc g6
       · exact absurd ha.1 g6
     subst e;rw[if_neg g6] at h;have g:¬(6000:Int)<((QE bs' bs'.length).length:Int):=by omega
     simp only[Qm,g,(QoX 0 (bs (QE bs' bs'.length))).2,RR];exact J0 hφ rfl rfl (one2 rfl rfl) h
 by_cases c1:i<bs'.length
 case neg=>
   have g:¬(i:Int)<(bs'.length:Int):=by omega
   simp only[g,RR];exact fin (.inl (by omega))
 have g1:(i:Int)<(bs'.length:Int):=by omega
 by_cases c2:a.length≤6000
 case neg=>
   have g2:¬(a.length:Int)≤6000:=by omega
   simp only[g1,Qm,g2,RR];exact fin (.inr (by omega))
 have g2:(a.length:Int)≤6000:=by omega
 obtain rfl:a=QE bs' i:=by
   rcases ha with rfl|ha
   · rfl
   · have:=ha.1;omega
 clear ha fin;obtain ⟨hba,hbl,hbo⟩:=Qnv (hb i c1);have d1:=Um (v:=(i:Int)) (by omega) (by omega);have d2:=Um (v:=(bs'.getD i default).args) (by omega) (by omega);have e1:=cat1 (a:=QE bs' i) (b:=[98,108,111,99,107,32]) (by simp only[List.length_cons,List.length_nil];omega);have e2:=cat1 (a:=QE bs' i++[98,108,111,99,107,32]) (b:=Lib.itoa (i:Int)) (by simp only[List.length_append,List.length_cons,List.length_nil];omega);have e3:=cat1 (a:=QE bs' i++[98,108,111,99,107,32]++Lib.itoa (i:Int)) (b:=[32]) (by simp only[List.length_append,List.length_cons,List.length_nil];omega);have e4:=cat1 (a:=QE bs' i++[98,108,111,99,107,32]++Lib.itoa (i:Int)++[32]) (b:=Lib.itoa (bs'.getD i default).args) (by simp only[List.length_append,List.length_cons,List.length_nil];omega);have e5:=cat1 (a:=QE bs' i++[98,108,111,99,107,32]++Lib.itoa (i:Int)++[32]++Lib.itoa (bs'.getD i default).args) (b:=[10]) (by simp only[List.length_append,List.length_cons,List.length_nil];omega);change sbin .add _ (.val (.string ⟨#[98,108,111,99,107,32]⟩))=_ at e1;change sbin .add _ (.val (.string ⟨#[32]⟩))=_ at e3;change sbin .add _ (.val (.string ⟨#[10]⟩))=_ at e5;have lb0:∀τ,lod (.rop (QC (bs'.getD i default)) 0) τ=some (iv (bs'.getD i default).args):=fun _=>rfl
 have lb1:∀τ,lod (.rop (QC (bs'.getD i default)) 1) τ=some (roO (bs'.getD i default).ops):=fun _=>rfl
 simp only[g1,Qm,g2,e1,Qq c1 Jr,QhZ c1,lb0,RR];refine JC (by omega) (by omega) ?_;simp only[lb0,Qq c1 Jr,QhZ c1,true_and];change og (sbin .add _ (str (bs (Lib.itoa (i:Int))))) _;simp only[e2,e3,RR];refine JC (by omega) (by omega) ?_;change og (sbin .add _ (str (bs (Lib.itoa (bs'.getD i default).args)))) _;simp only[e4,e5,RR];have eh:QE bs' i++[98,108,111,99,107,32]++Lib.itoa (i:Int)++[32]++Lib.itoa (bs'.getD i default).args++[10]=QE bs' i++(Jn i (bs'.getD i default).args++opsT (bs'.getD i default).ops 0):=by
   unfold Jn opsT;simp
 rw[eh];clear e1 e2 e3 e4 e5 eh;have hpl:=fun k (hk:k≤(bs'.getD i default).ops.length)=>QpO bs' c1 hk
 have eEnd:QE bs' i++(Jn i (bs'.getD i default).args++opsT (bs'.getD i default).ops (bs'.getD i default).ops.length)=QE bs' (i+1):=by rw[QcC];rfl
 generalize hbd:bs'.getD i default=b at*;refine QF (fun m y τ1=>∃k:Nat,y=(roBk bs',.ptr φ 0 0 0,str (bs (QE bs' i++(Jn i b.args++opsT b.ops k))),iv (i:Int),iv (k:Int),())∧σ.set φ ⟨0,2,[[iv 0,str ⟨#[]⟩]]⟩=τ1∧k≤b.ops.length∧b.ops.length - k=m) b.ops.length ⟨0,rfl,rfl,by omega,rfl⟩ ?_;rintro m y _ ⟨k,rfl,rfl,hk,rfl⟩ R2 hR2;have hbi:∀τ,idx 2 (roBk bs') (iv (i:Int)) τ=some (.rop (QC b) 0):=fun τ=>by rw[Qq c1 Jr,QhZ c1,hbd]
 have hp:=hpl k hk;have leave:(k=b.ops.length∨6000<(QE bs' i++(Jn i b.args++opsT b.ops k)).length)→og (ibin .add (iv (i:Int)) (iv 1)) fun v23=>R' (roBk bs',.ptr φ 0 0 0,str (bs (QE bs' i++(Jn i b.args++opsT b.ops k))),v23,()) (σ.set φ ⟨0,2,[[iv 0,str ⟨#[]⟩]]⟩):=fun hc=>by
   simp only[Qh c1 (by omega),RR];refine hR' _ _ (bs'.length - (i+1)) _ (by omega) (.refl _) ⟨i+1,_,rfl,rfl,c1,?_,rfl⟩;rcases hc with rfl|hc
   · exact .inl eEnd
   · exact .inr ⟨hc,by omega⟩
 simp only[hbi,lb1,QA,RR];by_cases c3:k<b.ops.length
 case neg=>
   have g:¬(k:Int)<(b.ops.length:Int):=by omega
   simp only[g,RR];exact leave (.inl (by omega))
 have g3:(k:Int)<(b.ops.length:Int):=by omega
 by_cases c4:(QE bs' i++(Jn i b.args++opsT b.ops k)).length≤6000
 case neg=>
   have g4:¬((QE bs' i++(Jn i b.args++opsT b.ops k)).length:Int)≤6000:=by omega
   simp only[g3,Qm,g4,RR];exact leave (.inr (by omega))
 have g4:((QE bs' i++(Jn i b.args++opsT b.ops k)).length:Int)≤6000:=by omega
 have hot:=OTx.of (hbo k c3);have ht:=QiT hot;have d3:=Um (v:=(k:Int)) (by omega) (by omega);have hp1:=hpl (k+1) c3;have e1:=cat1 (a:=QE bs' i++(Jn i b.args++opsT b.ops k)) (b:=Lib.itoa (k:Int)) (by omega);have e2:=cat1 (a:=QE bs' i++(Jn i b.args++opsT b.ops k)++Lib.itoa (k:Int)) (b:=[58,32]) (by rw[List.length_append];simp only[List.length_cons,List.length_nil];omega);have e3:=cat1 (a:=QE bs' i++(Jn i b.args++opsT b.ops k)++Lib.itoa (k:Int)++[58,32]) (b:=txtO (b.ops.getD k default)) (by rw[List.length_append,List.length_append];simp only[List.length_cons,List.length_nil];omega);have e4:=cat1 (a:=QE bs' i++(Jn i b.args++opsT b.ops k)++Lib.itoa (k:Int)++[58,32]++txtO (b.ops.getD k default)) (b:=[10]) (by rw[List.length_append,List.length_append,List.length_append];simp only[List.length_cons,List.length_nil];omega);change sbin .add _ (.val (.string ⟨#[58,32]⟩))=_ at e2;change sbin .add _ (.val (.string ⟨#[10]⟩))=_ at e4;have eN:QE bs' i++(Jn i b.args++opsT b.ops k)++Lib.itoa (k:Int)++[58,32]++txtO (b.ops.getD k default)++[10]=QE bs' i++(Jn i b.args++opsT b.ops (k+1)):=by
   rw[QgH];unfold Qek;simp
 simp only[g3,Qm,g4,hbi,lb1,Qq c3 Q5,QaY c3,RR];refine JC (by omega) (by omega) ?_;simp only[hbi,lb1,Qq c3 Q5,QaY c3,true_and];change og (sbin .add _ (str (bs (Lib.itoa (k:Int))))) _;simp only[e1,e2,RR];refine QqW hot ?_;simp only[e3,e4,Qh c3 (by omega),true_and,RR];exact hR2 _ _ (b.ops.length - (k+1)) _ (by omega) (.refl _) ⟨k+1,by rw[eN];rfl,rfl,c3,rfl⟩
end
section
set_option maxRecDepth 100000
theorem VR.bw {κ κ':Kap} (hρ:∀φ st r,κ.ρ φ st=some r→κ'.ρ φ st=some r) (hM:∀b o v,κ.M b o=some v→κ'.M b o=some v) {a:AV} {v:Value} (h:VR κ a v):VR κ' a v:=by
 induction h with
 |val v=>exact .val v
 |agg hl h ih=>exact .agg hl ih
 |tup hl h ih=>exact .tup hl ih
 |roEnd a=>exact .roEnd a
 |ro hc hz hm hv ih=>exact .ro hc hz (fun i j hi hj=>hM _ _ _ (hm i j hi hj)) ih
 |rop hm hv ih=>exact .rop (fun j hj=>hM _ _ _ (hm j hj)) ih
 |own h hlo hn=>exact .own (hρ _ _ _ h) hlo hn
 |ownEnd h ho=>exact .ownEnd (hρ _ _ _ h) ho
 |vw h hlo hn=>exact .vw (hρ _ _ _ h) hlo hn
 |ptr h hlo=>exact .ptr (hρ _ _ _ h) hlo
 |clo hl hl2 h h2 ih ih2=>exact .clo hl hl2 ih ih2
 |ifc h ih=>exact .ifc ih
 |emp a=>exact .emp a
 |any v=>exact .any v
 |yld l=>exact .yld l
theorem Qvw [L:Lam] {P:Program} {f:FuncId} {args:List AV} {vs:List Value} {v:Value} {κ:Kap} {w:World} (h:acall P f args ah0 (fun e _=>e= .ret (.val v))) (hr:Rel κ ah0 w) (hB:κ.B=w.heap.size) (hW:κ.W=w) (hv:VRs κ args vs):
  Calls P f vs.toArray w fun e w'=>e= .returned v∧Below w.heap.size w w':=by
 obtain ⟨fn,h1,h2,h3,h4⟩:=h;refine (h4 _ w vs hr hv).mono ?_;rintro e w' ⟨κ',ae,σ',rfl,hs,hE⟩;have hb:=hs.rel.bel;rw[hs.ext.B,hs.ext.W,hB,hW] at hb;cases e with
 |returned v=>cases hE;exact ⟨rfl,hb⟩
 |_=>exact hE.elim
variable [L:Lam]
theorem Qsf [K:Knows QP] {P:Program} {f:FuncId} {args:List AV} {vs:List Value} {v:Value} {κ:Kap} {σ:AH} {w w1:World} (hr:Rel κ σ w) (hb:Below w.heap.size w w1)
  (h:@acall (lamQ QP) P f args ah0 (fun e _=>e= .ret (.val v))) (hv:VRs κ args vs):Calls P f vs.toArray w1 fun e w'=>e= .returned v∧Below w1.heap.size w1 w':=by
 have hq:QP w1:=(QtP hr).below hb (Nat.le_refl _);have hr1:@Rel (lamQ QP) ⟨κ.ρ,fun b o=>w1.cell? ⟨b,o,none⟩,w1.heap.size,w1⟩ ah0 w1:=by
  obtain ⟨N,hN⟩:=hr.fin;exact @Rel.mk (lamQ QP) ⟨κ.ρ,fun b o=>w1.cell? ⟨b,o,none⟩,w1.heap.size,w1⟩ ah0 w1 (fun _ _ h=>by cases h) (fun _ _ _ _ _ _ h=>by cases h) (fun _ _ _ h=>h) (fun _ _ _ h=>by cases h) (fun _ _ _ h=>by cases h) ⟨N,fun φ h=>⟨rfl,(hN φ h).2⟩⟩ (Below.refl _ _) (Nat.le_refl _) (fun _ _ h=>by cases h) ⟨hq,Nat.le_refl _⟩
 exact @Qvw (lamQ QP) P f args vs v ⟨κ.ρ,fun b o=>w1.cell? ⟨b,o,none⟩,w1.heap.size,w1⟩ w1 h hr1 rfl rfl ⟨hv.1,fun i hi=>VR.bw (κ:=κ) (κ':=⟨κ.ρ,fun b o=>w1.cell? ⟨b,o,none⟩,w1.heap.size,w1⟩) (fun _ _ _ h=>h) (fun b o v h=>Jh (hr.mem _ _ _ h) hb (Nat.le_refl _)) (hv.2 i hi)⟩
theorem QAr {κ:Kap} {xs:List Blk} {v:Value} (hv:VR κ (roBk xs) v):(xs=[]∧∃a,v= .slice a 0 0)∨∃b off cap,v= .slice (some ⟨b,off,none⟩) xs.length cap∧xs.length≤cap∧
  ∀i,i<xs.length→κ.M b (off+i*2)=some (.int .i64 (xs.getD i default).args)∧∃u,κ.M b (off+i*2+1)=some u∧VR κ (roO (xs.getD i default).ops) u:=by
 generalize ha:roBk xs=a at hv;cases hv with
 |roEnd a0=>
  have:xs.map QC=[]:=by injection ha
  exact .inl ⟨by simpa using this,a0,rfl⟩
 |@ro es b off cap sz vals hc hz hm hv=>
  have he:xs.map QC=es:=by injection ha
  subst he;right;refine ⟨b,off,cap,by simp,by simpa using hc,fun i hi=>?_⟩;have hi':i<(xs.map QC).length:=by simpa using hi
  have hg:(xs.map QC).getD i []=QC (xs.getD i default):=by simp[List.getD,hi]
  have hs:sz=2:=by have:=hz i hi';rw[hg] at this;exact this.symm
  subst hs;have h0:=hm i 0 hi' (by omega);have h1:=hm i 1 hi' (by omega);have g0:=hv i 0 hi' (by omega);have g1:=hv i 1 hi' (by omega);rw[hg] at g0 g1;have e0:vals i 0= .int .i64 (xs.getD i default).args:=by
   have h3:VR κ (iv (xs.getD i default).args) (vals i 0):=g0;generalize vals i 0=y at h3;cases h3;rfl
  rw[e0] at h0;exact ⟨h0,vals i 1,h1,g1⟩
 |_=>cases ha
theorem QBO {κ:Kap} {xs:List OpD} {v:Value} (hv:VR κ (roO xs) v):(xs=[]∧∃a,v= .slice a 0 0)∨∃b off cap,v= .slice (some ⟨b,off,none⟩) xs.length cap∧xs.length≤cap∧
  ∀i,i<xs.length→κ.M b (off+i*7)=some (.int .i64 (xs.getD i default).kind)∧κ.M b (off+i*7+1)=some (.int .i64 (xs.getD i default).a)∧κ.M b (off+i*7+2)=some (.int .i64 (xs.getD i default).b)∧
   κ.M b (off+i*7+3)=some (.int .i64 (xs.getD i default).c)∧κ.M b (off+i*7+4)=some (.int .i64 (xs.getD i default).d)∧κ.M b (off+i*7+5)=some (.string (xs.getD i default).name)∧
   ∃u,κ.M b (off+i*7+6)=some u∧VR κ (roD (xs.getD i default).data) u:=by
 generalize ha:roO xs=a at hv;cases hv with
 |roEnd a0=>
  have:xs.map Qk=[]:=by injection ha
  exact .inl ⟨by simpa using this,a0,rfl⟩
 |@ro es b off cap sz vals hc hz hm hv=>
  have he:xs.map Qk=es:=by injection ha
  subst he;right;refine ⟨b,off,cap,by simp,by simpa using hc,fun i hi=>?_⟩;have hi':i<(xs.map Qk).length:=by simpa using hi
  have hg:(xs.map Qk).getD i []=Qk (xs.getD i default):=by simp[List.getD,hi]
  have hs:sz=7:=by have:=hz i hi';rw[hg] at this;exact this.symm
  subst hs;have num:∀j n,j<7→(Qk (xs.getD i default)).getD j .any=iv n→κ.M b (off+i*7+j)=some (.int .i64 n):=fun j n hj e=>by
   have h0:=hm i j hi' hj;have g0:=hv i j hi' hj;rw[hg,e] at g0;generalize vals i j=y at h0 g0;cases g0;exact h0
  refine ⟨num 0 _ (by omega) rfl,num 1 _ (by omega) rfl,num 2 _ (by omega) rfl,num 3 _ (by omega) rfl,num 4 _ (by omega) rfl,?_,vals i 6,hm i 6 hi' (by omega),?_⟩
  ·have h0:=hm i 5 hi' (by omega);have g0:VR κ (str (xs.getD i default).name) (vals i 5):=by have:=hv i 5 hi' (by omega);rw[hg] at this;exact this
   generalize vals i 5=y at h0 g0;cases g0;exact h0
  ·have:=hv i 6 hi' (by omega);rw[hg] at this;exact this
 |_=>cases ha
end
section
set_option maxRecDepth 100000
variable [L:Lam] {σ τ τ':AH} {R:AEnd→AH→Prop}
theorem QB8 {k:Nat} (hk:k<16):(kwL.map fun w=>[str (bs w)]).getD k []=[str (bs (kwL.getD k []))]:=by
 have h:k<kwL.length:=hk;simp[List.getD,h]
theorem QBP {φ:Nat} {k:Nat} (hk:k<16) (hF:τ φ=some ⟨0,1,kwL.map fun w=>[str (bs w)]⟩):∃p,idx 1 (.own φ 0 0 16) (iv (k:Int)) τ=some p∧lod p τ=some (str (bs (kwL.getD k []))):=by
 have hl:(kwL.map fun w=>[str (bs w)]).length=16:=rfl;have ix:=Jg (st:=0) (off:=0) hF (show k<(kwL.map fun w=>[str (bs w)]).length by rw[hl];exact hk);rw[hl] at ix;refine ⟨_,ix,?_⟩;rw[Nat.zero_add];exact Qz hF rfl (by rw[QB8 hk];rfl)
theorem QAs {xs:List Int} {k:Nat} (hk:k≤xs.length):slc 1 (roN xs) none (some (iv (k:Nat))) none σ=some (roN (xs.take k)):=by
 have e:abd (some (iv (k:Nat))) (xs.map fun x=>[iv x]).length=some k:=Qb7 _ _;have e2:abd none 0=some 0:=rfl;have e3:abd none (xs.map fun x=>[iv x]).length=some (xs.map fun x=>[iv x]).length:=rfl;simp only[slc,e,e2,e3];rw[if_pos ⟨by omega,by simpa using hk,Nat.le_refl _,by simp,by rw[List.all_eq_true];intro c hc;obtain ⟨x,_,rfl⟩:=List.mem_map.1 hc;rfl⟩];rw[List.drop_zero,←List.map_take]
set_option maxHeartbeats 1000000 in
theorem QpS [K:Knows QP] {o:OpD} (ho:OTx o) (h:R (.ret (str (bs (txtO o)))) σ):acall TP QfK [.agg (Qk o)] σ R:=by
 obtain ⟨n,hn,hk⟩:∃n:Nat,n<16∧o.kind=(n:Int)+1:=⟨(o.kind - 1).toNat,by have:=ho.kind;omega,by have:=ho.kind;omega⟩;have l0:∀τ,lod (.rop (Qk o) 0) τ=some (iv o.kind):=fun _=>rfl
 have l1:∀τ,lod (.rop (Qk o) 1) τ=some (iv o.a):=fun _=>rfl
 have l2:∀τ,lod (.rop (Qk o) 2) τ=some (iv o.b):=fun _=>rfl
 have l3:∀τ,lod (.rop (Qk o) 3) τ=some (iv o.c):=fun _=>rfl
 have l4:∀τ,lod (.rop (Qk o) 4) τ=some (iv o.d):=fun _=>rfl
 have l5:∀τ,lod (.rop (Qk o) 5) τ=some (str o.name):=fun _=>rfl
 have l6:∀τ,lod (.rop (Qk o) 6) τ=some (roD o.data):=fun _=>rfl
 have hsm:=QiT ho;have hnl:=QiA o.kind;have hnums:=ho.nums;have e40:bslR 1 [(iv 0)] 4 [(0,iv o.a),(1,iv o.b),(2,iv o.c),(3,iv o.d)]=some (roN (opL o)):=rfl;refine Qlt ?_;unfold x28;dsimp only[den,dE,di,tupL,lTup,den2,den3,den4,dwat,Qf,List.map,den0,den1,Option.map];refine Qan rfl ?_;refine QpJ (es:=kwL.map fun w=>[str (bs w)]) rfl (by omega) (by omega) fun ψ hψ=>?_
 have hs0:AH.Sub σ (σ.set ψ ⟨0,1,kwL.map fun w=>[str (bs w)]⟩):= .set (.refl σ) _ hψ;obtain ⟨p,p1,p2⟩:=QBP hn (AH.set_same σ ψ ⟨0,1,kwL.map fun w=>[str (bs w)]⟩);have e1:ibin .sub (iv o.kind) (iv 1)=some (iv (n:Int)):=by
  rw[QU (by omega) (by omega),hk];exact congrArg (fun x=>some (iv x)) (by omega)
 simp only[l0,e1,p1,p2,RR];generalize σ.set ψ ⟨0,1,kwL.map fun w=>[str (bs w)]⟩=σ1 at hs0;refine bsl1 (row:=[str (bs (kwL.getD n []))]) rfl (by omega) fun φ hφ=>?_
 have hs1:AH.Sub σ (σ1.set φ ⟨0,1,[[str (bs (kwL.getD n []))]]⟩):=hs0.trans (.set (.refl σ1) _ hφ);have hB1:Buf (σ1.set φ ⟨0,1,[[str (bs (kwL.getD n []))]]⟩) 1 (.own φ 0 0 1) [[str (bs (kwL.getD n []))]]:= .inr ⟨φ,0,rfl,AH.set_same ..⟩;have hf1:∀χ,χ∈famL (AV.own φ 0 0 1)→σ χ=none:=fun χ c=>by
  have:χ=φ:=by simpa[famL] using c
  rw[this];exact hs0.none hφ
 generalize σ1.set φ ⟨0,1,[[str (bs (kwL.getD n []))]]⟩=σ2 at hs1 hB1;have ekw:(o.kind - 1).toNat=n:=by omega
 refine J3 (P:=fun z τ=>∃u,z=(.rop (Qk o) 0,u,())∧Buf τ 1 u (((hdO o).map bs).map fun s=>[str s])∧AH.Sub σ τ∧∀χ,χ∈famL u→σ χ=none) ?_ ?_
 ·rintro z τ ⟨u,rfl,hB,hs,hf⟩;simp only[l1,l2,l3,l4,e40,l0,RR];refine Qju ?_;simp only[l1,l2,l3,l4,QAs (xs:=opL o) (k:=QJ o.kind) hnl,RR,true_and,and_true];have hnl2:((opL o).take (QJ o.kind)).length=QJ o.kind:=by rw[List.length_take,Qlh];omega
  have hhl:(hdO o).length≤2:=by unfold hdO;cases JN o.kind<;>cases Uh o.kind<;>simp
  have eL:lenS (roN ((opL o).take (QJ o.kind)))=some (iv (QJ o.kind:Int)):=by
   have:lenS (roN ((opL o).take (QJ o.kind)))=some (iv ((((opL o).take (QJ o.kind)).map fun x=>[iv x]).length:Int)):=rfl;rw[this,List.length_map,hnl2]
  unfold txtO Qvs at h hsm;generalize (opL o).take (QJ o.kind)=ks at h hsm hnums hnl2 eL ⊢;generalize hdO o=hd at h hsm hB hhl;simp only[eL,RR];refine QF (fun m y τ=>∃(j:Nat) (u:AV),y=(u,roN ks,iv (QJ o.kind:Int),iv (j:Int),())∧Buf τ 1 u (((hd++(ks.take j).map Lib.itoa).map bs).map fun s=>[str s])∧AH.Sub σ τ∧(∀χ,χ∈famL u→σ χ=none)∧QJ o.kind - j=m∧j≤QJ o.kind) (QJ o.kind) ⟨0,u,rfl,by simpa using hB,hs,hf,rfl,by omega⟩ ?_;rintro m y τ ⟨j,u,rfl,hB,hs,hf,rfl,hj⟩ R' hR';by_cases c:j<QJ o.kind
  ·have g:(j:Int)<(QJ o.kind:Int):=by omega
   have hjl:j<ks.length:=by omega
   have hm:=hnums _ (List.getElem_mem hjl);have ix:idx 1 (roN ks) (iv (j:Int)) τ=some (.rop [iv ks[j]] 0):=Qq (enc:=fun x=>[iv x]) (es:=ks) hjl fun _=>rfl
   have lx:∀τ,lod (.rop [iv ks[j]] 0) τ=some (iv ks[j]):=fun _=>rfl
   simp only[g,ix,lx,RR];refine QoY (by omega) (by omega) ?_;simp only[RR];refine US (row:=[str (bs (Lib.itoa ks[j]))]) hB rfl (by omega) rfl (fun y hy=>by obtain rfl:=List.mem_singleton.1 hy;rfl) (by simp;omega) fun u' τ' hB' hK hfam=>?_
   simp only[Qh c (by omega),RR];refine hR' _ _ (QJ o.kind - (j+1)) τ' (by omega) (.refl _) ⟨j+1,u',rfl,?_,hK.sub hs hf,(fun χ hχ=>(hfam χ hχ).elim (hf χ) fun d=>hs.none d),rfl,c⟩;have e:hd++(ks.take (j+1)).map Lib.itoa=(hd++(ks.take j).map Lib.itoa)++[Lib.itoa ks[j]]:=by rw[List.take_succ_eq_append_getElem hjl,List.map_append,List.append_assoc];rfl
   rw[e,List.map_append,List.map_append];exact hB'
  ·have g:¬(j:Int)<(QJ o.kind:Int):=by omega
   obtain rfl:j=ks.length:=by omega
   rw[List.take_length] at hB;simp only[g,RR];refine JI (args':=[roS ((hd++ks.map Lib.itoa).map bs),str ⟨#[32]⟩]) hs rfl (fun i hi=>?_) ?_
   ·match i,hi with
    |0,_=>exact Uq hB hf rfl (by intro c hc;obtain ⟨o,_,rfl⟩:=List.mem_map.1 hc;rfl) fun _ _ _ _=> .same _
    |1,_=>exact .same _
   refine Qib (by simp;omega) (by rw[Qlp];omega) ?_;rw[Qlp];simp only[RR];exact Qa h
 ·intro k hk2;have plain:∀(mid:List (List UInt8)) u τ,hdO o=kwL.getD n []::mid→Buf τ 1 u (((kwL.getD n []::mid).map bs).map fun s=>[str s])→AH.Sub σ τ→(∀χ,χ∈famL u→σ χ=none)→k (.rop (Qk o) 0,u,()) τ:=fun mid u τ e hB hs hf=>hk2 _ _ ⟨u,rfl,by rw[e];exact hB,hs,hf⟩
  have push:∀(w:List UInt8),hdO o=[kwL.getD n [],w]→bsl 1 [(.val (.string ⟨#[]⟩))] 1 [(0,str (bs w))] σ2 fun v σ=>E.app 1 (.own φ 0 0 1) v σ fun v2 σ=>k (.rop (Qk o) 0,v2,()) σ:=fun w e=>by
   refine US (row:=[str (bs w)]) hB1 rfl (by omega) rfl (fun y hy=>by obtain rfl:=List.mem_singleton.1 hy;rfl) (by simp) fun u' τ' hB' hK hfam=>?_
   exact plain [w] _ _ e hB' (hK.sub hs1 hf1) fun χ hχ=>(hfam χ hχ).elim (hf1 χ) fun d=>hs1.none d
  refine QcT ?_;cases cn:JN o.kind with
  |true=>
   simp only[l5,RR];have:=push (by8 o.name) (by unfold hdO;rw[ekw,if_pos cn]);rw[Qfc] at this;exact this
  |false=>
   simp only[l0,RR];refine QdI ?_;cases cd:Uh o.kind with
   |true=>
    have hd:=ho.data cd;simp only[l6,RR];refine QpQ (DOk.of hd) (DTx.of hd) o.data.length 0 (by have:=(DOk.of hd).len;omega) (by omega) ?_;simp only[RR];exact push _ (by unfold hdO;rw[ekw,if_neg (by rw[cn];decide),if_pos cd])
   |false=>
    simp only[RR];exact plain [] _ _ (by unfold hdO;rw[ekw,if_neg (by rw[cn];decide),if_neg (by rw[cd];decide)]) hB1 hs1 hf1
end
section
set_option maxRecDepth 100000
theorem hidT {p:Prop} (h:p):Hid p:=h
theorem Qt9 {w w':World} {B:Nat} {e:TypeId} {v:Value} {n:Nat} {xs:List Value} (h:w.ownsRowF B e 1 v n xs) (hb:Below w.heap.size w w'):w'.ownsRowF B e 1 v n xs:=by
 refine ⟨h.1,?_⟩;rcases h.2 with hn|⟨g,cap,cur,fz,hv,hbg,hg,rest⟩
 ·exact .inl hn
 ·refine .inr ⟨g,cap,cur,fz,hv,hbg,?_,rest⟩;rw[hb.block g (Array.getElem?_eq_some_iff.1 hg).1];exact hg
theorem Qmq {w w':World} {T e:TypeId} {B b:Nat} {p:Value} {xs:List Value} (h:Lib.BuilderAtF T e B b p xs w) (hb:Below w.heap.size w w'):Lib.BuilderAtF T e B b p xs w':=by
 obtain ⟨hB,v,hk,hown,hne⟩:=h;exact ⟨hB,v,by rw[hb.block b (Array.getElem?_eq_some_iff.1 hk).1];exact hk,Qt9 hown hb,hne⟩
theorem Qqx {w w':World} {T e:TypeId} {B b:Nat} {xs:List Value} (h:Lib.IsBuilderF T e B b xs w) (hb:Below w.heap.size w w'):Lib.IsBuilderF T e B b xs w':=h.imp (fun h=>Qmq h hb) fun h=>Qmq h hb
variable [L:Lam]
section
variable [K:Knows QP] {κ:Kap} {σ:AH} {w:World}
theorem Qmr {bs':List Blk} {v:Value} (hr:Rel κ σ w) (hv:VR κ (roBk bs') v) (w1:World) (hb:Below w.heap.size w w1):Calls Tryz.prog 25 #[v] w1 fun e w'=>e= .returned (.int .i64 (opsF bs'))∧Below w1.heap.size w1 w':=
 Qsf (args:=[roBk bs']) (vs:=[v]) hr hb (@Qog (lamQ QP) _ _ _ rfl) (.cons hv (.nil κ))
theorem Qvx {n:Int} (h0: -9223372036854775808≤n) (h1:n≤9223372036854775807) (hr:Rel κ σ w) (w1:World) (hb:Below w.heap.size w w1):Calls Tryz.prog 27 #[.int .i64 n] w1 fun e w'=>e= .returned (.string (bs (Lib.itoa n)))∧Below w1.heap.size w1 w':=
 Qq2 n h0 h1 w1 ((QtP hr).below hb (Nat.le_refl _))
theorem QAt {o:OpD} (ho:OTx o) {d:Value} (hr:Rel κ σ w) (hd:VR κ (roD o.data) d) (w1:World) (hb:Below w.heap.size w w1):
  Calls Tryz.prog 28 #[.agg #[.int .i64 o.kind,.int .i64 o.a,.int .i64 o.b,.int .i64 o.c,.int .i64 o.d,.string o.name,d]] w1 fun e w'=>e= .returned (.string (bs (txtO o)))∧Below w1.heap.size w1 w':=
 Qsf (args:=[.agg (Qk o)]) (vs:=[.agg #[.int .i64 o.kind,.int .i64 o.a,.int .i64 o.b,.int .i64 o.c,.int .i64 o.d,.string o.name,d]]) hr hb (@QpS (lamQ QP) _ _ (QuM QP) _ ho rfl) (.cons (by
  show VR κ (.agg (Qk o)) (.agg [Value.int .i64 o.kind,.int .i64 o.a,.int .i64 o.b,.int .i64 o.c,.int .i64 o.d,.string o.name,d].toArray);refine .agg rfl fun i hi=>?_
  match i,hi with
  |0,_=>exact .val _
  |1,_=>exact .val _
  |2,_=>exact .val _
  |3,_=>exact .val _
  |4,_=>exact .val _
  |5,_=>exact .val _
  |6,_=>exact hd) (.nil κ))
end
end
section
set_option maxRecDepth 100000
variable [L:Lam]
section
variable [K:Knows QP] {κ:Kap} {σ:AH} {w:World}
set_option maxHeartbeats 4000000 in
theorem QpT {bs':List Blk} {v:Value} (hr:Rel κ σ w) (hv:VR κ (roBk bs') v) (h0:opsF bs'≠0):
  Calls Tryz.prog 9 #[v] w fun e w'=>e= .returned (.agg #[.int .i64 (opsF bs'),.string ⟨#[]⟩])∧Below w.heap.size w w':=by
 have b0:Below w.heap.size w (w.alloc (.cells #[.int .i64 0,.string ⟨#[]⟩] 25)):=(Below.refl w.heap.size w).alloc (Nat.le_refl _) _;have cF:=Qmr hr hv _ b0
 go_enter Tryz.func9,Tryz.ntmps9
 go_wp2_with (go_at_call 25;refine cF.mono ?_)
 rintro e w1 ⟨rfl,hb1⟩;have hrr:=Qds hb1;have hc0:w1.cell? ⟨w.heap.size,0,none⟩=some (.int .i64 0):=by simp[World.cell?,hrr]
 have hc1:w1.cell? ⟨w.heap.size,1,none⟩=some (.string ⟨#[]⟩):=by simp[World.cell?,hrr]
 have hf0:w1.frozen? ⟨w.heap.size,0,none⟩=false:=by simp[World.frozen?,hrr]
 have hf1:w1.frozen? ⟨w.heap.size,1,none⟩=false:=by simp[World.frozen?,hrr]
 go_wp2
 (try simp only[Exit.inBlock,Exit.then])
 refine bodyPost_ret (results_cell_row Tryz.results9 _ _ w.heap.size 25 _ (0,0) _ rfl (QaZ hrr) Tryz.underlying25 rfl rfl) rfl ?_;exact ⟨rfl,.setCell (.setCell (b0.trans (hb1.mono (by simp))) (Nat.le_refl _) _) (Nat.le_refl _) _⟩
theorem QAu {bs':List Blk} {v:Value} (hr:Rel κ σ w) (hv:VR κ (roBk bs') v):∃ao cap,v= .slice ao bs'.length cap∧∀i,i<bs'.length→∃b off,ao=some ⟨b,off,none⟩∧bs'.length≤cap∧
  (∀wr,Below w.heap.size w wr→wr.cell? ⟨b,off+i*2,none⟩=some (.int .i64 (bs'.getD i default).args))∧∃u,(∀wr,Below w.heap.size w wr→wr.cell? ⟨b,off+i*2+1,none⟩=some u)∧VR κ (roO (bs'.getD i default).ops) u:=by
 rcases QAr hv with ⟨rfl,a,rfl⟩|⟨b,off,cap,rfl,hc,h⟩
 ·exact ⟨a,0,rfl,fun i hi=>absurd hi (Nat.not_lt_zero _)⟩
 ·refine ⟨_,cap,rfl,fun i hi=>⟨b,off,rfl,hc,?_⟩⟩;obtain ⟨h1,u,h2,h3⟩:=h i hi;exact ⟨fun wr hb=>Jh (hr.mem _ _ _ h1) hb (Nat.le_refl _),u,fun wr hb=>Jh (hr.mem _ _ _ h2) hb (Nat.le_refl _),h3⟩
theorem QBQ {os:List OpD} {v:Value} (hr:Rel κ σ w) (hv:VR κ (roO os) v):∃ao cap,v= .slice ao os.length cap∧∀i,i<os.length→∃b off d,ao=some ⟨b,off,none⟩∧os.length≤cap∧VR κ (roD (os.getD i default).data) d∧
  ∀wr,Below w.heap.size w wr→wr.cell? ⟨b,off+i*7,none⟩=some (.int .i64 (os.getD i default).kind)∧wr.cell? ⟨b,off+i*7+1,none⟩=some (.int .i64 (os.getD i default).a)∧wr.cell? ⟨b,off+i*7+2,none⟩=some (.int .i64 (os.getD i default).b)∧
   wr.cell? ⟨b,off+i*7+3,none⟩=some (.int .i64 (os.getD i default).c)∧wr.cell? ⟨b,off+i*7+4,none⟩=some (.int .i64 (os.getD i default).d)∧wr.cell? ⟨b,off+i*7+5,none⟩=some (.string (os.getD i default).name)∧wr.cell? ⟨b,off+i*7+6,none⟩=some d:=by
 rcases QBO hv with ⟨rfl,a,rfl⟩|⟨b,off,cap,rfl,hc,h⟩
 ·exact ⟨a,0,rfl,fun i hi=>absurd hi (Nat.not_lt_zero _)⟩
 ·refine ⟨_,cap,rfl,fun i hi=>?_⟩;obtain ⟨h0,h1,h2,h3,h4,h5,u,h6,h7⟩:=h i hi;exact ⟨b,off,u,rfl,hc,h7,fun wr hb=>⟨Jh (hr.mem _ _ _ h0) hb (Nat.le_refl _),Jh (hr.mem _ _ _ h1) hb (Nat.le_refl _),Jh (hr.mem _ _ _ h2) hb (Nat.le_refl _),Jh (hr.mem _ _ _ h3) hb (Nat.le_refl _),Jh (hr.mem _ _ _ h4) hb (Nat.le_refl _),Jh (hr.mem _ _ _ h5) hb (Nat.le_refl _),Jh (hr.mem _ _ _ h6) hb (Nat.le_refl _)⟩⟩
theorem QBR {wr:World} {x y:Value} {t:TypeId}:(wr.alloc (.cells #[x,y] t)).cell? ⟨wr.heap.size,0,none⟩=some x∧(wr.alloc (.cells #[x,y] t)).cell? ⟨wr.heap.size,1,none⟩=some y∧wr.heap.size<(wr.alloc (.cells #[x,y] t)).heap.size:=
 ⟨Lib.cell_of_heap (heap_alloc_new wr _) 0,Lib.cell_of_heap (heap_alloc_new wr _) 1,by show wr.heap.size<(wr.heap.push _).size;rw[Array.size_push];omega⟩
theorem Qsg {w:World} {B b:Nat} {xs:List Value} (h:Lib.IsBuilderF 61 5 B b xs w):b<w.heap.size:=by
 rcases h with ⟨_,v,hk,_⟩|⟨_,v,hk,_⟩
 ·exact (Array.getElem?_eq_some_iff.1 hk).1
 ·exact (Array.getElem?_eq_some_iff.1 hk).1
theorem QB9 {κ:Kap} {es:List (List AV)} {v:Value} (h:VR κ (.ro es) v):∃a n c,v= .slice a n c:=by
 cases h with
 |roEnd a=>exact ⟨a,0,0,rfl⟩
 |ro hc hz hm hv=>exact ⟨_,_,_,rfl⟩
theorem Qsh {B:Nat} {acc t:List UInt8} {s:ByteArray} {w:World} (hB:Lib.IsBuilderF 61 5 B B (Lib.byteCells acc) w) (hs:s=bs t) (hl:acc.length+t.length≤1000000000):
  Calls Tryz.prog 26 #[.pointer (some ⟨B,0,none⟩),.string s] w fun e w'=>e= .returned (.tuple #[.int .i64 s.size,.nilIface])∧(Lib.IsBuilderF 61 5 B B (Lib.byteCells (acc++t)) w'∧Below B w w'∧Lib.OthersKept 5 (some B) w w'):=by
 have hb:=Qsg hB;have e1:s.data.toList=t:=by rw[hs]
 have e2:s.size=t.length:=by rw[hs,Qm]
 refine (Qfo B B _ s w hB (by rw[Lib.byteCells_length,e2];omega) (Nat.le_of_lt hb)).mono ?_;rintro e w' ⟨rfl,h1,h2,h3⟩;rw[Lib.strCells_eq,e1,←Lib.byteCells_append] at h1;exact ⟨rfl,.inr h1,h2,h3⟩
theorem Qvy {B:Nat} {acc:List UInt8} {w:World} (hB:Lib.IsBuilderF 61 5 B B (Lib.byteCells acc) w):Calls Tryz.prog 29 #[.pointer (some ⟨B,0,none⟩)] w fun e w'=>e= .returned (.int .i64 (acc.length:Nat))∧w'=w:=by
 have:=Qnw B B _ w hB
 rwa [Lib.byteCells_length] at this
theorem Qvz {B:Nat} {acc:List UInt8} {w:World} (hB:Lib.IsBuilderF 61 5 B B (Lib.byteCells acc) w):Calls Tryz.prog 30 #[.pointer (some ⟨B,0,none⟩)] w fun e w'=>e= .returned (.string (bs acc))∧Below B w w':=
 (Qfx B B acc w hB (Nat.le_of_lt (Qsg hB))).mono fun e w' ⟨h1,_,h3⟩=>⟨h1,h3⟩
theorem Qua {B k:Nat} {cs:Array Value} {t:TypeId} {w w':World} (h:Lib.OthersKept 5 (some B) w w') (hk:w.heap[k]? =some (.cells cs t)) (hne:k≠B) (ht:t≠5):w'.heap[k]? =some (.cells cs t):=
 h k _ hk (fun e=>hne (Option.some.inj e)) fun c fz e=>by injection e with _ e2 _;exact ht e2
theorem QvA {w:World} {b:Nat} {x0 x1 x2 x3 x4 x5 x6:Value} {t:TypeId} (h:w.heap[b]? =some (.cells #[x0,x1,x2,x3,x4,x5,x6] t)):w.cell? ⟨b,0,none⟩=some x0∧w.cell? ⟨b,1,none⟩=some x1∧w.cell? ⟨b,2,none⟩=some x2∧w.cell? ⟨b,3,none⟩=some x3∧w.cell? ⟨b,4,none⟩=some x4∧w.cell? ⟨b,5,none⟩=some x5∧w.cell? ⟨b,6,none⟩=some x6:=
 ⟨Lib.cell_of_heap h 0,Lib.cell_of_heap h 1,Lib.cell_of_heap h 2,Lib.cell_of_heap h 3,Lib.cell_of_heap h 4,Lib.cell_of_heap h 5,Lib.cell_of_heap h 6⟩
theorem Qqy {bs':List Blk} (h0:opsF bs'=0) (h:6000<(QE bs' bs'.length).length):btxt bs'=(2,[]):=by unfold btxt;rw[if_neg (by simpa using h0),if_pos h]
theorem Qxl {bs':List Blk} (h0:opsF bs'=0) (h:¬6000<(QE bs' bs'.length).length):btxt bs'=(0,QE bs' bs'.length):=by unfold btxt;rw[if_neg (by simpa using h0),if_neg h]
theorem Qsi {w w':World} {b B:Nat} {x y:Value} {t:TypeId} (h:w.heap[b]? =some (.cells #[x,y] t)) (hb:Below B w w') (hB:b<B):w'.heap[b]? =some (.cells #[x,y] t)∧w'.cell? ⟨b,0,none⟩=some x∧w'.cell? ⟨b,1,none⟩=some y∧w'.frozen? ⟨b,0,none⟩=false∧w'.frozen? ⟨b,1,none⟩=false:=by
 have hk:=(hb.block b hB).trans h;exact ⟨hk,Lib.cell_of_heap hk 0,Lib.cell_of_heap hk 1,by simp[World.frozen?,hk],by simp[World.frozen?,hk]⟩
theorem Qc1 {a b:List UInt8} (h:a.length+b.length≤1000000000) (w:World):(Op.stringOp .add (bs a) (bs b)).run Tryz.prog w= .ok (.string (bs (a++b))) w:=by
 rw[run_string_add_sum w _ _ (by rw[Qm,Qm];omega),Qdr]
set_option maxHeartbeats 8000000 in
theorem Qo0 {bs':List Blk} {v:Value} (hr:Rel κ σ w) (hv:VR κ (roBk bs') v) (h0:opsF bs'=0):
  Calls Tryz.prog 9 #[v] w fun e w'=>e= .returned (.agg #[.int .i64 (btxt bs').1,.string (bs (btxt bs').2)])∧Below w.heap.size w w':=by
 have b0:Below w.heap.size w (w.alloc (.cells #[.int .i64 0,.string ⟨#[]⟩] 25)):=(Below.refl w.heap.size w).alloc (Nat.le_refl _) _;have cF:=Qmr hr hv _ b0;rw[h0] at cF;have hR:=hidT hr;have hV:=hidT (QAu hr hv);clear hv hr;obtain ⟨ao,cap,rfl,hao⟩:=hV.out;have hA:=hidT hao;have hH:=hidT h0;clear hao hV h0
 go_enter Tryz.func9,Tryz.ntmps9
 go_wp2_with (go_at_call 25;refine cF.mono ?_)
 rintro e w1 ⟨rfl,hb1⟩;clear cF;have hrr:=hidT (Qds hb1);have B1:=hidT (b0.trans (hb1.mono (by simp)));have HB0:=hidT (Lib.IsBuilderF.of (Lib.fresh_isBuilder 61 5 w1));have HW0:=hidT ((Below.refl w1.heap.size w1).alloc (Nat.le_refl _) (.cells #[.pointer none,.slice none 0 0] 61));clear hb1 b0
 go_wp2
 go_loopw [19] (fun i wr=>∃k:Nat,k≤bs'.length∧i= .int .i64 k∧Hid (Lib.IsBuilderF 61 5 w1.heap.size w1.heap.size (Lib.byteCells (QE bs' k)) wr)∧Hid (Below w1.heap.size w1 wr)) (fun i _=>bs'.length - (intOf i).toNat)
 case atStart=>exact ⟨0,Nat.zero_le _,rfl,HB0,HW0⟩
 case round=>
  obtain ⟨k,hk,rfl,HB,HW⟩:=hrel;by_cases hlt:k<bs'.length
  ·obtain ⟨b,off,rfl,hcap,hc0,u,hc1,hu⟩:=hA.out k hlt;obtain ⟨bk,hbk⟩:∃bk,bk=bs'.getD k default:=⟨_,rfl⟩;rw[←hbk] at hc0 hu;have hBK:=hidT hbk;have hq:=Qnv ((Qdz hH.out).2 k hlt);rw[←hbk] at hq;have hal:=(Qdz hH.out).1;obtain ⟨hargs,hol,hop⟩:=hq;have hOP:=hidT hop;clear hbk hop;have c0:=hc0 _ (B1.out.trans (HW.out.mono B1.out.size));have c1:=hc1 _ (B1.out.trans (HW.out.mono B1.out.size));obtain ⟨ao2,cap2,rfl,hao2⟩:=QBQ hR.out hu;have hO:=hidT hao2;clear hao2 hu hc0 hc1
   go_wp2
   have hW8:=hidT ((Below.refl wr.heap.size wr).alloc (Nat.le_refl _) (.cells #[.int .i64 bk.args,.slice ao2 bk.ops.length cap2] 51));generalize hw8:wr.alloc (.cells #[.int .i64 bk.args,.slice ao2 bk.ops.length cap2] 51)=w8 at hW8 ⊢;have hf2:=QBR (wr:=wr) (x:= .int .i64 bk.args) (y:= .slice ao2 bk.ops.length cap2) (t:=51);have hk8:=heap_alloc_new wr (.cells #[.int .i64 bk.args,.slice ao2 bk.ops.length cap2] 51);rw[hw8] at hf2 hk8;obtain ⟨c6,c7,hl8⟩:=hf2;clear hw8;have d1:=Um (v:=(k:Int)) (by omega) (by omega);have d2:=Um (v:=bk.args) (by omega) (by omega);have q1:=Qc1 (a:=[98,108,111,99,107,32]) (b:=Lib.itoa (k:Int)) (by simp only[List.length_cons,List.length_nil];omega);have q2:=Qc1 (a:=[98,108,111,99,107,32]++Lib.itoa (k:Int)) (b:=[32]) (by simp only[List.length_append,List.length_cons,List.length_nil];omega);have q3:=Qc1 (a:=[98,108,111,99,107,32]++Lib.itoa (k:Int)++[32]) (b:=Lib.itoa bk.args) (by simp only[List.length_append,List.length_cons,List.length_nil];omega);have q4:=Qc1 (a:=[98,108,111,99,107,32]++Lib.itoa (k:Int)++[32]++Lib.itoa bk.args) (b:=[10]) (by simp only[List.length_append,List.length_cons,List.length_nil];omega);change ∀w,(Op.stringOp .add (⟨#[98,108,111,99,107,32]⟩:ByteArray) _).run Tryz.prog w=_ at q1;change ∀w,(Op.stringOp .add _ (⟨#[32]⟩:ByteArray)).run Tryz.prog w=_ at q2;change ∀w,(Op.stringOp .add _ (⟨#[10]⟩:ByteArray)).run Tryz.prog w=_ at q4;have cD:∀(n:Int) (S:ByteArray),S=bs (Lib.itoa n)→0≤n→n≤1000→∀wX,Below w8.heap.size w8 wX→Calls Tryz.prog 27 #[.int .i64 n] wX fun e w'=>e= .returned (.string S)∧(Below w8.heap.size w8 w'∧w'.cell? ⟨wr.heap.size,0,none⟩=some (.int .i64 bk.args)):=fun n S hS h0 h1 wX hX=>
    (Qvx (n:=n) (by omega) (by omega) hR.out wX (((B1.out.trans (HW.out.mono B1.out.size)).trans (hW8.out.mono (Nat.le_trans B1.out.size HW.out.size))).trans (hX.mono (Nat.le_trans (Nat.le_trans B1.out.size HW.out.size) hW8.out.size)))).mono (by
     rintro e w' ⟨rfl,hb⟩;have h2:=hX.trans (hb.mono hX.size);exact ⟨by rw[hS],h2,(h2.cell (p:=⟨wr.heap.size,0,none⟩) hl8).trans c6⟩)
   have H0:=(Below.refl w8.heap.size w8).drew;have eX:[98,108,111,99,107,32]++Lib.itoa (k:Int)++[32]++Lib.itoa bk.args++[10]=Jn k bk.args:=by unfold Jn;simp
   rw[eX] at q4;have hhl:(Jn k bk.args).length≤40:=Qqw (by omega) hargs.1 hargs.2;have cS1:=cD k _ rfl (by omega) (by omega);have cS2:=cD bk.args _ rfl hargs.1 (by omega);clear cD;generalize bs (Lib.itoa (k:Int))=S1 at q1 cS1;generalize bs (Lib.itoa bk.args)=S2 at q3 cS2;generalize bs ([98,108,111,99,107,32]++Lib.itoa (k:Int))=X1 at q1 q2;generalize bs ([98,108,111,99,107,32]++Lib.itoa (k:Int)++[32])=X2 at q2 q3;generalize bs ([98,108,111,99,107,32]++Lib.itoa (k:Int)++[32]++Lib.itoa bk.args)=X3 at q3 q4;obtain ⟨X4,hX4⟩:∃X4,Hid (X4=bs (Jn k bk.args)):=⟨_,rfl⟩;rw[←hX4.out] at q4;have hcl:=hidT (Qnu bs' (Nat.le_of_lt hlt));have hall:=hidT (Qk6 hH.out);have cW:∀wX,Below w8.heap.size w8 wX→Calls Tryz.prog 26 #[.pointer (some ⟨w1.heap.size,0,none⟩),.string X4] wX fun e w'=>e= .returned (.tuple #[.int .i64 X4.size,.nilIface])∧(Hid (Lib.IsBuilderF 61 5 w1.heap.size w1.heap.size (Lib.byteCells (QE bs' k++(Jn k bk.args++opsT bk.ops 0))) w')∧Hid (Below w1.heap.size w1 w')∧w'.cell? ⟨wr.heap.size,1,none⟩=some (.slice ao2 bk.ops.length cap2)):=fun wX hX=>by
    have hb:=Qqx HB.out (hW8.out.trans (hX.mono hW8.out.size));have hlt1:=Qsg HB.out;have:=hcl.out;have:=hall.out;refine (Qsh hb hX4.out (by omega)).mono ?_;rintro e w' ⟨rfl,h1,h2,h3⟩;refine ⟨rfl,?_,((HW.out.trans (hW8.out.mono HW.out.size)).trans (hX.mono (Nat.le_trans HW.out.size hW8.out.size))).trans h2,?_⟩
    ·have:opsT bk.ops 0=[]:=rfl;rw[this,List.append_nil];exact h1
    ·have hk:=(hX.block _ hl8).trans hk8;exact Lib.cell_of_heap (Qua h3 hk (by omega) (by decide)) 1
   clear eX d1 d2 hcl hall
   go_region_with (first
    |(go_at_call_of 27 (k:Int);refine (cS1 _ (by assumption)).mono ?_;rintro e w' ⟨rfl,hX,hc6⟩)
    |(go_at_call_of 27 bk.args;refine (cS2 _ (by assumption)).mono ?_;rintro e w' ⟨rfl,hX,hc6⟩)
    |(go_at_call 26;refine (cW _ (by assumption)).mono ?_;rintro e w' ⟨rfl,HB',HW',c7'⟩))
   clear cS1 cS2 cW q1 q2 q3 q4 c6 c7 H0 HB hX4
   all_goals (
    go_wp2
    go_loopw [38] (fun j wi=>∃m:Nat,m≤bk.ops.length∧j= .int .i64 m∧Hid (Lib.IsBuilderF 61 5 w1.heap.size w1.heap.size (Lib.byteCells (QE bs' k++(Jn k bk.args++opsT bk.ops m))) wi)∧Hid (Below w1.heap.size w1 wi)) (fun j _=>bk.ops.length - (intOf j).toNat)
    case atStart=>exact ⟨0,Nat.zero_le _,rfl,HB',HW'⟩
    case round=>
     obtain ⟨m,hm,rfl,HB,HW⟩:=hrel;by_cases hlm:m<bk.ops.length
     ·obtain ⟨b2,off2,d,rfl,hcap2,hd,hcs⟩:=hO.out m hlm;obtain ⟨ad,nd,cd,rfl⟩:=QB9 hd;have hop:=hOP.out m hlm;obtain ⟨o,ho⟩:∃o,o=bk.ops.getD m default:=⟨_,rfl⟩;rw[←ho] at hd hcs hop;have hOT:=hidT (OTx.of hop);have hOo:=hidT ho;have hDd:=hidT hd;obtain ⟨k0,k1,k2,k3,k4,k5,k6⟩:=hcs _ (B1.out.trans (HW.out.mono B1.out.size));clear hcs hop ho hd
      go_wp2
      have hW8:=hidT ((Below.refl wr.heap.size wr).alloc (Nat.le_refl _) (.cells #[.int .i64 o.kind,.int .i64 o.a,.int .i64 o.b,.int .i64 o.c,.int .i64 o.d,.string o.name,.slice ad nd cd] 56));have hk8:=heap_alloc_new wr (.cells #[.int .i64 o.kind,.int .i64 o.a,.int .i64 o.b,.int .i64 o.c,.int .i64 o.d,.string o.name,.slice ad nd cd] 56);generalize wr.alloc (.cells #[.int .i64 o.kind,.int .i64 o.a,.int .i64 o.b,.int .i64 o.c,.int .i64 o.d,.string o.name,.slice ad nd cd] 56)=w8 at hW8 hk8 ⊢;have hl8:=(Array.getElem?_eq_some_iff.1 hk8).1;obtain ⟨f0,f1,f2,f3,f4,f5,f6⟩:=QvA hk8;have hwi:=Nat.le_trans B1.out.size HW.out.size;have hBw:=hidT ((B1.out.trans (HW.out.mono B1.out.size)).trans (hW8.out.mono hwi));have d1:=Um (v:=(m:Int)) (by omega) (by omega);have d2:=QiT hOT.out;have q1:=Qc1 (a:=Lib.itoa (m:Int)) (b:=[58,32]) (by simp only[List.length_cons,List.length_nil];omega);have q2:=Qc1 (a:=Lib.itoa (m:Int)++[58,32]) (b:=txtO o) (by simp only[List.length_append,List.length_cons,List.length_nil];omega);have q3:=Qc1 (a:=Lib.itoa (m:Int)++[58,32]++txtO o) (b:=[10]) (by simp only[List.length_append,List.length_cons,List.length_nil];omega);change ∀w,(Op.stringOp .add _ (⟨#[58,32]⟩:ByteArray)).run Tryz.prog w=_ at q1;change ∀w,(Op.stringOp .add _ (⟨#[10]⟩:ByteArray)).run Tryz.prog w=_ at q3;have cS:∀wX,Below w8.heap.size w8 wX→Calls Tryz.prog 27 #[.int .i64 (m:Int)] wX fun e w'=>e= .returned (.string (bs (Lib.itoa (m:Int))))∧(Below w8.heap.size w8 w'∧w'.heap[wr.heap.size]? =some (.cells #[.int .i64 o.kind,.int .i64 o.a,.int .i64 o.b,.int .i64 o.c,.int .i64 o.d,.string o.name,.slice ad nd cd] 56)):=fun wX hX=>
       (Qvx (by omega) (by omega) hR.out wX (hBw.out.trans (hX.mono (Nat.le_trans hwi hW8.out.size)))).mono (by
        rintro e w' ⟨rfl,hb⟩;have h2:=hX.trans (hb.mono hX.size);exact ⟨rfl,h2,(h2.block _ hl8).trans hk8⟩)
      have cT:∀wX,Below w8.heap.size w8 wX→Calls Tryz.prog 28 #[.agg #[.int .i64 o.kind,.int .i64 o.a,.int .i64 o.b,.int .i64 o.c,.int .i64 o.d,.string o.name,.slice ad nd cd]] wX fun e w'=>e= .returned (.string (bs (txtO o)))∧Below w8.heap.size w8 w':=fun wX hX=>
       (QAt hOT.out hR.out hDd.out wX (hBw.out.trans (hX.mono (Nat.le_trans hwi hW8.out.size)))).mono (by
        rintro e w' ⟨rfl,hb⟩;exact ⟨rfl,hX.trans (hb.mono hX.size)⟩)
      have H0:=(Below.refl w8.heap.size w8).drew;have eX:Lib.itoa (m:Int)++[58,32]++txtO o++[10]=Qek m o:=by unfold Qek;simp
      rw[eX] at q3;have hll:(Qek m o).length≤3400:=Qqv hOT.out (by omega);have hpl:=hidT (QpO bs' hlt (k:=m) (by rw[←hBK.out];exact hm));have hpl1:=hidT (QpO bs' hlt (k:=m+1) (by rw[←hBK.out];exact hlm));rw[←hBK.out] at hpl hpl1;have hall:=hidT (Qk6 hH.out);generalize bs (Lib.itoa (m:Int))=S1 at q1 cS;generalize bs (txtO o)=S2 at q2 cT;generalize bs (Lib.itoa (m:Int)++[58,32])=X1 at q1 q2;generalize bs (Lib.itoa (m:Int)++[58,32]++txtO o)=X2 at q2 q3;obtain ⟨X4,hX4⟩:∃X4,Hid (X4=bs (Qek m o)):=⟨_,rfl⟩;rw[←hX4.out] at q3;have cW:∀wX,Below w8.heap.size w8 wX→Calls Tryz.prog 26 #[.pointer (some ⟨w1.heap.size,0,none⟩),.string X4] wX fun e w'=>e= .returned (.tuple #[.int .i64 X4.size,.nilIface])∧(Hid (Lib.IsBuilderF 61 5 w1.heap.size w1.heap.size (Lib.byteCells (QE bs' k++(Jn k bk.args++opsT bk.ops (m+1)))) w')∧Hid (Below w1.heap.size w1 w')):=fun wX hX=>by
       have hb:=Qqx HB.out (hW8.out.trans (hX.mono hW8.out.size));have h1:=hpl.out;have h2:=hall.out;refine (Qsh hb hX4.out (by omega)).mono ?_;rintro e w' ⟨rfl,h1,h2,h3⟩;refine ⟨rfl,?_,((HW.out.trans (hW8.out.mono HW.out.size)).trans (hX.mono (Nat.le_trans HW.out.size hW8.out.size))).trans h2⟩;rw[QgH,←hOo.out];rw[List.append_assoc,List.append_assoc] at h1;exact h1
      clear eX d1 d2 hpl hall hll HB HB' HW' hcap2 k0 k1 k2 k3 k4 k5 k6
      go_region_with (first
       |(go_at_call 27;refine (cS _ (by assumption)).mono ?_;rintro e w' ⟨rfl,hX,hk⟩;obtain ⟨g0,g1,g2,g3,g4,g5,g6⟩:=QvA hk)
       |(go_at_call 28;refine (cT _ (by assumption)).mono ?_;rintro e w' ⟨rfl,hX⟩)
       |(go_at_call 26;refine (cW _ (by assumption)).mono ?_;rintro e w' ⟨rfl,HB',HW'⟩))
      all_goals (
       clear cS cT cW q1 q2 q3 f0 f1 f2 f3 f4 f5 f6 H0 hX4;have cL:=Qvy HB'.out;obtain ⟨hr0,hc0,hc1,hf0,hf1⟩:=Qsi hrr.out HW'.out (Array.getElem?_eq_some_iff.1 hrr.out).1;obtain ⟨ln,hln⟩:∃ln:Nat,Hid (ln=(QE bs' k++(Jn k bk.args++opsT bk.ops (m+1))).length):=⟨_,rfl⟩;rw[←hln.out] at cL;by_cases g6:(6000:Int)<(ln:Int)
       ·go_wp2_with (go_at_call 29;refine cL.mono ?_;rintro e w'' ⟨rfl,rfl⟩)
        (try simp only[Exit.inBlock,Exit.then])
        refine bodyPost_ret (results_cell_row Tryz.results9 _ _ w.heap.size 25 _ (0,0) _ rfl (QaZ hr0) Tryz.underlying25 rfl rfl) rfl ?_;refine ⟨?_,.setCell (.setCell (B1.out.trans (HW'.out.mono B1.out.size)) (Nat.le_refl _) _) (Nat.le_refl _) _⟩;rw[Qqy hH.out (by have h1:=hpl1.out;have h2:=hln.out;omega)]
       ·go_wp2_with (go_at_call 29;refine cL.mono ?_;rintro e w'' ⟨rfl,rfl⟩)
        exact ⟨⟨m+1,by omega,by go_num,HB',HW'⟩,by simp[intOf];omega⟩)
     ·have hme:m=bk.ops.length:=by omega
      subst hme;have eE:QE bs' k++(Jn k bk.args++opsT bk.ops bk.ops.length)=QE bs' (k+1):=by rw[QcC,←hBK.out];rfl
      rw[eE] at HB;clear eE HB' HW'
      go_wp2
      exact ⟨⟨k+1,by omega,by go_num,HB,HW⟩,by simp[intOf];omega⟩)
  ·have hke:k=bs'.length:=by omega
   subst hke;have cL:=Qvy HB.out;have cG:=Qvz HB.out;obtain ⟨hr0,hc0,hc1,hf0,hf1⟩:=Qsi hrr.out HW.out (Array.getElem?_eq_some_iff.1 hrr.out).1;obtain ⟨ln,hln⟩:∃ln:Nat,Hid (ln=(QE bs' bs'.length).length):=⟨_,rfl⟩;rw[←hln.out] at cL;by_cases g6:(6000:Int)<(ln:Int)
   ·go_wp2_with (go_at_call 29;refine cL.mono ?_;rintro e w'' ⟨rfl,rfl⟩)
    (try simp only[Exit.inBlock,Exit.then])
    refine bodyPost_ret (results_cell_row Tryz.results9 _ _ w.heap.size 25 _ (0,0) _ rfl (QaZ hr0) Tryz.underlying25 rfl rfl) rfl ?_;refine ⟨?_,.setCell (.setCell (B1.out.trans (HW.out.mono B1.out.size)) (Nat.le_refl _) _) (Nat.le_refl _) _⟩;rw[Qqy hH.out (by have h2:=hln.out;omega)]
   ·clear hc0 hc1 hf0 hf1
    go_wp2_with (first
     |(go_at_call 29;refine cL.mono ?_;rintro e w'' ⟨rfl,rfl⟩)
     |(go_at_call 30;refine cG.mono ?_;rintro e w'' ⟨rfl,hb2⟩;obtain ⟨hr1,hc0,hc1,hf0,hf1⟩:=Qsi hr0 hb2 (Array.getElem?_eq_some_iff.1 hrr.out).1))
    (try simp only[Exit.inBlock,Exit.then])
    refine bodyPost_ret (results_cell_row Tryz.results9 _ _ w.heap.size 25 _ (0,0) _ rfl (QaZ hr1) Tryz.underlying25 rfl rfl) rfl ?_;refine ⟨?_,.setCell (.setCell ((B1.out.trans (HW.out.mono B1.out.size)).trans (hb2.mono B1.out.size)) (Nat.le_refl _) _) (Nat.le_refl _) _⟩;rw[Qxl hH.out (by have h2:=hln.out;omega)]
end
end
section
set_option maxRecDepth 100000
variable [L:Lam]
theorem Qo1 [K:Knows QP] {σ:AH} {R:AEnd→AH→Prop} {bs':List Blk} (h:R (.ret (.agg [iv (btxt bs').1,str (bs (btxt bs').2)])) σ):acall TP QmE [roBk bs'] σ R:=by
 refine ⟨_,Tryz.func9,rfl,by decide,fun κ w vs hr hv=>?_⟩;obtain ⟨v,rfl⟩:∃v,vs=[v]:=by
  have:=hv.1;match vs,this with
  |[a],_=>exact ⟨a,rfl⟩
 have hx:VR κ (roBk bs') v:=hv.2 0 (by simp);have key:Calls Tryz.prog 9 #[v] w fun e w'=>e= .returned (.agg #[.int .i64 (btxt bs').1,.string (bs (btxt bs').2)])∧Below w.heap.size w w':=by
  by_cases c:opsF bs'=0
  ·exact Qo0 hr hx c
  ·have e:btxt bs'=(opsF bs',[]):=by unfold btxt;rw[if_pos c]
   rw[e];exact QpT hr hx c
 refine key.mono ?_;rintro e w' ⟨rfl,hw⟩;refine ⟨κ,_,σ,h,.below hr hw,?_⟩;show VR κ (.agg [iv (btxt bs').1,str (bs (btxt bs').2)]) (.agg [Value.int .i64 (btxt bs').1,Value.string (bs (btxt bs').2)].toArray);refine .agg rfl fun i hi=>?_
 match i,hi with
 |0,_=>exact .val _
 |1,_=>exact .val _
end
section
set_option maxRecDepth 100000
variable [L:Lam] {σ:AH} {R:AEnd→AH→Prop}
theorem Qxm {c:Int} {s:ByteArray} (h:R (.ret (bv true)) σ):acall TP Qcm [.agg [iv c,str s],.agg [iv c,str s]] σ R:=by
 refine QgK ?_;unfold x10;dsimp only[den,dE,di,List.map,den0,den1];refine Qwl rfl rfl ?_;have e0:∀τ,lod (.rop [iv c,str s] 0) τ=some (iv c):=fun _=>rfl
 have e1:∀τ,lod (.rop [iv c,str s] 1) τ=some (str s):=fun _=>rfl
 simp only[RR,e0,e1,QaA,Qwk];exact Qa h
variable [K:Knows QP]
end
section
set_option maxRecDepth 100000
variable [L:Lam] {σ τ τ':AH} {R:AEnd→AH→Prop}
def cdF (t:List UInt8) (s tb:Int) (p:Bool):Int × List UInt8:=if mkc t s tb≠0 then (mkc t s tb,[]) else btxt (mkb t s tb p)
theorem QpU {t:List UInt8} {s tb:Int} {p q:Bool} (hl:t.length≤1048576) (h:R (.ret (.agg [iv (cdF t s tb p).1,str (bs (cdF t s tb p).2)])) σ):acall TP QfH [str (bs t),.agg (encF s tb p q)] σ R:=by
 refine Qlq ?_;unfold x18;dsimp only[den,dE,di,List.map,den0,den1];refine QiR rfl fun φ hφ=>?_
 simp only[Qu (cs:=encF s tb p q) (n:=4) rfl,RR];refine QoT hl ?_;refine Ji rfl rfl rfl (one2 rfl rfl) ?_;have l0:∀τ,lod (.rop [iv (mkc t s tb),roBk (mkb t s tb p)] 0) τ=some (iv (mkc t s tb)):=fun _=>rfl
 have l1:∀τ,lod (.rop [iv (mkc t s tb),roBk (mkb t s tb p)] 1) τ=some (roBk (mkb t s tb p)):=fun _=>rfl
 unfold cdF at h;simp only[l0,RR];by_cases c:mkc t s tb=0
 ·rw[if_neg (by simpa using c)] at h;simp only[c,l1,RR];refine QoZ (QBX (QBN hl s tb p)) ?_;simp only[RR];exact J0 hφ rfl rfl (one2 rfl rfl) h
 ·rw[if_pos c] at h;simp only[c,l0,(QoX (mkc t s tb) ⟨#[]⟩).1,RR];exact J0 hφ rfl rfl (one2 rfl rfl) h
section
variable [K:Knows QS]
theorem QpV {t:List UInt8} {s tb:Int} {p q:Bool} (hl:t.length≤1048576) (h:R (.ret (.agg [iv (cdF t s tb p).1,str (bs (cdF t s tb p).2)])) σ):acall TP QfI [str (bs t),.agg (encF s tb p q)] σ R:=by
 refine Qlr ?_;unfold x19;dsimp only[den,dE,di,List.map,den0,den1];refine QiR rfl fun φ hφ=>?_
 simp only[Qu (cs:=encF s tb p q) (n:=4) rfl,RR];have hs1:AH.Sub σ (σ.set φ ⟨0,[(AV.val (.int .i64 0)),(AV.val (.string ⟨#[]⟩))].length,[[(AV.val (.int .i64 0)),(AV.val (.string ⟨#[]⟩))]]⟩):= .set (.refl σ) _ hφ;have hF1:=AH.set_same σ φ (⟨0,2,[[(AV.val (.int .i64 0)),(AV.val (.string ⟨#[]⟩))]]⟩:Fam);refine QoS hl fun v B τ1 hB hN=>?_
 refine Ji rfl rfl rfl (one2 rfl hN.one) ?_;have l0:∀τ,lod (.rop [iv (mkc t s tb),v] 0) τ=some (iv (mkc t s tb)):=fun _=>rfl
 have l1:∀τ,lod (.rop [iv (mkc t s tb),v] 1) τ=some v:=fun _=>rfl
 unfold cdF at h;simp only[l0,RR];by_cases c:mkc t s tb=0
 ·rw[if_neg (by simpa using c)] at h;simp only[c,l1,RR];refine JI (args':=[roBk (mkb t s tb p)]) hN.sub rfl (fun i hi=>?_) ?_
  ·match i,hi with
   |0,_=>have:=hN.fz';rw[hB] at this;exact this
  refine Qo1 ?_;simp only[RR];exact J0 hφ rfl rfl (one2 rfl rfl) h
 ·rw[if_pos c] at h;simp only[c,l0,(QoX (mkc t s tb) ⟨#[]⟩).1,RR];refine Qsb (hN.sub _ _ hF1) rfl rfl (one2 rfl rfl) (Uk (fun ψ G hG=>?_) h);rw[AH.set_ne' (by rintro rfl;rw[hφ] at hG;cases hG)];exact hN.sub _ _ (hs1 _ _ hG)
theorem Qic {x:ByteArray} {s tb:Int} {p q:Bool} {R:AEnd→AH→Prop} (h:∀σ,R (.ret (bv true)) σ):acall TP Qbm [str x,.agg (encF s tb p q)] ah0 R:=by
 have hret:∀σ,aret (bv true) σ R:=fun σ=>Qa (h σ)
 rw[←Qfc x];generalize by8 x=t;refine QeZ ?_;unfold x5;dsimp only[den,dE,di,List.map,den0,den1];refine Qan rfl ?_;simp only[Qm,RR];refine QI (fun _=>hret _) (fun c=>?_);have hl:t.length≤1048576:=by have:=of_decide_eq_false c;omega
 have lF:∀τ,lodA 4 (.rop (encF s tb p q) 0) τ=some (.agg (encF s tb p q)):=fun _=>Qu (cs:=encF s tb p q) (n:=4) rfl
 simp only[lF,RR];refine QgE ?_;try simp only[RR]
 refine QpU hl ?_;refine Ji rfl rfl rfl (one2 rfl rfl) ?_;try simp only[lF,RR]
 refine QgE ?_;try simp only[RR]
 refine QpV hl ?_;refine Ji rfl rfl rfl (one2 rfl rfl) ?_;simp only[Qu (cs:=[_,_]) (n:=2) rfl,RR];refine Qxm ?_;simp only[RR];exact hret _
end
end
end Go.Proofs.YtggnjjalfnhiiaaGreatDoor.E

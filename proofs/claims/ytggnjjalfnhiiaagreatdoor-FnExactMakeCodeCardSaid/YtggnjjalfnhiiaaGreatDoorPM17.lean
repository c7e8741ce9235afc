import Derived.Test.YtggnjjalfnhiiaaGreatDoorPM16
import Derived.Lib.SplitLaws
/- Forms that are expanded to cores: let, the forms, all of it. -/
set_option linter.unusedSectionVars false
set_option linter.unusedSimpArgs false
set_option linter.unusedVariables false
namespace Go.Proofs.YtggnjjalfnhiiaaGreatDoor.E
open Go Go.RowKit
set_option maxRecDepth 100000
variable [L:Lam]
variable {σ σ1 τ τ':AH} {R:AEnd→AH→Prop}
section
variable {ds:List Dat} {φm f:Nat} {C:List Cor} {F:Frs} {ks:List Nat} {p fr:Int} {sc:Sco}
theorem QqR (hd:DOk ds) (hE:ExpC ds f φm) (hks:∀k,k∈ks→k<ds.length∧ds.length≤f+k) (h:MSt σ τ φm (fdE ds C F)) (hc:Chain F fr sc) (hF:SmF F) (hC:C.length+2*nvK ds ks+2≤400) (hF2:F.length+nvK ds ks≤400)
  (h1:EndE σ φm ds (letE ds (expE ds f) ks p sc C) F (nvK ds ks) R):acall TP Qit [.ptr φm 0 0 0,roK ks,iv p,iv fr] τ R:=by
 refine Qna ?_
 unfold QjX x215;dsimp only [den,dE,di,tupL,lTup,dwat,Qe,List.map,Option.map,den0,den1,den2,den3,den4]
 unfold letE at h1
 have hdl:=hd.len
 simp only [lenK,RR]
 by_cases c3:ks.length=3
 ·have g3:(ks.length:Int)=3:=by omega
  have hm1:=hks _ (QD (ks:=ks) (j:=1) (by omega))
  have hm2:=hks _ (QD (ks:=ks) (j:=2) (by omega))
  have x1:∀τ,idx 1 (roK ks) (.val (.int .i64 1)) τ=some (.rop [iv ((ks.getD 1 0:Nat):Int)] 0):=fun τ=>Q1 (j:=1) (by omega)
  have x2:∀τ,idx 1 (roK ks) (.val (.int .i64 2)) τ=some (.rop [iv ((ks.getD 2 0:Nat):Int)] 0):=fun τ=>Q1 (j:=2) (by omega)
  have o1:=Qb2 (ds:=ds) (ks:=ks) (j:=1) (by omega)
  have o3:=Qao (ds:=ds) (ks:=ks.drop 2) (j:=0) (by rw [List.length_drop];omega)
  have e2:(ks.drop 2).getD 0 0=ks.getD 2 0:=by simp [List.getD]
  rw [e2] at o3
  simp only [Nat.reduceAdd] at o1
  have he1:=Qgd hd hm1.1
  have e0:lod (.ptr φm 0 0 0) τ=some (roD ds):=h.fix rfl
  have l0:∀τ,lod (.rop (Qc (dat ds (ks.getD 1 0))) 0) τ=some (iv (dat ds (ks.getD 1 0)).kind):=fun _=>rfl
  by_cases c4:(dat ds (ks.getD 1 0)).kind=4
  ·rw [if_neg (by rintro (k|k);exact k c3;exact k c4)] at h1
   simp only [g3,x1,Qv,e0,Qu hm1.1 Qk,QY hm1.1,l0,c4,RR]
   refine QaY (by omega) ?_
   simp only [RR,true_and]
   refine bsl0 (bsl0 ?_)
   have hkl:=Qig (ds:=ds) (ks.getD 1 0)
   have hkm:∀k,k∈Qf ds (ks.getD 1 0)→k<ds.length∧ks.getD 1 0<k:=fun k hk=>⟨(hd.kid hk).2,(hd.kid hk).1⟩
   generalize Qf ds (ks.getD 1 0)=lst at h1 hkl hkm he1 ⊢
   refine QH (fun n x τ'=>∃(j:Nat) (u v:AV) (ns:List ByteArray) (vs:List Nat) (σ1:AH),x=(.ptr φm 0 0 0,roK ks,iv p,iv fr,roK lst,u,v,iv (j:Int),())∧MSt σ1 τ' φm (fdE ds C F)∧AH.Sub σ σ1∧Buf σ1 1 u (ns.map fun s=>[str s])∧(∀ψ,ψ∈famL u→σ ψ=none)∧Buf σ1 1 v (vs.map fun k:Nat=>[iv (k:Int)])∧(∀ψ,ψ∈famL v→σ ψ=none)∧(∀ψ,ψ∈famL u→ψ∉famL v)∧
     lst.length - j=n∧j≤lst.length∧ns.length=j∧vs.length=j∧UV ds (lst.drop j) ns vs=UV ds lst [] []) lst.length
    ⟨0,.emp,.emp,[],[],σ,rfl,h,.refl σ,Qap,(fun ψ c=>by cases c),Qap,(fun ψ c=>by cases c),(fun ψ c=>by cases c),by omega,by omega,rfl,rfl,rfl⟩ ?_
   rintro n x τ' ⟨j,u,v,ns,vs,σ1,rfl,S,hs,hB,hf,hBv,hfv,hdj,rfl,hj,hnl,hvl,e⟩ R' hR'
   simp only [lenK,RR]
   by_cases c:j<lst.length
   ·have g:(j:Int)<(lst.length:Int):=by omega
    have ej:lst[j]=lst.getD j 0:=by simp [List.getD,c]
    have e0':lod (.ptr φm 0 0 0) τ'=some (roD ds):=S.fix rfl
    rw [List.drop_eq_getElem_cons c,UV,ej] at e
    have hk:=hkm _ (QD c)
    simp only [g,Q1 c,Qv,e0',RR]
    refine QaY (by omega) ?_
    simp only [RR,true_and,lenK]
    by_cases c2:(Qf ds (lst.getD j 0)).length=2
    ·have g2:((Qf ds (lst.getD j 0)).length:Int)=2:=by omega
     rw [if_neg (by simpa using c2)] at e
     have y0:∀τ,idx 1 (roK (Qf ds (lst.getD j 0))) (.val (.int .i64 0)) τ=some (.rop [iv (((Qf ds (lst.getD j 0)).getD 0 0:Nat):Int)] 0):=fun τ=>Q1 (j:=0) (by omega)
     have y1:∀τ,idx 1 (roK (Qf ds (lst.getD j 0))) (.val (.int .i64 1)) τ=some (.rop [iv (((Qf ds (lst.getD j 0)).getD 1 0:Nat):Int)] 0):=fun τ=>Q1 (j:=1) (by omega)
     have hk0:=(hd.kid (QD (ks:=Qf ds (lst.getD j 0)) (j:=0) (by omega))).2
     simp only [g2,y0,y1,Qv,RR]
     refine QcQ S hk0 (by omega) (RdN.buf (hB.up fun ψ hψ=>?_)) ?_
     ·obtain ⟨G,hG⟩:=hB.live hψ
      rw [hG,S.sub _ _ hG]
     simp only [QcR.1,QcR.2,RR]
     cases hb:badP ds ((Qf ds (lst.getD j 0)).getD 0 0) ns with
     |true=>
      rw [if_pos hb] at e
      rw [←e] at h1
      simp only [if_true,Int.reduceEq,RR]
      exact Qa (h1.bad (by decide) hs S)
     |false=>
      rw [if_neg (by rw [hb];decide)] at e
      simp only [Bool.false_eq_true,if_false,RR]
      refine S.push2 (sz2:=1) hs hB hf hBv hfv hdj aft1 (by omega) rfl Qmt (by simp;omega) fun u' σ2 τ2 S2 hs2 hB2 hf2 hBv2 hdj2=>?_
      refine S2.push2 (sz2:=1) hs2 hBv2 hfv hB2 hf2 (fun ψ a b=>hdj2 ψ b a) aftI (by omega) rfl Qyw (by simp;omega) fun v' σ3 τ3 S3 hs3 hBv3 hfv3 hB3 hdj3=>?_
      simp only [Qj c (by omega),RR]
      exact hR' _ _ (lst.length - (j+1)) τ3 (by omega) (.refl _) ⟨j+1,u',v',ns++[(dat ds ((Qf ds (lst.getD j 0)).getD 0 0)).name],vs++[(Qf ds (lst.getD j 0)).getD 1 0],σ3,rfl,S3,hs3,by simpa using hB3,hf2,by simpa using hBv3,hfv3,(fun ψ a b=>hdj3 ψ b a),rfl,c,by simp;omega,by simp;omega,e⟩
    ·have g2:¬((Qf ds (lst.getD j 0)).length:Int)=2:=by omega
     rw [if_pos (by simpa using c2)] at e
     rw [←e] at h1
     simp only [g2,RR]
     exact Qa (h1.bad (by decide) hs S)
   ·have g:¬(j:Int)<(lst.length:Int):=by omega
    obtain rfl:j=lst.length:=by omega
    rw [List.drop_length,UV] at e
    have ll:=QoH hd _ _ _ _ _ (fun k hk=>(hkm k hk).1) e.symm
    have e00:nvK ds []=0:=rfl
    rw [←e] at h1
    dsimp only at h1
    have hlen:lenS u=some (iv (ns.length:Int)):=by have:=Q9 hB;simpa using this
    simp only [g,hlen,RR]
    by_cases c5:3<ns.length
    ·have g5:(3:Int)<(ns.length:Int):=by omega
     rw [if_pos c5] at h1
     simp only [g5,RR]
     exact Qa (h1.bad (by decide) hs S)
    ·have g5:¬(3:Int)<(ns.length:Int):=by omega
     rw [if_neg c5] at h1
     simp only [g5,Qgf,RR]
     refine JS (nodC 9 p 0) rfl rfl ?_
     refine JC S (by omega) fun τ2 S2=>?_
     simp only [hlen,bldC,RR]
     refine JS (nodC 5 (C.length:Int) ns.length) rfl rfl ?_
     refine JC S2 (by simp;omega) fun τ3 S3=>?_
     have hl1:(C++[nodC 9 p 0]).length=C.length+1:=by simp
     rw [hl1]
     simp only [x2,Qv,RR,true_and,and_true]
     obtain ⟨σ4,τ4,S4,hs4,hst,hfz,hBv4⟩:=S3.give (sz2:=1) hs hB hf (by intro c hc;obtain ⟨x,_,rfl⟩:=List.mem_map.1 hc;rfl) hBv hdj
     refine Ur (args':=[.ptr φm 0 0 0,roS ns,iv fr]) hst rfl (fun i hi=>?_) ?_
     ·match i,hi with
      |0,_=>exact .same _
      |1,_=>exact hfz
      |2,_=>exact .same _
     refine QiW S4 (by omega) fun τ5 S5=>?_
     simp only [RR,true_and,and_true]
     refine hE σ4 _ _ _ (ns::sc) _ _ τ5 _ hm2.1 hm2.2 S5 (hc.new ns) (hF.app fun p hp=>?_) (by rw [List.length_append,List.length_append,List.length_singleton,List.length_singleton];omega) (by rw [List.length_append,List.length_singleton];omega) fun τ6 C' F' S6 hE6=>?_
     ·obtain rfl:=List.mem_singleton.1 hp;show ns.length≤3;omega
     have hle:=Qe6 hd f (ks.getD 2 0) ((C.length+1:Nat):Int) (ns::sc) (C++[nodC 9 p 0]++[nodC 5 (C.length:Int) ns.length]) hm2.1
     rw [List.length_append,List.length_append,List.length_singleton,List.length_singleton] at hle
     generalize expE ds f (ks.getD 2 0) ((C.length+1:Nat):Int) (ns::sc) (C++[nodC 9 p 0]++[nodC 5 (C.length:Int) ns.length])=r at h1 hE6 hle ⊢
     simp only [RR,true_and]
     by_cases c6:r.2=0
     ·rw [if_neg (by simpa using c6)] at h1
      obtain ⟨rfl,X,rfl,hXl,hX⟩:=hE6 c6
      simp only [c6,RR]
      obtain ⟨σ7,τ7,S7,hs7,hst7,hfz7,_⟩:=S6.give (sz2:=1) (b:= .emp) (fs:=[]) hs4 hBv4 hfv (by intro c hc;obtain ⟨x,_,rfl⟩:=List.mem_map.1 hc;rfl) Qap (fun ψ _ c=>by cases c)
      refine Ur (args':=[.ptr φm 0 0 0,roK vs,iv (C.length:Int),iv fr]) hst7 rfl (fun i hi=>?_) ?_
      ·match i,hi with
       |0,_=>exact .same _
       |1,_=>exact hfz7
       |2,_=>exact .same _
       |3,_=>exact .same _
      have hFa:F++[(ns,fr)]++X=F++((ns,fr)::X):=by simp
      rw [hFa] at S7
      refine Qe7 hd hE (fun k hk=>?_) (S7.drop hs7) (hc.app _) (hF.app fun p hp=>?_) (by omega) (by rw [List.length_append,List.length_cons];omega) ?_
      ·rcases ll.2 k hk with q|⟨q,w,q2,q3⟩
       ·cases q
       ·have:=hkm w q2
        exact ⟨q,by omega⟩
      ·rcases List.mem_cons.1 hp with rfl|hp
       ·show ns.length≤3;omega
       ·exact hX p hp
      ·refine h1.onr.behind (.refl _) ⟨(ns,fr)::X,rfl,by rw [List.length_cons];omega,fun p hp=>?_⟩
       rcases List.mem_cons.1 hp with rfl|hp
       ·show ns.length≤3;omega
       ·exact hX p hp
     ·rw [if_pos (by simpa using c6)] at h1
      simp only [c6,RR]
      exact Qa (h1 τ6 C' F' (S6.drop hs4) fun h0=>absurd h0 c6)
  ·rw [if_pos (.inr c4)] at h1
   simp only [g3,x1,Qv,e0,Qu hm1.1 Qk,QY hm1.1,l0,c4,RR]
   exact Qa (h1.bad (by decide) (.refl _) h)
 ·rw [if_pos (.inl c3)] at h1
  have g3:¬(ks.length:Int)=3:=by omega
  simp only [g3,RR]
  exact Qa (h1.bad (by decide) (.refl _) h)
end
end Go.Proofs.YtggnjjalfnhiiaaGreatDoor.E
/- Forms that are expanded to cores: the forms, data, all of it. -/
namespace Go.Proofs.YtggnjjalfnhiiaaGreatDoor.E
open Go Go.RowKit
set_option maxRecDepth 100000
variable [L:Lam]
variable {σ σ1 τ τ':AH} {R:AEnd→AH→Prop}
theorem QtY {a:Int} {b:Bool} (h:a=3):decide (a=3∧b=true)=b:=by subst h;cases b<;>rfl
theorem QtZ {a:Int} {b:Bool} (h:¬a=3):decide (a=3∧b=true)=false:=by simp [h]
section
variable {ds:List Dat} {φm f:Nat} {C:List Cor} {F:Frs} {ks:List Nat} {p fr:Int} {sc:Sco}
theorem QpC (hd:DOk ds) (hE:ExpC ds f φm) {w:ByteArray} (hks:∀k,k∈ks→k<ds.length∧ds.length≤f+k) (h:MSt σ τ φm (fdE ds C F)) (hc:Chain F fr sc) (hF:SmF F) (hC:C.length+2*nvK ds ks+2≤400) (hF2:F.length+nvK ds ks≤400)
   (h1:EndE σ φm ds (QaX ds (expE ds f) w ks p sc C) F (nvK ds ks) R):acall TP QgW [.ptr φm 0 0 0,str w,roK ks,iv p,iv fr] τ R:=by
 refine Ql6 ?_
 unfold QiL x180;dsimp only [den,dE,di,tupL,lTup,dwat,Qe,List.map,Option.map,den0,den1,den2,den3,den4]
 unfold QaX at h1
 have hdl:=hd.len
 have hnl:=QhC (ds:=ds) ks
 have e0:lod (.ptr φm 0 0 0) τ=some (roD ds):=h.fix rfl
 simp only [Jt,RR]
 by_cases c1:w=⟨#[113,117,111,116,101]⟩
 · rw [if_pos c1] at h1
   simp only [c1,lenK,RR]
   by_cases c:ks.length=2
   · rw [if_neg (by simpa using c)] at h1
     have g:(ks.length:Int)=2:=by omega
     have hm1:=hks _ (QD (ks:=ks) (j:=1) (by omega))
     have x1:∀τ,idx 1 (roK ks) (.val (.int .i64 1)) τ=some (.rop [iv ((ks.getD 1 0:Nat):Int)] 0):=fun τ=>Q1 (j:=1) (by omega)
     simp only [g,e0,x1,Qv,RR]
     refine Qkn hd hm1.1 ?_
     simp only [QpK,RR,true_and]
     refine JC h (by omega) fun τ1 S1=>?_
     simp only [RR,true_and]
     exact Qa (h1.ok S1)
   · rw [if_pos (by simpa using c)] at h1
     have g:¬(ks.length:Int)=2:=by omega
     simp only [g,RR]
     exact Qa (h1.bad (by decide) (.refl _) h)
 rw [if_neg c1] at h1
 have go:∀k,1≤ks.length→EndE σ φm ds (allE (fun k C'=>expE ds f k (C.length:Int) sc C') (ks.drop 1) (C++[nodC k p 0])) F (nvK ds ks) R→acall TP Qbs [.ptr φm 0 0 0,.agg [iv k,iv p,iv 0,iv 0,str ⟨#[]⟩,nilS]] τ (onr (fun v40 σ=>
       acall TP Qdr [.ptr φm 0 0 0,roK (ks.drop 1),v40,iv fr] σ (onr (fun v42 σ=>
       aret v42 σ R) (fun v σ=>apan v σ R))) (fun v σ=>apan v σ R)):=fun k hn h1=>by
   refine JS (nodC k p 0) rfl rfl ?_
   refine JC h (by omega) fun τ1 S1=>?_
   have hdr:=Qmr (ds:=ds) ks 1
   simp only [RR]
   exact Qe7 hd hE (fun k hk=>hks k (List.mem_of_mem_drop hk)) S1 hc hF (by rw [List.length_append,List.length_singleton];omega) (by omega) (h1.onr.behind (.refl _) ⟨[],by simp,by rw [List.length_nil];omega,fun p hp=>by cases hp⟩)
 by_cases c2:w=⟨#[105,102]⟩
 · rw [if_pos c2] at h1
   have d1:¬(⟨#[105,102]⟩:ByteArray)=⟨#[113,117,111,116,101]⟩:=by rw [←c2];exact c1
   simp only [c2,d1,lenK,RR]
   by_cases c:ks.length=4
   · rw [if_neg (by simpa using c)] at h1
     have g:(ks.length:Int)=4:=by omega
     have hh:=go 4 (by omega) h1
     simp only [g,QqQ (show 1≤ks.length by omega),Qgf,RR,true_and,and_true] at hh ⊢
     exact hh
   · rw [if_pos (by simpa using c)] at h1
     have g:¬(ks.length:Int)=4:=by omega
     simp only [g,RR]
     exact Qa (h1.bad (by decide) (.refl _) h)
 rw [if_neg c2] at h1
 by_cases c3:w=⟨#[98,101,103,105,110]⟩
 · rw [if_pos c3] at h1
   have d1:¬(⟨#[98,101,103,105,110]⟩:ByteArray)=⟨#[113,117,111,116,101]⟩:=by rw [←c3];exact c1
   have d2:¬(⟨#[98,101,103,105,110]⟩:ByteArray)=⟨#[105,102]⟩:=by rw [←c3];exact c2
   simp only [c3,d1,d2,lenK,RR]
   by_cases c:ks.length<2
   · rw [if_pos c] at h1
     have g:(ks.length:Int)<2:=by omega
     simp only [g,RR]
     exact Qa (h1.bad (by decide) (.refl _) h)
   · rw [if_neg c] at h1
     have g:¬(ks.length:Int)<2:=by omega
     have hh:=go 6 (by omega) h1
     simp only [g,QqQ (show 1≤ks.length by omega),Qgf,RR,true_and,and_true] at hh ⊢
     exact hh
 rw [if_neg c3] at h1
 by_cases c4:w=⟨#[108,97,109,98,100,97]⟩
 · rw [if_pos c4] at h1
   simp only [c1,c2,c3,c4,RR]
   have d1:¬(⟨#[108,97,109,98,100,97]⟩:ByteArray)=⟨#[113,117,111,116,101]⟩:=by rw [←c4];exact c1
   have d2:¬(⟨#[108,97,109,98,100,97]⟩:ByteArray)=⟨#[105,102]⟩:=by rw [←c4];exact c2
   have d3:¬(⟨#[108,97,109,98,100,97]⟩:ByteArray)=⟨#[98,101,103,105,110]⟩:=by rw [←c4];exact c3
   simp only [d1,d2,d3,RR]
   exact QnH hd hE hks h hc hF (by omega) hF2 h1.onr
 rw [if_neg c4] at h1
 by_cases c5:w=⟨#[108,101,116]⟩
 · rw [if_pos c5] at h1
   have d1:¬(⟨#[108,101,116]⟩:ByteArray)=⟨#[113,117,111,116,101]⟩:=by rw [←c5];exact c1
   have d2:¬(⟨#[108,101,116]⟩:ByteArray)=⟨#[105,102]⟩:=by rw [←c5];exact c2
   have d3:¬(⟨#[108,101,116]⟩:ByteArray)=⟨#[98,101,103,105,110]⟩:=by rw [←c5];exact c3
   have d4:¬(⟨#[108,101,116]⟩:ByteArray)=⟨#[108,97,109,98,100,97]⟩:=by rw [←c5];exact c4
   simp only [c5,d1,d2,d3,d4,RR]
   exact QqR hd hE hks h hc hF hC hF2 h1.onr
 rw [if_neg c5] at h1
 by_cases c6:w=⟨#[100,101,102,105,110,101]⟩
 · rw [if_pos c6] at h1
   have d1:¬(⟨#[100,101,102,105,110,101]⟩:ByteArray)=⟨#[113,117,111,116,101]⟩:=by rw [←c6];exact c1
   have d2:¬(⟨#[100,101,102,105,110,101]⟩:ByteArray)=⟨#[105,102]⟩:=by rw [←c6];exact c2
   have d3:¬(⟨#[100,101,102,105,110,101]⟩:ByteArray)=⟨#[98,101,103,105,110]⟩:=by rw [←c6];exact c3
   have d4:¬(⟨#[100,101,102,105,110,101]⟩:ByteArray)=⟨#[108,97,109,98,100,97]⟩:=by rw [←c6];exact c4
   have d5:¬(⟨#[100,101,102,105,110,101]⟩:ByteArray)=⟨#[108,101,116]⟩:=by rw [←c6];exact c5
   simp only [c6,d1,d2,d3,d4,d5,RR]
   exact Qgg hd hE (.inr rfl) hks h hc hF (by omega) hF2 h1.onr
 rw [if_neg c6] at h1
 simp only [c1,c2,c3,c4,c5,c6,RR]
 exact Qgg hd hE (.inl rfl) hks h hc hF (by omega) hF2 h1.onr
set_option maxHeartbeats 400000 in
theorem Qyx (hd:DOk ds):∀f,ExpC ds f φm:=by
 intro f
 induction f with
 |zero=>intro σ x p fr sc C F τ R hx hf;omega
 |succ f ih=>
  intro σ x p fr sc C F τ R hx hfx h hc hF hC hF2 h1
  have hdl:=hd.len
  have hkd:=hd.kind x hx
  have hnv:=Qgd hd hx
  have hks:∀k,k∈Qf ds x→k<ds.length∧ds.length≤f+k:=fun k hk=>by have:=hd.kid hk;omega
  have e0:∀{τ C F},MSt σ τ φm (fdE ds C F)→lod (.ptr φm 0 0 0) τ=some (roD ds):=fun h=>h.fix rfl
  have l0:∀τ y,lod (.rop (Qc (dat ds y)) 0) τ=some (iv (dat ds y).kind):=fun _ _=>rfl
  have l3:∀τ y,lod (.rop (Qc (dat ds y)) 3) τ=some (str (dat ds y).name):=fun _ _=>rfl
  refine QjK ?_
  unfold QfT x146;dsimp only [den,dE,di,tupL,lTup,dwat,Qe,List.map,Option.map,den0,den1,den2,den3,den4]
  simp only [e0 h,Qu hx Qk,QY hx,l0,RR]
  rw [expE] at h1
  refine UC (P:=fun z τ'=>τ'=τ∧z=(.ptr φm 0 0 0,iv (x:Int),iv p,iv fr,.rop (Qc (dat ds x)) 0,iv (dat ds x).kind,bv (decide ((dat ds x).kind=1)||decide ((dat ds x).kind=2)),())) ?_ ?_
  ·rintro z τ' ⟨rfl,rfl⟩
   by_cases c12:(dat ds x).kind=1∨(dat ds x).kind=2
   ·rw [if_pos c12] at h1
    have g:(decide ((dat ds x).kind=1)||decide ((dat ds x).kind=2))=true:=by simpa using c12
    simp only [g,e0 h,RR]
    refine Qkn hd hx ?_
    simp only [QpK,RR]
    refine JC h (by omega) fun τ1 S1=>?_
    simp only [RR]
    exact Qa (h1.ok S1)
   rw [if_neg c12] at h1
   have g:(decide ((dat ds x).kind=1)||decide ((dat ds x).kind=2))=false:=by simpa using c12
   by_cases c3:(dat ds x).kind=3
   ·rw [if_pos c3] at h1
    have g2:(decide ((3:Int)=1)||decide ((3:Int)=2))=false:=rfl
    simp only [c3,g2,l3,RR]
    refine QbL ?_
    cases hk:kwB (dat ds x).name with
    |true=>
     rw [if_pos hk] at h1
     simp only [RR]
     exact Qa (h1.bad (by decide) (.refl _) h)
    |false=>
     rw [if_neg (by rw [hk];decide)] at h1
     simp only [RR]
     refine QiX h (by omega) hF.le hc ?_
     cases hf:Jv sc (dat ds x).name with
     |some q=>
      rw [hf] at h1
      dsimp only at h1
      have a0:aext (fndV (some q)) 0=some (iv (q.1:Int)):=rfl
      have a1:aext (fndV (some q)) 1=some (iv (q.2:Int)):=rfl
      have a2:aext (fndV (some q)) 2=some (bv true):=rfl
      simp only [a0,a1,a2,Qv5,RR]
      refine JS (locC p q.1 q.2) rfl rfl ?_
      refine JC h (by omega) fun τ1 S1=>?_
      simp only [RR]
      exact Qa (h1.ok S1)
     |none=>
      rw [hf] at h1
      dsimp only at h1
      have a0:aext (fndV none) 0=some (iv 0):=rfl
      have a1:aext (fndV none) 1=some (iv 0):=rfl
      have a2:aext (fndV none) 2=some (bv false):=rfl
      simp only [a0,a1,a2,QnG,RR]
      refine JS (nmdC 3 p (dat ds x).name) rfl rfl ?_
      refine JC h (by omega) fun τ1 S1=>?_
      simp only [RR]
      exact Qa (h1.ok S1)
   rw [if_neg c3] at h1
   simp only [g,c3,e0 h,RR]
   refine QaY (by omega) ?_
   simp only [lenK,RR]
   by_cases c0:(Qf ds x).length=0
   ·rw [if_pos c0] at h1
    have g0:((Qf ds x).length:Int)=0:=by omega
    simp only [g0,RR]
    exact Qa (h1.bad (by decide) (.refl _) h)
   rw [if_neg c0] at h1
   have g0:¬((Qf ds x).length:Int)=0:=by omega
   have hk0:=hks _ (QD (ks:=Qf ds x) (j:=0) (by omega))
   have x0:∀τ,idx 1 (roK (Qf ds x)) (.val (.int .i64 0)) τ=some (.rop [iv (((Qf ds x).getD 0 0:Nat):Int)] 0):=fun τ=>Q1 (j:=0) (by omega)
   simp only [g0,x0,Qv,e0 h,Qu hk0.1 Qk,QY hk0.1,l0,l3,RR]
   refine UC (P:=fun z τ2=>τ2=τ'∧z=(.ptr φm 0 0 0,iv p,iv fr,roK (Qf ds x),.rop (Qc (dat ds ((Qf ds x).getD 0 0))) 0,bv (decide ((dat ds ((Qf ds x).getD 0 0)).kind=3∧kwB (dat ds ((Qf ds x).getD 0 0)).name=true)),())) ?_ ?_
   ·rintro z τ2 ⟨rfl,rfl⟩
    by_cases cf:(dat ds ((Qf ds x).getD 0 0)).kind=3∧kwB (dat ds ((Qf ds x).getD 0 0)).name=true
    ·rw [if_pos cf] at h1
     have gf:decide ((dat ds ((Qf ds x).getD 0 0)).kind=3∧kwB (dat ds ((Qf ds x).getD 0 0)).name=true)=true:=by simpa using cf
     simp only [gf,l3,RR]
     exact QpC hd ih hks h hc hF (by omega) (by omega) (h1.onr.behind (.refl _) ⟨[],by simp,by rw [List.length_nil];omega,fun p hp=>by cases hp⟩)
    ·rw [if_neg cf] at h1
     have gf:decide ((dat ds ((Qf ds x).getD 0 0)).kind=3∧kwB (dat ds ((Qf ds x).getD 0 0)).name=true)=false:=by simpa using cf
     simp only [gf,lenK,RR]
     by_cases c4:4<(Qf ds x).length
     ·rw [if_pos c4] at h1
      have g4:(4:Int)<((Qf ds x).length:Int):=by omega
      simp only [g4,RR]
      exact Qa (h1.bad (by decide) (.refl _) h)
     ·rw [if_neg c4] at h1
      have g4:¬(4:Int)<((Qf ds x).length:Int):=by omega
      simp only [g4,Qgf,RR]
      refine JS (nodC 9 p 0) rfl rfl ?_
      refine JC h (by omega) fun τ3 S3=>?_
      simp only [RR]
      exact Qe7 hd ih hks S3 hc hF (by rw [List.length_append,List.length_singleton];omega) (by omega) (h1.onr.behind (.refl _) ⟨[],by simp,by rw [List.length_nil];omega,fun p hp=>by cases hp⟩)
   ·intro k hk
    by_cases c:(dat ds ((Qf ds x).getD 0 0)).kind=3
    ·simp only [c,RR]
     refine QbL ?_
     simp only [RR]
     exact hk _ _ ⟨rfl,by rw [QtY c]<;>rfl⟩
    ·simp only [c,RR]
     exact hk _ _ ⟨rfl,by rw [QtZ c]<;>rfl⟩
  ·intro k hk
   by_cases c1:(dat ds x).kind=1
   ·have:(decide ((dat ds x).kind=1)||decide ((dat ds x).kind=2))=true:=by simp [c1]
    rw [this] at hk
    simp only [c1,RR] at hk ⊢
    exact hk _ _ ⟨rfl,rfl⟩
   ·have:(decide ((dat ds x).kind=1)||decide ((dat ds x).kind=2))=decide ((dat ds x).kind=2):=by simp [c1]
    rw [this] at hk
    simp only [c1,RR]
    exact hk _ _ ⟨rfl,rfl⟩
end
theorem QpL (c:Int) (es:List (List AV)):bld [(.val (.int .i64 0)),(.val (.slice none 0 0))] [(0,1),(1,1)] [(0,iv c)]=some (.agg [iv c,nilS])∧bld [(.val (.int .i64 0)),(.val (.slice none 0 0))] [(0,1),(1,1)] [(1,.ro es)]=some (.agg [iv 0,.ro es]):=⟨rfl,rfl⟩
theorem Qlg {ds:List Dat} (hs:sD ds) (h:R (.ret (.agg [iv (expR ds).2,roC (expR ds).1])) σ):acall TP Qdb [roD ds] σ R:=by
 refine QhY ?_
 unfold QdP x111;dsimp only [den,dE,di,tupL,lTup,dwat,Qe,List.map,Option.map,den0,den1,den2,den3,den4]
 intro φ hφ
 refine Qok hs ?_
 have bad:∀c:Int,R (.ret (.agg [iv c,roC []])) σ→sto 2 (.ptr φ 0 0 0) (.agg [iv c,nilS]) (σ.set φ ⟨0,2,[[iv 0,nilS]]⟩) fun σ=>og (lodA 2 (.ptr φ 0 0 0) σ) fun r=>aret r σ R:=fun c h=>by
  refine Qdl (cs':=[iv c,roC []]) hφ rfl rfl (by intro x hx;simp at hx;rcases hx with rfl|rfl<;>rfl) rfl (fun j hj=>?_) h
  match j,hj with
  |0,_=>exact .same _
  |1,_=>exact .nil
 unfold expR at h
 simp only [RR]
 by_cases c:Uo ds=0
 ·rw [if_neg (by simpa using c)] at h
  have hd:=DOk.of c
  have hdl:=hd.len
  have eb:bld [(.val (.slice none 0 0)),(.val (.slice none 0 0)),(.val (.slice none 0 0))] [(0,1),(1,1),(2,1)] [(0,roD ds)]=some (.agg [roD ds,nilS,nilS]):=rfl
  simp only [c,eb,RR]
  intro φm hφm
  refine QG (es:=[[nilS,nilS,nilS]]) (cs:=[roD ds,nilS,nilS]) (AH.set_same ..) (by simp) rfl rfl rfl (by intro y hy;simp only [List.mem_cons,List.not_mem_nil,or_false] at hy;rcases hy with rfl|rfl|rfl<;>rfl) ?_
  simp only [List.set_cons_zero,AH.set_set]
  have S0:MSt (σ.set φ ⟨0,2,[[iv 0,nilS]]⟩) ((σ.set φ ⟨0,2,[[iv 0,nilS]]⟩).set φm ⟨0,(fdE ds [] []).length,[[roD ds,nilS,nilS]]⟩) φm (fdE ds [] []):=by
   refine MSt.new hφm rfl (fun i f hf=>?_) (by intro v hv;simp only [List.mem_cons,List.not_mem_nil,or_false] at hv;rcases hv with rfl|rfl|rfl<;>rfl)
   match i,hf with
   |0,hf=>obtain rfl:=Option.some.inj hf;exact ⟨rfl,rfl,rfl⟩
   |1,hf=>obtain rfl:=Option.some.inj hf;exact .nil
   |2,hf=>obtain rfl:=Option.some.inj hf;exact .nil
  have hb:=QqP hd (x:=0) (by omega)
  refine Qyx hd ds.length _ 0 (-1) (-1) [] [] [] _ _ (by omega) (by omega) S0 .nil (fun p hp=>by cases hp) (by simp;omega) (by simp;omega) fun τ' C' F' S hE=>?_
  have hle:=Qe6 hd ds.length 0 (-1) [] [] (by omega)
  generalize expE ds ds.length 0 (-1) [] []=E at h hE hle ⊢
  simp only [RR]
  obtain ⟨vs,q1,q2,q3,q4,q5⟩:=S.ex
  have hfz:∃cs',Fz (σ.set φ ⟨0,2,[[iv 0,nilS]]⟩) τ' (.ptr φm 0 0 0) (.rop [roD ds,roC C',cs'] 0):=by
   obtain ⟨v1,e1,b1⟩:=S.lst (i:=1) rfl
   obtain ⟨v2,e2,b2⟩:=S.lst (i:=2) rfl
   have e0:lod (.ptr φm 0 0 0) τ'=some (roD ds):=S.fix rfl
   have z1:=S.fzl (i:=1) rfl e1 (by intro c hc;obtain ⟨x,_,rfl⟩:=List.mem_map.1 hc;rfl)
   have z2:=S.fzl (i:=2) rfl e2 (by intro c hc;obtain ⟨x,_,rfl⟩:=List.mem_map.1 hc;rfl)
   have hl:vs.length=3:=q2
   obtain ⟨a0,a1,a2,rfl⟩:∃a0 a1 a2,vs=[a0,a1,a2]:=by
    match vs,hl with
    |[a0,a1,a2],_=>exact ⟨a0,a1,a2,rfl⟩
   have y0:lod (.ptr φm 0 0 0) τ'=some a0:=Qz q1 rfl rfl
   have y1:lod (.ptr φm 0 0 1) τ'=some a1:=Qz q1 rfl rfl
   have y2:lod (.ptr φm 0 0 2) τ'=some a2:=Qz q1 rfl rfl
   rw [y0] at e0;rw [y1] at e1;rw [y2] at e2
   obtain rfl:=Option.some.inj e0
   obtain rfl:=Option.some.inj e1
   obtain rfl:=Option.some.inj e2
   refine ⟨.ro (F'.map Qc1),.ptr q1 S.fr rfl (by simp) rfl rfl fun j hj=>?_⟩
   match j,hj with
   |0,_=>exact .same _
   |1,_=>exact z1
   |2,_=>exact z2
  obtain ⟨cs',hfz⟩:=hfz
  refine ⟨_,_,S.sub,hfz,?_⟩
  have l1:∀τ,lod (.rop [roD ds,roC C',cs'] 1) τ=some (roC C'):=fun _=>rfl
  by_cases c2:E.2=0
  ·rw [if_neg (by simpa using c2)] at h
   obtain ⟨rfl,_⟩:=hE c2
   simp only [c2,l1,QB,RR]
   by_cases c3:160<E.1.length
   ·rw [if_pos c3] at h
    have g3:(160:Int)<(E.1.length:Int):=by omega
    simp only [g3,(QpL 2 []).1,RR]
    exact bad 2 h
   ·rw [if_neg c3] at h
    have g3:¬(160:Int)<(E.1.length:Int):=by omega
    simp only [g3,(QpL 0 (E.1.map Qr)).2,RR]
    exact QbG hφ rfl rfl (by intro x hx;simp at hx;rcases hx with rfl|rfl<;>rfl) h
  ·rw [if_pos (by simpa using c2)] at h
   simp only [c2,(QpL E.2 []).1,RR]
   exact bad _ h
 ·rw [if_pos (by simpa using c)] at h
  simp only [c,(QpL (Uo ds) []).1,RR]
  exact bad _ h
end Go.Proofs.YtggnjjalfnhiiaaGreatDoor.E
/- Data and cores of a text: names are short. No program in sight. -/
namespace Go.Proofs.YtggnjjalfnhiiaaGreatDoor.E
open Go Go.RowKit
variable [L:Lam]
abbrev sDn (ds:List Dat):Prop:=∀d,d∈ds→d.name.size≤1048576
def okCn (c:Cor):Prop:=c.name.size≤1048576∧sDn c.data
abbrev AllN (C:List Cor):Prop:=∀c,c∈C→okCn c
theorem AllN.app {C D:List Cor} (h:AllN C) (g:AllN D):AllN (C++D):=fun c hc=>(List.mem_append.1 hc).elim (h c) (g c)
theorem AllN.one {C:List Cor} {c:Cor} (h:AllN C) (g:okCn c):AllN (C++[c]):=h.app fun x hx=>by obtain rfl:=List.mem_singleton.1 hx;exact g
section
variable {ds:List Dat}
theorem QrY (h:sDn ds) (x:Nat):(dat ds x).name.size≤1048576:=by
 by_cases c:x<ds.length
 ·exact h _ (Qrx c)
 ·unfold dat
  simp [List.getD,List.getElem?_eq_none (Nat.le_of_not_lt c)]
  exact Nat.zero_le _
theorem QvC (h:sDn ds) (x:Nat):∀f i,sDn (subG ds x f i):=by
 intro f
 induction f with
 |zero=>intro i d hd;simp [subG] at hd
 |succ f ih=>
  intro i d hd
  rw [subG] at hd
  split at hd
  ·rcases List.mem_cons.1 hd with rfl|hd
   ·exact QrY h i
   ·exact ih _ d hd
  ·cases hd
theorem QrZ (h:sDn ds) {p:Int} {x:Nat}:okCn (konC p (subD ds x)):=⟨Nat.zero_le _,QvC h x _ _⟩
theorem Qyy {p:Int} {a b:Nat}:okCn (locC p a b):=⟨Nat.zero_le _,fun d hd=>by cases hd⟩
theorem Qee {k p:Int} {a:Nat}:okCn (nodC k p a):=⟨Nat.zero_le _,fun d hd=>by cases hd⟩
theorem Qr0 (h:sDn ds) {k p:Int} {x:Nat}:okCn (nmdC k p (dat ds x).name):=⟨QrY h x,fun d hd=>by cases hd⟩
abbrev OkGn (g:Gx):Prop:=∀x p sc C,AllN C→AllN (g x p sc C).1
theorem QkH {g:Nat→List Cor→Ex} (hg:∀k C,AllN C→AllN (g k C).1):∀ks C,AllN C→AllN (allE g ks C).1:=by
 intro ks
 induction ks with
 |nil=>intro C h;exact h
 |cons k r ih=>
  intro C h
  rw [allE]
  split
  ·exact hg k C h
  ·exact ih _ (hg k C h)
theorem Qr1 (h:sDn ds) {g:Gx} (hg:OkGn g) {ks:List Nat} {p kind:Int} {sc:Sco} {C:List Cor} (hC:AllN C):AllN (asgE ds g ks p sc C kind).1:=by
 unfold asgE
 split
 ·exact hC
 split
 ·exact hC
 split
 ·exact hC
 ·exact hg _ _ _ _ (hC.one (Qr0 h))
theorem QvD (h:sDn ds) {g:Gx} (hg:OkGn g) {w:ByteArray} {ks:List Nat} {p:Int} {sc:Sco} {C:List Cor} (hC:AllN C):AllN (QaX ds g w ks p sc C).1:=by
 unfold QaX
 split
 ·split
  ·exact hC
  ·exact hC.one (QrZ h)
 split
 ·split
  ·exact hC
  ·exact QkH (fun k C h=>hg _ _ _ _ h) _ _ (hC.one Qee)
 split
 ·split
  ·exact hC
  ·exact QkH (fun k C h=>hg _ _ _ _ h) _ _ (hC.one Qee)
 split
 ·unfold lamE
  split
  ·exact hC
  ·split
   ·exact hC
   ·split
    ·exact hC
    ·exact hg _ _ _ _ (hC.one Qee)
 split
 ·unfold letE
  split
  ·exact hC
  ·split
   ·exact hC
   ·rename_i ns vs _
    split
    ·exact hC
    ·have h1:AllN (g (ks.getD 2 0) ((C.length+1:Nat):Int) (ns::sc) (C++[nodC 9 p 0]++[nodC 5 (C.length:Int) ns.length])).1:=hg _ _ _ _ ((hC.one Qee).one Qee)
     split
     ·exact h1
     ·exact QkH (fun k C h=>hg _ _ _ _ h) _ _ h1
 split
 ·exact Qr1 h hg hC
 ·exact Qr1 h hg hC
theorem Qyz (h:sDn ds):∀f,OkGn (expE ds f):=by
 intro f
 induction f with
 |zero=>intro x p sc C hC;exact hC
 |succ f ih=>
  intro x p sc C hC
  rw [expE]
  split
  ·exact hC.one (QrZ h)
  split
  ·split
   ·exact hC
   ·split
    ·exact hC.one Qyy
    ·exact hC.one (Qr0 h)
  split
  ·exact hC
  split
  ·exact QvD h ih hC
  split
  ·exact hC
  ·exact QkH (fun k C h=>ih _ _ _ _ h) _ _ (hC.one Qee)
theorem QvE (h:sDn ds):AllN (expR ds).1:=by
 have no:AllN []:=fun c hc=>by cases hc
 unfold expR
 split
 ·exact no
 split
 ·exact no
 split
 ·exact no
 ·exact Qyz h _ _ _ _ _ no
end
theorem QyA (t:List UInt8):∀f p out,(∀x,x∈out→(Tok.name x).size≤t.length)→∀x,x∈(toks t f p out).1→(Tok.name x).size≤t.length:=by
 intro f
 induction f with
 |zero=>intro p out h;exact h
 |succ f ih=>
  intro p out h
  rw [toks]
  split
  ·exact h
  ·rename_i c r hd
   split
   ·split
    ·intro x hx;cases hx
    ·refine ih _ _ fun x hx=>?_
     rcases List.mem_append.1 hx with k|k
     ·exact h x k
     ·obtain rfl:=List.mem_singleton.1 k;exact Nat.zero_le _
   ·split
    ·intro x hx;cases hx
    ·split
     ·intro x hx;cases hx
     ·refine ih _ _ fun x hx=>?_
      rcases List.mem_append.1 hx with k|k
      ·exact h x k
      ·obtain rfl:=List.mem_singleton.1 k
       have hl:((c::r).take (wrd (c::r))).length≤t.length:=by
        rw [←hd,List.length_take,List.length_drop];omega
       unfold Qah
       split
       ·exact Nat.zero_le _
       split
       ·exact Nat.zero_le _
       split
       ·exact Nat.zero_le _
       ·show (bs _).size≤_;rw [Qo];exact hl
theorem QyB (t:List UInt8):∀x,x∈(tokR t).1→(Tok.name x).size≤t.length:=by
 unfold tokR
 split
 ·intro x hx;cases hx
 ·exact QyA t _ _ [] (fun x hx=>by cases hx)
theorem Qr2 {a b:List Dat} (h:sDn a) (g:sDn b):sDn (a++b):=fun d hd=>(List.mem_append.1 hd).elim (h d) (g d)
theorem Qr3 {d:Dat} (h:d.name.size≤1048576):sDn [d]:=fun x hx=>by obtain rfl:=List.mem_singleton.1 hx;exact h
theorem QsM {t:Tok} {s:Rds} (ht:t.name.size≤1048576) (h:sDn s.1):sDn (Jc t s).1.1:=by
 have hp:∀(x:Dat) (s:Rds),x.name.size≤1048576→sDn s.1→sDn (putR x s).1.1:=fun x s hx hs=>by
  unfold putR
  split
  ·exact hs
  ·exact Qr2 hs (Qr3 hx)
 have hb:∀q,sDn (Jq q s).1.1:=fun q=>by
  unfold Jq
  split
  ·exact h
  ·have h2:sDn (opR q s).1:=hp lisD s (Nat.zero_le _) h
   split
   ·exact hp quoD _ (by decide) h2
   ·exact h2
 unfold Jc
 split
 ·exact hb _
 split
 ·exact hb _
 split
 ·unfold Qdm
  split
  ·exact h
  ·split<;>exact h
 ·unfold Qd8
  split
  ·exact h
  ·exact Qr2 h (Qr3 ht)
theorem Qt0:∀(ts:List Tok) (i:Nat) (s:Rds),(∀x,x∈ts→(Tok.name x).size≤1048576)→sDn s.1→sDn (UP ts i s).1:=by
 intro ts
 induction ts with
 |nil=>
  intro i s _ h
  rw [UP]
  split
  ·intro d hd;cases hd
  ·exact h
 |cons t r ih=>
  intro i s ht h
  rw [UP]
  split
  ·intro d hd;cases hd
  ·split
   ·intro d hd;cases hd
   ·exact ih _ _ (fun x hx=>ht x (by simp [hx])) (QsM (ht t (by simp)) h)
theorem Qph {t:List UInt8} (hl:t.length≤1048576):sDn (QZ t).1:=by
 unfold QZ
 split
 ·intro d hd;cases hd
 ·exact Qt0 _ _ _ (fun x hx=>Nat.le_trans (QyB t x hx) (by omega)) (fun d hd=>by cases hd)
theorem sDn.sD {ds:List Dat} (h:sDn ds):sD ds:=fun d hd=>Nat.le_trans (h d hd) (by decide)
def Qy (t:List UInt8):Ex:=if (QZ t).2.1≠0 then ([],(QZ t).2.1) else expR (QZ t).1
theorem Qih {t:List UInt8} (h:(Qy t).2=0):WfC (Qy t).1∧∀i,(Qi (Qy t).1 i).data.length≤80:=by
 unfold Qy at h ⊢
 split
 ·rename_i c;rw [if_pos c] at h;exact absurd h c
 ·rename_i c;rw [if_neg c] at h;exact Qyu h
theorem QvF {t:List UInt8} (hl:t.length≤1048576):AllN (Qy t).1:=by
 unfold Qy
 split
 ·intro c hc;cases hc
 ·exact QvE (Qph hl)
end Go.Proofs.YtggnjjalfnhiiaaGreatDoor.E
/- Data of a text: the program's way, behind its tokens. -/
namespace Go.Proofs.YtggnjjalfnhiiaaGreatDoor.E
open Go Go.RowKit
set_option maxRecDepth 100000
variable [L:Lam]
variable {σ τ τ':AH} {R:AEnd→AH→Prop}
def opE (p:Nat × Bool):Int:=if p.2 then -1 - (p.1:Int) else (p.1:Int)
def topQ (o:Opn):Bool:=match o.getLast? with
 |none=>false
 |some p=>p.2
def fdP (s:Rds):List Fd:=[.lst 4 (s.1.map Qc),.lst 1 (s.2.map fun p=>[iv (opE p)])]
def Qgh (s:Rds) (m:Nat):Bool:=decide (80<s.1.length+1+m)||decide (12<s.2.length+1+m)
section
variable {φm:Nat} {s:Rds}
theorem Qb3 (h:MSt σ τ φm (fdP s)) (hn:s.2.length≤100) (hp:∀p,p∈s.2→p.1≤1000) (h1:R (.ret (.tup [iv (topP s.2),bv (topQ s.2)])) τ):acall TP Qbh [.ptr φm 0 0 0] τ R:=by
 refine QeW ?_
 unfold QbX x187;dsimp only [den,dE,di,tupL,lTup,dwat,Qe,List.map,Option.map,den0,den1,den2,den3,den4]
 obtain ⟨v1,e1,b1⟩:=h.lst (i:=1) (sz:=1) (es:=s.2.map fun p=>[iv (opE p)]) rfl
 have l1:=Jo b1
 unfold topP topQ at h1
 by_cases c:s.2=[]
 ·have gl:((s.2.length:Nat):Int)=0:=by rw [c];rfl
  have hl:s.2.getLast? =none:=by rw [c];rfl
  rw [hl] at h1
  simp only [e1,l1,gl,RR]
  exact Qa h1
 ·obtain ⟨p,hpl⟩:=Qb0 c
  rw [hpl] at h1
  dsimp only at h1
  have hpm:=hp p (List.mem_of_getLast? hpl)
  have hl1:1≤s.2.length:=List.length_pos_iff.2 c
  have gl:¬((s.2.length:Nat):Int)=0:=by omega
  obtain ⟨φt,st,t1,t2⟩:=Qki b1 hpl
  simp only [e1,l1,gl,Uu hl1 (by omega),t1,t2,RR]
  cases hq:p.2 with
  |true=>
   rw [hq] at h1
   have eo:opE p= -1 - (p.1:Int):=by unfold opE;rw [if_pos hq]
   have g:opE p<0:=by omega
   have es:ibin .sub (.val (.int .i64 (-1))) (iv (opE p))=some (iv (p.1:Int)):=by rw [QR (by omega) (by omega)];congr 3;omega
   simp only [g,es,RR]
   exact Qa h1
  |false=>
   rw [hq] at h1
   have eo:opE p=(p.1:Int):=by unfold opE;rw [if_neg (by rw [hq];decide)]
   have g:¬opE p<0:=by omega
   rw [←eo] at h1
   simp only [g,RR]
   exact Qa h1
theorem Qa6 (h:MSt σ τ φm (fdP s)) (hn:s.2.length≤100) (h1:∀τ',MSt σ τ' φm (fdP (s.1,J6 s.2))→R (.ret (.tup [])) τ'):acall TP QaG [.ptr φm 0 0 0] τ R:=by
 refine Qdu ?_
 unfold Qa3 x188;dsimp only [den,dE,di,tupL,lTup,dwat,Qe,List.map,Option.map,den0,den1,den2,den3,den4]
 refine QH (fun n x τ'=>∃o:Opn,x=(.ptr φm 0 0 0,())∧MSt σ τ' φm (fdP (s.1,o))∧o.length=n∧o.length≤100∧J6 o=J6 s.2) s.2.length ⟨s.2,rfl,h,rfl,hn,rfl⟩ ?_
 rintro n x τ1 ⟨o,rfl,S,rfl,ho,e⟩ R' hR'
 obtain ⟨v1,e1,b1⟩:=S.lst (i:=1) (sz:=1) (es:=o.map fun p=>[iv (opE p)]) rfl
 have l1:=Jo b1
 by_cases c:o=[]
 ·subst c
  have g:¬(0:Int)<(([]:Opn).length:Int):=by simp
  simp only [e1,l1,g,RR]
  rw [←e] at h1
  exact Qa (h1 τ1 S)
 ·obtain ⟨p,hp⟩:=Qb0 c
  have hl1:1≤o.length:=List.length_pos_iff.2 c
  have g:(0:Int)<(o.length:Int):=by omega
  obtain ⟨φt,st,t1,t2⟩:=Qki b1 hp
  simp only [e1,l1,g,Uu hl1 (by omega),t1,t2,RR]
  cases hq:p.2 with
  |false=>
   have eo:opE p=(p.1:Int):=by unfold opE;rw [if_neg (by rw [hq];decide)]
   have g2:¬opE p<0:=by omega
   rw [QnD hp hq] at e
   rw [←e] at h1
   simp only [g2,RR]
   exact Qa (h1 τ1 S)
  |true=>
   have eo:opE p= -1 - (p.1:Int):=by unfold opE;rw [if_pos hq]
   have g2:opE p<0:=by omega
   rw [QnC hp hq] at e
   obtain ⟨v1',k1,k2⟩:=S.cut (i:=1) (es:=o.map fun p=>[iv (opE p)]) rfl e1 (by simpa using c) (m:=o.length - 1) (by simp)
   simp only [g2,e1,l1,Uu hl1 (by omega),k1,RR]
   refine k2 _ fun τ2 S2=>?_
   rw [Qbx] at S2
   simp only [true_and]
   exact hR' _ _ o.dropLast.length τ2 (by simp;omega) (.refl _) ⟨o.dropLast,rfl,S2,rfl,by simp;omega,e⟩
theorem U2 {x:Dat} {m:Nat} (hm:m≤10) (h:MSt σ τ φm (fdP s)) (hn:s.1.length≤100∧s.2.length≤100) (hp:∀p,p∈s.2→p.1≤1000) (h1:Qgh s m=true→∀τ',MSt σ τ' φm (fdP s)→R (.ret (bv false)) τ') (h2:Qgh s m=false→∀τ',MSt σ τ' φm (fdP (s.1++[datP x s.2],s.2))→R (.ret (bv true)) τ'):
  acall TP Qbg [.ptr φm 0 0 0,.agg (Qc x),iv (m:Int)] τ R:=by
 refine QeV ?_
 unfold QbW x186;dsimp only [den,dE,di,tupL,lTup,dwat,Qe,List.map,Option.map,den0,den1,den2,den3,den4]
 rw [Qqa]
 intro ψ hψ
 have hs:AH.Sub τ (τ.set ψ ⟨0,4,[Qc x]⟩):= .set (.refl τ) _ hψ
 have hg:=h.grow hs
 obtain ⟨vd,e0,b0⟩:=h.lst (i:=0) (sz:=4) (es:=s.1.map Qc) rfl
 obtain ⟨vo,e1,b1⟩:=h.lst (i:=1) (sz:=1) (es:=s.2.map fun p=>[iv (opE p)]) rfl
 have e0':=Jr hs e0
 have e1':=Jr hs e1
 have l0:=Jo b0
 have l1:=Jo b1
 have e4:(Qc x).length=4:=rfl
 have a1:∀n:Nat,n≤100→ibin .add (iv (n:Int)) (.val (.int .i64 1))=some (iv ((n:Int)+1)):=fun n hn=>Q6 (by omega) (by omega)
 have a2:∀n:Nat,n≤100→ibin .add (iv ((n:Int)+1)) (iv (m:Int))=some (iv ((n:Int)+1+m)):=fun n hn=>Q6 (by omega) (by omega)
 simp only [e4,e0',e1',l0,l1,a1 _ hn.1,a2 _ hn.1,RR]
 have hr:Qgh s m=(decide (80<s.1.length+1+m)||decide (12<s.2.length+1+m)):=rfl
 by_cases c1:80<s.1.length+1+m
 ·have g1:(80:Int)<(s.1.length:Int)+1+m:=by omega
  simp only [g1,RR]
  exact Qa (h1 (by rw [hr];simp [c1]) _ hg)
 have g1:¬(80:Int)<(s.1.length:Int)+1+m:=by omega
 by_cases c2:12<s.2.length+1+m
 ·have g2:(12:Int)<(s.2.length:Int)+1+m:=by omega
  simp only [g1,g2,e1',l1,a1 _ hn.2,a2 _ hn.2,RR]
  exact Qa (h1 (by rw [hr];simp [c2]) _ hg)
 have g2:¬(12:Int)<(s.2.length:Int)+1+m:=by omega
 have hrf:Qgh s m=false:=by rw [hr];simp [c1,c2]
 simp only [g1,g2,e1',l1,a1 _ hn.2,a2 _ hn.2,RR]
 refine Qb3 hg hn.2 hp ?_
 have x0:aext (.tup [iv (topP s.2),bv (topQ s.2)]) 0=some (iv (topP s.2)):=rfl
 have x1:aext (.tup [iv (topP s.2),bv (topQ s.2)]) 1=some (bv (topQ s.2)):=rfl
 simp only [x0,x1,RR]
 refine Q0 (es:=[Qc x]) (cs:=Qc x) (AH.set_same ..) rfl (show 1<4 by omega) rfl rfl ?_
 rw [AH.set_set]
 have x2:[Qc x].set 0 ((Qc x).set 1 (iv (topP s.2)))=[Qc (datP x s.2)]:=rfl
 rw [x2]
 refine QI hψ rfl ?_
 simp only [e0,Qs (Qk _),RR]
 rw [lit1 (sz:=4) (row:=Qc (datP x s.2)) rfl rfl (by omega)]
 simp only [RR]
 refine h.app (i:=0) rfl e0 (row:=Qc (datP x s.2)) rfl rfl (Q3 _) (by simp;omega) fun v' τ1 k1=>?_
 simp only [RR,true_and]
 refine k1 _ fun τ2 S2=>?_
 have ef:(fdP s).set 0 (.lst 4 (s.1.map Qc++[Qc (datP x s.2)]))=fdP (s.1++[datP x s.2],s.2):=by simp [fdP]
 rw [ef] at S2
 exact Qa (h2 hrf τ2 S2)
def OkO (s:Rds):Prop:=s.1.length≤80∧s.2.length≤12∧∀p,p∈s.2→p.1≤1000
theorem QpM (s:Rds):Qgh s 0=Up s:=by
 unfold Qgh Up
 congr 1<;>(congr 1;apply propext;omega)
theorem QqS {X:Type} {l:List X} {x:X} (h:x∈l.dropLast):x∈l:=(List.dropLast_sublist l).subset h
theorem QnI {o:Opn} {p:Nat × Bool} (h:p∈J6 o):p∈o:=by
 unfold J6 at h
 rw [List.mem_reverse] at h
 exact List.mem_reverse.1 ((List.dropWhile_sublist _).subset h)
theorem QsN {t:Tok} (h:OkO s):OkO (Jc t s).1:=by
 have hsm:=Qpd (t:=t) (s:=s) ⟨h.1,h.2.1⟩
 refine ⟨hsm.1,hsm.2,fun p hp=>?_⟩
 have hb:∀q,∀p,p∈(Jq q s).1.2→p.1≤1000:=fun q p hp=>by
  unfold Jq at hp
  have h2:∀p,p∈(opR q s).2→p.1≤1000:=fun p hp=>by
   rcases List.mem_append.1 hp with c|c
   ·exact h.2.2 p c
   ·obtain rfl:=List.mem_singleton.1 c;have:=h.1;show s.1.length≤1000;omega
  split at hp
  ·exact h.2.2 p hp
  ·split at hp
   ·unfold putR at hp
    split at hp<;>exact h2 p hp
   ·exact h2 p hp
 unfold Jc at hp
 split at hp
 ·exact hb _ p hp
 split at hp
 ·exact hb _ p hp
 split at hp
 ·unfold Qdm at hp
  split at hp
  ·exact h.2.2 p hp
  ·split at hp
   ·exact h.2.2 p hp
   ·exact h.2.2 p (QqS (QnI hp))
 ·unfold Qd8 at hp
  split at hp
  ·exact h.2.2 p hp
  ·exact h.2.2 p (QnI hp)
theorem Qfe {t:Tok} (hk:1≤t.kind∧t.kind≤6) (h:MSt σ τ φm (fdP s)) (hn:OkO s) (h1:∀τ' s',MSt σ τ' φm (fdP s')→((Jc t s).2=0→s'=(Jc t s).1)→R (.ret (iv (Jc t s).2)) τ'):acall TP Uy [.ptr φm 0 0 0,.agg (Qw t)] τ R:=by
 obtain ⟨n1,n2,n3⟩:=hn
 refine Qds ?_
 unfold Qa1 x154;dsimp only [den,dE,di,tupL,lTup,dwat,Qe,List.map,Option.map,den0,den1,den2,den3,den4]
 refine UX rfl ?_
 have l0:∀τ,lod (.rop (Qw t) 0) τ=some (iv t.kind):=fun _=>rfl
 have l1:∀τ,lod (.rop (Qw t) 1) τ=some (iv t.num):=fun _=>rfl
 have l2:∀τ,lod (.rop (Qw t) 2) τ=some (str t.name):=fun _=>rfl
 obtain ⟨v0,e0,b0⟩:=h.lst (i:=0) (sz:=4) (es:=s.1.map Qc) rfl
 have g0:=Jo b0
 simp only [e0,g0,l0,RR]
 have eb:bld [(.val (.int .i64 0)),(.val (.int .i64 0)),(.val (.int .i64 0)),(.val (.string ⟨#[]⟩))] [(0,1),(1,1),(2,1),(3,1)] [(0,(.val (.int .i64 4)))]=some (.agg (Qc lisD)):=rfl
 unfold Jc at h1
 refine UC (P:=fun _ T=>(Jc t s).2=0∧MSt σ T φm (fdP (Jc t s).1)) ?_ ?_
 ·rintro x T ⟨hz,S⟩
  have:=h1 T _ S (fun _=>rfl)
  rw [show (if t.kind=1 then Jq false s else if t.kind=3 then Jq true s else if t.kind=2 then Qdm s else Qd8 ⟨t.kind - 3,0,t.num,t.name⟩ s)=Jc t s from rfl,hz] at this
  exact Qa this
 intro k hk'
 unfold Jc at hk'
 by_cases c1:t.kind=1
 ·rw [if_pos c1] at h1 hk'
  simp only [c1,eb,RR]
  have hz0:((0:Nat):Int)=0:=rfl
  refine U2 (x:=lisD) (m:=0) (by omega) h ⟨by omega,by omega⟩ n3 (fun hr τ1 S1=>?_) fun hr τ1 S1=>?_
  ·rw [QpM] at hr
   unfold Jq at h1
   rw [if_pos hr] at h1
   simp only [RR]
   exact Qa (h1 τ1 s S1 fun c=>by cases c)
  ·rw [QpM] at hr
   unfold Jq at hk'
   rw [if_neg (by rw [hr];decide)] at hk'
   simp only [Bool.false_eq_true,if_false] at hk'
   obtain ⟨v1,e1,b1⟩:=S1.lst (i:=1) (sz:=1) (es:=s.2.map fun p=>[iv (opE p)]) rfl
   simp only [e1,RR]
   refine bsl1 (row:=[iv (s.1.length:Int)]) rfl (by omega) fun ψ hψ=>?_
   have hs3:AH.Sub τ1 (τ1.set ψ ⟨0,1,[[iv (s.1.length:Int)]]⟩):= .set (.refl _) _ hψ
   refine (S1.grow hs3).app (i:=1) (sz:=1) (es:=s.2.map fun p=>[iv (opE p)]) rfl (Jr hs3 e1) (row:=[iv (s.1.length:Int)]) ael1 rfl (fun y hy=>by obtain rfl:=List.mem_singleton.1 hy;rfl) (by simp;omega) fun v' τ2 k1=>?_
   refine k1 _ fun τ3 S3=>hk' _ _ ⟨by simp,?_⟩
   have ep:(putR lisD s).1=(s.1++[datP lisD s.2],s.2):=by unfold putR;rw [if_neg (by rw [hr];decide)]
   have ef:(fdP (s.1++[datP lisD s.2],s.2)).set 1 (.lst 1 ((s.2.map fun p=>[iv (opE p)])++[[iv (s.1.length:Int)]]))=fdP (opR false s):=by
    unfold opR;rw [ep];simp [fdP,opE]
   rw [ef] at S3
   exact S3
 rw [if_neg c1] at h1 hk'
 by_cases c2:t.kind=2
 ·rw [if_neg (by omega),if_pos c2] at h1 hk'
  simp only [c2,show ¬(2:Int)=1 by omega,RR]
  refine Qb3 h (by omega) n3 ?_
  have x0:aext (.tup [iv (topP s.2),bv (topQ s.2)]) 0=some (iv (topP s.2)):=rfl
  have x1:aext (.tup [iv (topP s.2),bv (topQ s.2)]) 1=some (bv (topQ s.2)):=rfl
  simp only [x0,x1,RR]
  unfold Qdm at h1 hk'
  by_cases c:s.2=[]
  ·have hl:s.2.getLast? =none:=by rw [c];rfl
   rw [hl] at h1
   have g:topP s.2<0:=by unfold topP;rw [hl];decide
   simp only [g,RR]
   exact Qa (h1 τ s h fun c=>by cases c)
  ·obtain ⟨p,hp⟩:=Qb0 c
   rw [hp] at h1 hk'
   dsimp only at h1 hk'
   have g:¬topP s.2<0:=by unfold topP;rw [hp];dsimp only;omega
   have eq:topQ s.2=p.2:=by unfold topQ;rw [hp]
   have hl1:1≤s.2.length:=List.length_pos_iff.2 c
   rw [eq]
   cases hq:p.2 with
   |true=>
    rw [hq] at h1
    simp only [if_true] at h1
    simp only [g,RR]
    exact Qa (h1 τ s h fun c=>by cases c)
   |false=>
    rw [hq] at hk'
    simp only [Bool.false_eq_true,if_false] at hk'
    obtain ⟨v1,e1,b1⟩:=h.lst (i:=1) (sz:=1) (es:=s.2.map fun p=>[iv (opE p)]) rfl
    have g1:=Jo b1
    obtain ⟨v1',k1,k2⟩:=h.cut (i:=1) (es:=s.2.map fun p=>[iv (opE p)]) rfl e1 (by simpa using c) (m:=s.2.length - 1) (by simp)
    simp only [g,e1,g1,Uu hl1 (by omega),k1,RR]
    refine k2 _ fun τ2 S2=>?_
    rw [Qbx] at S2
    have S2':MSt σ τ2 φm (fdP (s.1,s.2.dropLast)):=S2
    refine ⟨trivial,?_⟩
    refine Qa6 S2' (by simp;omega) fun τ3 S3=>?_
    simp only [RR]
    exact hk' _ _ ⟨by simp,S3⟩
 rw [if_neg c2] at h1 hk'
 by_cases c3:t.kind=3
 ·rw [if_pos c3] at h1 hk'
  simp only [c3,show ¬(3:Int)=1 by omega,show ¬(3:Int)=2 by omega,eb,RR]
  have key:Qgh s 1=(Up s||(putR quoD (opR true s)).2==2):=by
   unfold putR Qgh
   cases hr:Up s with
   |true=>
    rw [Bool.true_or]
    simp only [Up,Bool.or_eq_true,decide_eq_true_iff] at hr
    simp only [Bool.or_eq_true,decide_eq_true_iff];omega
   |false=>
    have ep:(putR lisD s).1=(s.1++[datP lisD s.2],s.2):=by unfold putR;rw [if_neg (by rw [hr];decide)]
    have hl:(opR true s).1.length=s.1.length+1∧(opR true s).2.length=s.2.length+1:=by unfold opR;rw [ep];simp
    rw [Bool.false_or]
    have hrr:Up (opR true s)=(decide (80<s.1.length+1+1)||decide (12<s.2.length+1+1)):=by
     unfold Up;rw [hl.1,hl.2]
     congr 1<;>(congr 1;apply propext;omega)
    rw [hrr]
    split
    ·rename_i c;rw [c];rfl
    ·rename_i c;simp only [Bool.not_eq_true] at c;rw [c];rfl
  refine U2 (x:=lisD) (m:=1) (by omega) h ⟨by omega,by omega⟩ n3 (fun hr τ1 S1=>?_) fun hr τ1 S1=>?_
  ·have hc:(Jq true s).2=2:=by
    unfold Jq
    split
    ·rfl
    ·rename_i c
     rw [key] at hr
     simp only [Bool.not_eq_true] at c
     rw [c,Bool.false_or] at hr
     simpa using hr
   rw [hc] at h1
   simp only [RR]
   exact Qa (h1 τ1 s S1 fun c=>by cases c)
  ·rw [key,Bool.or_eq_false_iff] at hr
   obtain ⟨hr,hr2⟩:=hr
   have hroom:=Qed hr
   unfold Jq at hk'
   rw [if_neg (by rw [hr];decide)] at hk'
   simp only [if_true] at hk'
   have ep:(putR lisD s).1=(s.1++[datP lisD s.2],s.2):=by unfold putR;rw [if_neg (by rw [hr];decide)]
   have hrq:Up (opR true s)=false:=by
    unfold putR at hr2
    split at hr2
    ·cases hr2
    ·rename_i c;simpa using c
   have eq:putR quoD (opR true s)=(((opR true s).1++[datP quoD (opR true s).2],(opR true s).2),0):=by
    unfold putR;rw [if_neg (by rw [hrq];decide)]
   rw [eq] at hk'
   obtain ⟨v1,e1,b1⟩:=S1.lst (i:=1) (sz:=1) (es:=s.2.map fun p=>[iv (opE p)]) rfl
   have es:ibin .sub (.val (.int .i64 (-1))) (iv (s.1.length:Int))=some (iv (-1 - (s.1.length:Int))):=QR (by omega) (by omega)
   simp only [e1,es,RR]
   refine bsl1 (row:=[iv (-1 - (s.1.length:Int))]) rfl (by omega) fun ψ hψ=>?_
   have hs3:AH.Sub τ1 (τ1.set ψ ⟨0,1,[[iv (-1 - (s.1.length:Int))]]⟩):= .set (.refl _) _ hψ
   refine (S1.grow hs3).app (i:=1) (sz:=1) (es:=s.2.map fun p=>[iv (opE p)]) rfl (Jr hs3 e1) (row:=[iv (-1 - (s.1.length:Int))]) ael1 rfl (fun y hy=>by obtain rfl:=List.mem_singleton.1 hy;rfl) (by simp;omega) fun v' τ2 k1=>?_
   refine k1 _ fun τ3 S3=>?_
   have ef:(fdP (s.1++[datP lisD s.2],s.2)).set 1 (.lst 1 ((s.2.map fun p=>[iv (opE p)])++[[iv (-1 - (s.1.length:Int))]]))=fdP (opR true s):=by
    unfold opR;rw [ep];simp [fdP,opE]
   rw [ef] at S3
   obtain ⟨v3,e3,b3⟩:=S3.lst (i:=0) (sz:=4) (es:=(opR true s).1.map Qc) rfl
   have dq:datP quoD (opR true s).2=⟨3,(s.1.length:Int),0,⟨#[113,117,111,116,101]⟩⟩:=by
    unfold datP topP opR quoD;simp
   have eb2:bld [(.val (.int .i64 0)),(.val (.int .i64 0)),(.val (.int .i64 0)),(.val (.string ⟨#[]⟩))] [(0,1),(1,1),(2,1),(3,1)] [(0,(.val (.int .i64 3))),(1,iv (s.1.length:Int)),(3,(.val (.string ⟨#[113,117,111,116,101]⟩)))]=some (.agg (Qc (datP quoD (opR true s).2))):=by rw [dq];rfl
   simp only [e3,eb2,RR]
   refine bsl1 (row:=Qc (datP quoD (opR true s).2)) rfl (by omega) fun ψ2 hψ2=>?_
   have hs4:AH.Sub τ3 (τ3.set ψ2 ⟨0,4,[Qc (datP quoD (opR true s).2)]⟩):= .set (.refl _) _ hψ2
   refine (S3.grow hs4).app (i:=0) (sz:=4) (es:=(opR true s).1.map Qc) rfl (Jr hs4 e3) (row:=Qc (datP quoD (opR true s).2)) ael1 rfl (Q3 _) (by unfold opR;rw [ep];simp;omega) fun v'' τ4 k2=>?_
   refine k2 _ fun τ5 S5=>hk' _ _ ⟨by simp,?_⟩
   have ef2:(fdP (opR true s)).set 0 (.lst 4 ((opR true s).1.map Qc++[Qc (datP quoD (opR true s).2)]))=fdP ((opR true s).1++[datP quoD (opR true s).2],(opR true s).2):=by simp [fdP]
   rw [ef2] at S5
   exact S5
 rw [if_neg c3] at h1 hk'
 have es:ibin .sub (iv t.kind) (.val (.int .i64 4))=some (iv (t.kind - 4)):=QR (by omega) (by omega)
 have ea:ibin .add (iv (t.kind - 4)) (.val (.int .i64 1))=some (iv (t.kind - 3)):=by rw [Q6 (by omega) (by omega)];congr 3;omega
 simp only [c1,c2,c3,l0,l1,l2,es,ea,QqN,RR]
 refine U2 (x:=⟨t.kind - 3,0,t.num,t.name⟩) (m:=0) (by omega) h ⟨by omega,by omega⟩ n3 (fun hr τ1 S1=>?_) fun hr τ1 S1=>?_
 ·rw [QpM] at hr
  unfold Qd8 at h1
  rw [if_pos hr] at h1
  simp only [RR]
  exact Qa (h1 τ1 s S1 fun c=>by cases c)
 ·rw [QpM] at hr
  unfold Qd8 at hk'
  rw [if_neg (by rw [hr];decide)] at hk'
  simp only [RR]
  refine Qa6 S1 (by show s.2.length≤100;omega) fun τ2 S2=>?_
  simp only [RR]
  exact hk' _ _ ⟨by simp,S2⟩
end
end Go.Proofs.YtggnjjalfnhiiaaGreatDoor.E
/- Data of a text: the program's way, all of it (over its tokens). -/
namespace Go.Proofs.YtggnjjalfnhiiaaGreatDoor.E
open Go Go.RowKit
set_option maxRecDepth 100000
variable [L:Lam]
variable {σ τ τ':AH} {R:AEnd→AH→Prop}
theorem Qii {φ n:Nat} {zs cs cs':List AV} (hφ:σ φ=none) (hs:AH.Sub (σ.set φ ⟨0,n,[zs]⟩) τ) (hz:zs.length=n) (hc:cs.length=n) (h1:∀x,x∈cs→x.one=true) (hl:cs.length=cs'.length)
  (hf:∀i,i<cs.length→Fz (σ.set φ ⟨0,n,[zs]⟩) τ (cs.getD i .any) (cs'.getD i .any)) (h:R (.ret (.agg cs')) σ):
  sto n (.ptr φ 0 0 0) (.agg cs) τ fun σ=>og (lodA n (.ptr φ 0 0 0) σ) fun r=>aret r σ R:=by
 have ht:τ φ=some ⟨0,n,[zs]⟩:=hs _ _ (AH.set_same ..)
 refine QG (es:=[zs]) (cs:=cs) ht (by simp) (by simpa using hz) rfl hc h1 ?_
 simp only [List.set_cons_zero]
 have e:=UG (σ:=τ.set φ ⟨0,n,[cs]⟩) (φ:=φ) (st:=0) (i:=0) (n:=n) (cs:=cs) (AH.set_same ..) rfl rfl hc
 simp only [e,RR]
 have hs2:AH.Sub σ (τ.set φ ⟨0,n,[cs]⟩):=fun ψ F hF=>by
  have hne:ψ≠φ:=by rintro rfl;rw [hφ] at hF;cases hF
  rw [AH.set_ne' hne]
  exact hs _ _ (by rw [AH.set_ne' hne];exact hF)
 refine QU hs2 (.agg hl fun i hi=>?_) h
 refine (hf i hi).move (fun ψ hψ=>?_) fun ψ F hψ hF=>?_
 ·have hne:ψ≠φ:=by rintro rfl;rw [AH.set_same] at hψ;cases hψ
  rwa [AH.set_ne' hne] at hψ
 ·have hne:ψ≠φ:=by rintro rfl;rw [AH.set_same] at hψ;cases hψ
  rwa [AH.set_ne' hne]
theorem Qt1 {t:Tok} {s:Rds} (h:s.1≠[]∨s.2=[]) (hc:(Jc t s).2=0):(Jc t s).1.1≠[]:=by
 have hb:∀q,(Jq q s).2=0→(Jq q s).1.1≠[]:=fun q hq=>by
  unfold Jq at hq ⊢
  split
  ·rename_i c;rw [if_pos c] at hq;cases hq
  ·rename_i c
   have h2:(opR q s).1≠[]:=by unfold opR putR;rw [if_neg c];simp
   split
   ·unfold putR
    split
    ·exact h2
    ·simp
   ·exact h2
 unfold Jc at hc ⊢
 split
 ·rename_i c;rw [if_pos c] at hc;exact hb _ hc
 rename_i c1;rw [if_neg c1] at hc
 split
 ·rename_i c;rw [if_pos c] at hc;exact hb _ hc
 rename_i c2;rw [if_neg c2] at hc
 split
 ·rename_i c;rw [if_pos c] at hc
  unfold Qdm at hc ⊢
  cases hl:s.2.getLast? with
  |none=>rw [hl] at hc;cases hc
  |some p=>
   rw [hl] at hc
   dsimp only at hc ⊢
   have hs:s.1≠[]:=h.resolve_right fun k=>by rw [k] at hl;cases hl
   split
   ·exact hs
   ·exact hs
 rename_i c3;rw [if_neg c3] at hc
 unfold Qd8 at hc ⊢
 split
 ·rename_i c;rw [if_pos c] at hc;cases hc
 ·simp
theorem QnJ {t:List UInt8} (hT:∀{σ:AH} {R:AEnd→AH→Prop},R (.ret (.agg [iv (tokR t).2.1,iv ((tokR t).2.2:Nat),roT (tokR t).1])) σ→acall TP QbD [str (bs t)] σ R)
  (h:R (.ret (.agg [iv (QZ t).2.1,iv ((QZ t).2.2:Nat),roD (QZ t).1])) σ):acall TP QeE [str (bs t)] σ R:=by
 refine QjI ?_
 unfold QfR x116;dsimp only [den,dE,di,tupL,lTup,dwat,Qe,List.map,Option.map,den0,den1,den2,den3,den4]
 intro φ hφ
 refine hT ?_
 simp only [RR]
 intro φ2 hφ2
 have hT:=QrS t
 unfold QZ at h
 generalize tokR t=E at h hT ⊢
 refine QG (es:=[[iv 0,iv 0,.val (.slice none 0 0)]]) (cs:=[iv E.2.1,iv (E.2.2:Nat),roT E.1]) (AH.set_same ..) (by simp) rfl rfl rfl (by intro y hy;simp only [List.mem_cons,List.not_mem_nil,or_false] at hy;rcases hy with rfl|rfl|rfl<;>rfl) ?_
 simp only [List.set_cons_zero,AH.set_set]
 refine QI hφ2 rfl ?_
 have l0:∀τ,lod (.rop [iv E.2.1,iv (E.2.2:Nat),roT E.1] 0) τ=some (iv E.2.1):=fun _=>rfl
 have l1:∀τ,lod (.rop [iv E.2.1,iv (E.2.2:Nat),roT E.1] 1) τ=some (iv (E.2.2:Nat)):=fun _=>rfl
 have l2:∀τ,lod (.rop [iv E.2.1,iv (E.2.2:Nat),roT E.1] 2) τ=some (roT E.1):=fun _=>rfl
 simp only [l0,RR]
 by_cases c:E.2.1=0
 case neg=>
  rw [if_pos (by simpa using c)] at h
  have eb:bld [iv 0,iv 0,.val (.slice none 0 0)] [(0,1),(1,1),(2,1)] [(0,iv E.2.1),(1,iv (E.2.2:Nat))]=some (.agg [iv E.2.1,iv (E.2.2:Nat),.val (.slice none 0 0)]):=rfl
  simp only [c,l0,l1,eb,RR]
  refine Qdl (cs':=[iv E.2.1,iv (E.2.2:Nat),roD []]) hφ rfl rfl (by intro x hx;simp at hx;rcases hx with rfl|rfl|rfl<;>rfl) rfl (fun j hj=>?_) h
  match j,hj with
  |0,_=>exact .same _
  |1,_=>exact .same _
  |2,_=>exact .nil
 rw [if_neg (by simpa using c)] at h
 have eb:bld [(.val (.slice none 0 0)),(.val (.slice none 0 0))] [(0,1),(1,1)] []=some (.agg [nilS,nilS]):=rfl
 simp only [c,eb,RR]
 intro φm hφm
 generalize hσ1:σ.set φ ⟨0,3,[[iv 0,iv 0,.val (.slice none 0 0)]]⟩=σ1 at hφm ⊢
 have S0:MSt σ1 (σ1.set φm ⟨0,(fdP ([],[])).length,[[nilS,nilS]]⟩) φm (fdP ([],[])):=by
  refine MSt.new hφm rfl (fun i f hf=>?_) (by intro v hv;simp only [List.mem_cons,List.not_mem_nil,or_false] at hv;rcases hv with rfl|rfl<;>rfl)
  match i,hf with
  |0,hf=>obtain rfl:=Option.some.inj hf;exact .nil
  |1,hf=>obtain rfl:=Option.some.inj hf;exact .nil
 generalize hE:UP E.1 0 ([],[])=D at h
 have out:∀(τ:AH) (a b:Int),AH.Sub σ1 τ→R (.ret (.agg [iv a,iv b,roD []])) σ→sto 3 (.ptr φ 0 0 0) (.agg [iv a,iv b,.val (.slice none 0 0)]) τ fun σ=>og (lodA 3 (.ptr φ 0 0 0) σ) fun r=>aret r σ R:=fun τ a b hs hh=>by
  subst hσ1
  refine Qii (cs':=[iv a,iv b,roD []]) hφ hs rfl rfl (by intro x hx;simp at hx;rcases hx with rfl|rfl|rfl<;>rfl) rfl (fun j hj=>?_) hh
  match j,hj with
  |0,_=>exact .same _
  |1,_=>exact .same _
  |2,_=>exact .nil
 refine QH (fun n x τ=>∃(i:Nat) (s:Rds),x=(.ptr φ 0 0 0,.rop [iv E.2.1,iv (E.2.2:Nat),roT E.1] 0,.ptr φm 0 0 0,iv (i:Int),())∧MSt σ1 τ φm (fdP s)∧E.1.length - i=n∧i≤E.1.length∧OkO s∧(i=0→s=([],[]))∧(0<i→s.1≠[])∧UP (E.1.drop i) i s=D) E.1.length ⟨0,([],[]),by rw [c];rfl,S0,by omega,by omega,⟨by simp,by simp,by simp⟩,fun _=>rfl,fun h=>absurd h (by omega),by simpa using hE⟩ ?_
 rintro n x τ ⟨i,s,rfl,S,rfl,hi,hO,q0,q1,e⟩ R' hR'
 obtain ⟨v0,e0,b0⟩:=S.lst (i:=0) (sz:=4) (es:=s.1.map Qc) rfl
 obtain ⟨v1,e1,b1⟩:=S.lst (i:=1) (sz:=1) (es:=s.2.map fun p=>[iv (opE p)]) rfl
 have g1:=Jo b1
 simp only [l2,QB,RR]
 by_cases ci:i<E.1.length
 ·have g:(i:Int)<(E.1.length:Int):=by omega
  rw [List.drop_eq_getElem_cons ci,UP] at e
  have ix:idx 3 (roT E.1) (iv (i:Int)) τ=some (.rop (Qw E.1[i]) 0):=Qu ci QaW
  have la:lodA 3 (.rop (Qw E.1[i]) 0) τ=some (.agg (Qw E.1[i])):=Qs (QaW _)
  have bt:∀a b:Int,bld [(.val (.int .i64 0)),(.val (.int .i64 0)),(.val (.slice none 0 0))] [(0,1),(1,1),(2,1)] [(0,iv a),(1,iv b)]=some (.agg [iv a,iv b,.val (.slice none 0 0)]):=fun _ _=>rfl
  have rest:¬(0<i∧s.2=[])→acall TP Uy [.ptr φm 0 0 0,.agg (Qw E.1[i])] τ (onr (fun v42 σ=>
    og (ibin .neq v42 (.val (.int .i64 0))) fun v44=>
    apick v44 (
     og (bld [(.val (.int .i64 0)),(.val (.int .i64 0)),(.val (.slice none 0 0))] [(0,1),(1,1),(2,1)] [(0,v42),(1,iv (i:Int))]) fun v47=>
     sto 3 (.ptr φ 0 0 0) v47 σ fun σ=>
     og (lodA 3 (.ptr φ 0 0 0) σ) fun r2=>
     aret r2 σ R) (
     og (ibin .add (iv (i:Int)) (.val (.int .i64 1))) fun v49=>
     R' (.ptr φ 0 0 0,.rop [iv E.2.1,iv (E.2.2:Nat),roT E.1] 0,.ptr φm 0 0 0,v49,()) σ)) (fun v σ=>apan v σ R)):=fun hc=>by
   rw [if_neg hc] at e
   refine Qfe (hT.1 _ (List.getElem_mem ci)) S hO fun τ1 s' S1 hs'=>?_
   simp only [RR]
   by_cases c2:(Jc E.1[i] s).2=0
   ·rw [if_neg (by simpa using c2)] at e
    obtain rfl:=hs' c2
    have ne:=Qt1 (t:=E.1[i]) (s:=s) (by
     by_cases k:i=0
     ·right;rw [q0 k]
     ·left;exact q1 (by omega)) c2
    simp only [c2,Qj ci (by omega),RR]
    exact hR' _ _ (E.1.length - (i+1)) τ1 (by omega) (.refl _) ⟨i+1,_,rfl,S1,rfl,ci,QsN hO,fun k=>by omega,fun _=>ne,e⟩
   ·rw [if_pos (by simpa using c2)] at e
    rw [←e] at h
    simp only [c2,bt,RR]
    exact out _ _ _ S1.sub h
  by_cases c0:i=0
  ·have g0':(i:Int)=0:=by omega
   have hh:=rest fun k=>by omega
   rw [g0'] at g ix hh ⊢
   simp only [g,ix,la,RR]
   simpa only [RR] using hh
  ·have g0':¬(i:Int)=0:=by omega
   by_cases c1:s.2=[]
   ·rw [if_pos ⟨by omega,c1⟩] at e
    rw [←e] at h
    have gl:¬(0:Int)<((s.2.length:Nat):Int):=by rw [c1];simp
    simp only [g,g0',e1,g1,gl,bt,l2,QB,RR]
    exact out _ _ _ S.sub h
   ·have gl:(0:Int)<((s.2.length:Nat):Int):=by have:=List.length_pos_iff.2 c1;omega
    simp only [g,g0',e1,g1,gl,ix,la,RR]
    have hh:=rest fun k=>c1 k.2
    simpa only [RR] using hh
 ·have g:¬(i:Int)<(E.1.length:Int):=by omega
  obtain rfl:i=E.1.length:=by omega
  rw [List.drop_length,UP] at e
  have bt:∀a b:Int,bld [(.val (.int .i64 0)),(.val (.int .i64 0)),(.val (.slice none 0 0))] [(0,1),(1,1),(2,1)] [(0,iv a),(1,iv b)]=some (.agg [iv a,iv b,.val (.slice none 0 0)]):=fun _ _=>rfl
  by_cases c1:E.1.length=0
  ·have gl:((E.1.length:Nat):Int)=0:=by rw [c1];rfl
   rw [if_pos (by left;rw [q0 c1])] at e
   rw [←e] at h
   simp only [g,gl,bt,l2,QB,RR]
   have hh:=out τ 1 (E.1.length:Int) S.sub h
   rw [gl] at hh
   exact hh
  ·have gl:¬((E.1.length:Nat):Int)=0:=by omega
   have hne:=q1 (by omega)
   by_cases c2:s.2=[]
   ·have gl2:¬(0:Int)<((s.2.length:Nat):Int):=by rw [c2];simp
    rw [if_neg (by rintro (k|k);exact hne k;exact k c2)] at e
    rw [←e] at h
    have be:bld [(.val (.int .i64 0)),(.val (.int .i64 0)),(.val (.slice none 0 0))] [(0,1),(1,1),(2,1)] [(2,v0)]=some (.agg [iv 0,iv 0,v0]):=by
     have:=(FdOk.one (f:= .lst 4 (s.1.map Qc)) b0)
     have ha:=JJ this
     simp [bld,Qb6,ha,spl]
    simp only [g,gl,e0,e1,g1,gl2,l2,QB,be,RR]
    subst hσ1
    refine Qii (cs':=[iv 0,iv 0,roD s.1]) hφ S.sub rfl rfl (by intro x hx;simp at hx;rcases hx with rfl|rfl<;>first|rfl|exact FdOk.one (f:= .lst 4 (s.1.map Qc)) b0) rfl (fun j hj=>?_) h
    match j,hj with
    |0,_=>exact .same _
    |1,_=>exact .same _
    |2,_=>exact S.fzl (i:=0) rfl e0 (by intro c hc;obtain ⟨x,_,rfl⟩:=List.mem_map.1 hc;rfl)
   ·have gl2:(0:Int)<((s.2.length:Nat):Int):=by have:=List.length_pos_iff.2 c2;omega
    rw [if_pos (.inr c2)] at e
    rw [←e] at h
    simp only [g,gl,e1,g1,gl2,l2,QB,bt,RR]
    exact out _ _ _ S.sub h
end Go.Proofs.YtggnjjalfnhiiaaGreatDoor.E
/- Tokens of a text: the program's way. -/
namespace Go.Proofs.YtggnjjalfnhiiaaGreatDoor.E
open Go Go.RowKit
set_option maxRecDepth 100000
theorem Qt2 {c x:UInt8} {l r:List UInt8} {j:Nat} (e:l.drop j=x::r) (h:c≠x):Lib.occAt l [c] j=false:=by
 unfold Lib.occAt
 rw [e]
 show (c==x&&[].isPrefixOf r)=false
 rw [beq_eq_false_iff_ne.2 h]
 rfl
theorem QvG {c:UInt8} {a r:List UInt8} (h:c∉a):Lib.index (a++c::r) [c]=(a.length:Nat):=by
 refine Lib.index_first (by simp) ?_ ?_
 ·simp [Lib.occAt]
 ·intro j hj
  have e:(a++c::r).drop j=a[j]::(a++c::r).drop (j+1):=by
   rw [List.drop_eq_getElem_cons (by simp;omega),List.getElem_append_left hj]
  exact Qt2 e fun e=>h (e▸List.getElem_mem hj)
theorem QvH {c:UInt8} {a:List UInt8} (h:c∉a):Lib.index a [c]= -1:=by
 refine Lib.index_none fun j hj=>?_
 by_cases e:j<a.length
 ·exact Qt2 (List.drop_eq_getElem_cons e) fun e=>h (e▸List.getElem_mem _)
 ·unfold Lib.occAt
  rw [List.drop_eq_nil_of_le (by omega)];rfl
theorem Qv6 {c:UInt8} (h:c.toNat=10):c=10:=by
 have:UInt8.toNat c=UInt8.toNat 10:=h
 exact UInt8.toNat_inj.1 this
theorem QyC:∀(a r:List UInt8),(10:UInt8)∉a→skp true (a++10::r)=a.length+1+skp false r:=by
 intro a
 induction a with
 |nil=>intro r _;rw [List.nil_append,skp,if_pos (by decide)];simp;omega
 |cons c a ih=>
  intro r h
  rw [List.cons_append,skp,if_neg (fun e=>h (by rw [Qv6 e];simp)),ih r (fun e=>h (List.mem_cons_of_mem _ e)),List.length_cons];omega
theorem QvI:∀a:List UInt8,(10:UInt8)∉a→skp true a=a.length:=by
 intro a
 induction a with
 |nil=>intro _;rfl
 |cons c a ih=>
  intro h
  rw [skp,if_neg (fun e=>h (by rw [Qv6 e];simp)),ih (fun e=>h (List.mem_cons_of_mem _ e)),List.length_cons]
theorem QvJ:∀l:List UInt8,(10:UInt8)∉l∨∃a r,l=a++10::r∧(10:UInt8)∉a:=by
 intro l
 induction l with
 |nil=>left;simp
 |cons c l ih=>
  by_cases h:c=10
  ·right;exact ⟨[],l,by rw [h];rfl,by simp⟩
  ·rcases ih with k|⟨a,r,e,k⟩
   ·left;simp only [List.mem_cons,not_or];exact ⟨fun e=>h e.symm,k⟩
   ·right;exact ⟨c::a,r,by rw [e];rfl,by simp only [List.mem_cons,not_or];exact ⟨fun e=>h e.symm,k⟩⟩
theorem QyD {c:UInt8} (h:c.toNat=59) (l:List UInt8):1≤(Lib.cut (c::l) [10]).1.length∧(Lib.cut (c::l) [10]).1.length≤(c::l).length∧skp false (c::l)=(Lib.cut (c::l) [10]).1.length+skp false ((c::l).drop (Lib.cut (c::l) [10]).1.length):=by
 have hc:c≠10:=by rintro rfl;revert h;decide
 have e0:skp false (c::l)=skp true l+1:=by rw [skp,if_pos h]
 rw [e0]
 unfold Lib.cut
 rcases QvJ l with k|⟨a,r,e,k⟩
 ·have k':(10:UInt8)∉c::l:=by simp only [List.mem_cons,not_or];exact ⟨fun e=>hc e.symm,k⟩
  rw [QvH k',if_neg (by decide),QvI l k,List.drop_length]
  simp [skp]
 ·have k':(10:UInt8)∉c::a:=by simp only [List.mem_cons,not_or];exact ⟨fun e=>hc e.symm,k⟩
  have e2:c::l=(c::a)++10::r:=by rw [e];rfl
  have ei:=QvG (r:=r) k'
  rw [e2,ei,if_pos (by omega),Int.toNat_natCast]
  have et:((c::a)++10::r).take (c::a).length=c::a:=List.take_left ..
  have ed:((c::a)++10::r).drop (c::a).length=10::r:=List.drop_left ..
  have es:skp false (10::r)=skp false r+1:=by rw [skp,if_neg (by decide),if_pos (.inr (by decide))]
  dsimp only
  rw [et,ed,es,e,QyC a r k]
  refine ⟨by simp,by simp,by simp;omega⟩
theorem QqT {c:UInt8} {n:Nat} (hn:n<256) (h:c.toNat=n):c=UInt8.ofNat n:=by
 apply UInt8.toNat_inj.1
 rw [h,UInt8.toNat_ofNat'];omega
theorem QyE (c:UInt8):Lib.indexByte [40,41,39] c=Jb c - 1:=by
 unfold Jb
 by_cases h1:c.toNat=40
 ·rw [if_pos h1,QqT (by omega) h1];decide
 rw [if_neg h1]
 by_cases h2:c.toNat=41
 ·rw [if_pos h2,QqT (by omega) h2];decide
 rw [if_neg h2]
 by_cases h3:c.toNat=39
 ·rw [if_pos h3,QqT (by omega) h3];decide
 rw [if_neg h3]
 have n1:((40:UInt8)==c)=false:=beq_eq_false_iff_ne.2 (by rintro rfl;exact h1 rfl)
 have n2:((41:UInt8)==c)=false:=beq_eq_false_iff_ne.2 (by rintro rfl;exact h2 rfl)
 have n3:((39:UInt8)==c)=false:=beq_eq_false_iff_ne.2 (by rintro rfl;exact h3 rfl)
 simp [Lib.indexByte,n1,n2,n3]
theorem QyF (c:UInt8):0≤Jb c∧Jb c≤3:=by unfold Jb;repeat' split<;>omega
abbrev stopB:List UInt8:=[32,10,40,41,39,59]
theorem QqU (c:UInt8):stopB.contains c=true↔(c.toNat=32∨c.toNat=10∨c.toNat=59∨Jb c≠0):=by
 rw [List.contains_iff_mem]
 have e:∀n:UInt8,c=n↔c.toNat=n.toNat:=fun n=>UInt8.toNat_inj.symm
 simp only [stopB,List.mem_cons,List.not_mem_nil,or_false,e]
 have q1:(32:UInt8).toNat=32:=rfl
 have q2:(10:UInt8).toNat=10:=rfl
 have q3:(40:UInt8).toNat=40:=rfl
 have q4:(41:UInt8).toNat=41:=rfl
 have q5:(39:UInt8).toNat=39:=rfl
 have q6:(59:UInt8).toNat=59:=rfl
 rw [q1,q2,q3,q4,q5,q6]
 unfold Jb
 by_cases h1:c.toNat=40
 ·simp [h1]
 by_cases h2:c.toNat=41
 ·simp [h2]
 by_cases h3:c.toNat=39
 ·simp [h3]
 simp only [h1,h2,h3,if_false]
 simp
theorem QyG:∀l:List UInt8,Lib.indexAny (l++[32]) stopB=(wrd l:Nat):=by
 intro l
 induction l with
 |nil=>rfl
 |cons c r ih=>
  rw [List.cons_append,Lib.indexAny,wrd]
  by_cases h:stopB.contains c=true
  ·rw [if_pos h,if_pos ((QqU c).1 h)];rfl
  ·rw [if_neg h,if_neg (fun k=>h ((QqU c).2 k)),ih,if_neg (by rw [beq_iff_eq];omega)]
   simp
theorem QyH:Qbu [35,116]=false:=by unfold Qbu Ub;simp [dgsB,sgnB,isDg]
theorem QyI:Qbu [35,102]=false:=by unfold Qbu Ub;simp [dgsB,sgnB,isDg]
variable [L:Lam] [K:Knows QS]
variable {σ τ:AH} {R:AEnd→AH→Prop}
theorem QqV {l:List UInt8} {k:Nat} (h:k≤l.length):slcStr (str (bs l)) (some (iv (k:Int))) none=some (str (bs (l.drop k))):=by
 have e1:abd none (bs l).size=some (bs l).size:=rfl
 have e2:abd (some (AV.val (.int .i64 ((k:Nat):Int)))) 0=some k:=by simp [abd]
 simp only [slcStr,e1,e2]
 rw [if_pos ⟨by rw [Qo];exact h,Nat.le_refl _⟩]
 congr 3
 apply ByteArray.ext
 rw [ByteArray.data_extract,Qo];simp only [List.extract_toArray,List.extract_eq_take_drop]
 rw [List.take_of_length_le (by rw [List.length_drop];omega)]
theorem Qmu {l:List UInt8} (hl:l.length≤1048576) (h:R (.ret (.tup [.agg (Qw (Qah l).1),bv (Qah l).2])) σ):acall TP QdE [str (bs l)] σ R:=by
 refine Qi4 ?_
 unfold QeU x185;dsimp only [den,dE,di,tupL,lTup,dwat,Qe,List.map,Option.map,den0,den1,den2,den3,den4]
 intro φ hφ
 unfold Qah at h
 simp only [Jt,RR]
 by_cases c1:bs l=⟨#[35,116]⟩
 ·have el:l=[35,116]:=Qqo c1
  rw [if_neg (by rw [el,QyH];decide),if_pos c1] at h
  simp only [c1,(bldT 5 1 ⟨#[]⟩).1,RR]
  exact UO hφ rfl rfl (Q5 _) h
 by_cases c2:bs l=⟨#[35,102]⟩
 ·have el:l=[35,102]:=Qqo c2
  rw [if_neg (by rw [el,QyI];decide),if_neg c1,if_pos c2] at h
  have c1':¬(⟨#[35,102]⟩:ByteArray)=⟨#[35,116]⟩:=by rw [←c2];exact c1
  simp only [c2,c1',(bldT 5 1 ⟨#[]⟩).2.1,RR]
  exact UO hφ rfl rfl (Q5 _) h
 rw [if_neg c1,if_neg c2] at h
 simp only [c1,c2,RR]
 refine Qnm (by rw [Qo];omega) ?_
 rw [Qx2]
 have l0:∀(a b:Int) τ,lod (.rop [iv a,iv b] 0) τ=some (iv a):=fun _ _ _=>rfl
 have l1:∀(a b:Int) τ,lod (.rop [iv a,iv b] 1) τ=some (iv b):=fun _ _ _=>rfl
 cases hn:Qbu l with
 |true=>
  rw [hn] at h
  simp only [if_true] at h
  simp only [if_true,RR]
  refine Jn rfl rfl rfl (by intro y hy;simp only [List.mem_cons,List.not_mem_nil,or_false] at hy;rcases hy with rfl|rfl<;>rfl) ?_
  simp only [l0,l1,(bldT 4 (parV l) ⟨#[]⟩).1,RR]
  exact UO hφ rfl rfl (Q5 _) h
 |false=>
  rw [hn] at h
  simp only [Bool.false_eq_true,if_false] at h
  simp only [Bool.false_eq_true,if_false,RR]
  refine Jn rfl rfl rfl (by intro y hy;simp only [List.mem_cons,List.not_mem_nil,or_false] at hy;rcases hy with rfl|rfl<;>rfl) ?_
  have n5:¬(5:Int)=0:=by decide
  simp only [l0,l1,n5,(bldT 6 1 (bs l)).2.2,RR]
  refine Qf1 ?_
  cases hy:Qd3 (bs l) with
  |true=>
   rw [hy] at h
   simp only [if_true,RR]
   exact UO hφ rfl rfl (Q5 _) h
  |false=>
   rw [hy] at h
   simp only [Bool.false_eq_true,if_false,n5,RR]
   exact UO hφ rfl rfl (Q5 _) h
set_option maxHeartbeats 1000000 in
theorem QnK {t:List UInt8} (h:R (.ret (.agg [iv (tokR t).2.1,iv ((tokR t).2.2:Nat),roT (tokR t).1])) σ):acall TP QbD [str (bs t)] σ R:=by
 refine QjO ?_
 unfold QfV x153;dsimp only [den,dE,di,tupL,lTup,dwat,Qe,List.map,Option.map,den0,den1,den2,den3,den4]
 intro φ hφ
 unfold tokR at h
 simp only [Qo,RR]
 have bt:∀a b:Int,bld [(.val (.int .i64 0)),(.val (.int .i64 0)),(.val (.slice none 0 0))] [(0,1),(1,1),(2,1)] [(0,iv a),(1,iv b)]=some (.agg [iv a,iv b,.val (.slice none 0 0)]):=fun _ _=>rfl
 have out:∀(τ:AH) (a b:Int),AH.Sub (σ.set φ ⟨0,3,[[iv 0,iv 0,.val (.slice none 0 0)]]⟩) τ→R (.ret (.agg [iv a,iv b,roT []])) σ→sto 3 (.ptr φ 0 0 0) (.agg [iv a,iv b,.val (.slice none 0 0)]) τ fun σ=>og (lodA 3 (.ptr φ 0 0 0) σ) fun r=>aret r σ R:=fun τ a b hs hh=>by
  refine Qii (cs':=[iv a,iv b,roT []]) hφ hs rfl rfl (by intro x hx;simp at hx;rcases hx with rfl|rfl|rfl<;>rfl) rfl (fun j hj=>?_) hh
  match j,hj with
  |0,_=>exact .same _
  |1,_=>exact .same _
  |2,_=>exact .nil
 by_cases cl:400<t.length
 ·rw [if_pos cl] at h
  have g:(400:Int)<(t.length:Int):=by omega
  have eb:bld [(.val (.int .i64 0)),(.val (.int .i64 0)),(.val (.slice none 0 0))] [(0,1),(1,1),(2,1)] [(0,(.val (.int .i64 2)))]=some (.agg [iv 2,iv 0,.val (.slice none 0 0)]):=rfl
  simp only [g,eb,RR]
  exact out _ _ _ (.refl _) h
 rw [if_neg cl] at h
 have g:¬(400:Int)<(t.length:Int):=by omega
 simp only [g,RR]
 refine bsl0 ?_
 generalize hσ1:σ.set φ ⟨0,[(.val (.int .i64 0):AV),(.val (.int .i64 0)),(.val (.slice none 0 0))].length,[[(.val (.int .i64 0)),(.val (.int .i64 0)),(.val (.slice none 0 0))]]⟩=σ1
 change σ.set φ ⟨0,3,[[iv 0,iv 0,.val (.slice none 0 0)]]⟩=σ1 at hσ1
 rw [hσ1] at out
 generalize hE:toks t (t.length+1) (skp false t) []=E at h
 refine QH (fun n x τ=>∃(p f:Nat) (ts:List Tok) (u:AV),x=(str (bs t),.ptr φ 0 0 0,u,iv (p:Int),())∧Buf τ 3 u (ts.map Qw)∧AH.Sub σ1 τ∧(∀ψ,ψ∈famL u→σ1 ψ=none)∧toks t f (p+skp false (t.drop p)) ts=E∧ts.length≤120∧p≤t.length∧t.length+1≤f+p∧t.length - p=n) t.length
  ⟨0,t.length+1,[],.emp,rfl,.inl ⟨.inr rfl,rfl⟩,.refl σ1,(fun ψ c=>by cases c),by simpa using hE,by simp,by omega,by omega,rfl⟩ ?_
 rintro n x τ ⟨p,f,ts,u,rfl,hB,hs,hf,he,hn,hp,hfp,rfl⟩ R' hR'
 simp only [Qo,RR]
 by_cases c:p<t.length
 case neg=>
  have g:¬(p:Int)<(t.length:Int):=by omega
  obtain rfl:p=t.length:=by omega
  have ee:E=(ts,0,0):=by
   rw [←he]
   cases f with
   |zero=>rfl
   |succ f=>rw [toks,List.drop_length];simp [skp]
  rw [ee] at h
  have be:bld [(.val (.int .i64 0)),(.val (.int .i64 0)),(.val (.slice none 0 0))] [(0,1),(1,1),(2,1)] [(2,u)]=some (.agg [iv 0,iv 0,u]):=by
   have ha:=JJ (Bfj.one hB.bfj)
   simp [bld,Qb6,ha,spl]
  simp only [g,be,RR]
  subst hσ1
  refine Qii (cs':=[iv 0,iv 0,roT ts]) hφ hs rfl rfl (by intro x hx;simp at hx;rcases hx with rfl|rfl<;>first|rfl|exact Bfj.one hB.bfj) rfl (fun j hj=>?_) h
  match j,hj with
  |0,_=>exact .same _
  |1,_=>exact .same _
  |2,_=>exact UL hB hf rfl (by intro c hc;obtain ⟨o,_,rfl⟩:=List.mem_map.1 hc;rfl) fun _ _ _ _=> .same _
 have g:(p:Int)<(t.length:Int):=by omega
 have dc:=List.drop_eq_getElem_cons c
 have cmp:=fun a b:Int=>(JF a b).2.2.2.2.1
 have k32:=cmp (t[p].toNat:Nat) 32
 have k10:=cmp (t[p].toNat:Nat) 10
 have k59:=cmp (t[p].toNat:Nat) 59
 simp only [g,Q2 c,k32,k10,k59,RR]
 have stepB:t[p].toNat=32∨t[p].toNat=10→R' (str (bs t),.ptr φ 0 0 0,u,iv ((p+1:Nat):Int),()) τ:=fun hc=>by
  have h59:¬t[p].toNat=59:=by omega
  rw [dc,skp,if_neg h59,if_pos hc] at he
  exact hR' _ _ (t.length - (p+1)) τ (by omega) (.refl _) ⟨p+1,f,ts,u,rfl,hB,hs,hf,by rw [show p+1+skp false (t.drop (p+1))=p+(skp false (t.drop (p+1))+1) by omega];exact he,hn,by omega,by omega,rfl⟩
 by_cases h32:t[p].toNat=32
 ·have g32:((t[p].toNat:Nat):Int)=32:=by omega
  simp only [g32,Qj c (show t.length≤9223372036854775807 by omega),RR]
  exact stepB (.inl h32)
 have g32:¬((t[p].toNat:Nat):Int)=32:=by omega
 by_cases h10:t[p].toNat=10
 ·have g10:((t[p].toNat:Nat):Int)=10:=by omega
  have g32':¬(10:Int)=32:=by omega
  simp only [g10,g32',Qj c (show t.length≤9223372036854775807 by omega),RR]
  exact stepB (.inr h10)
 have g10:¬((t[p].toNat:Nat):Int)=10:=by omega
 by_cases h59:t[p].toNat=59
 ·have g59:((t[p].toNat:Nat):Int)=59:=by omega
  have g32':¬(59:Int)=32:=by omega
  have g10':¬(59:Int)=10:=by omega
  simp only [g59,g32',g10',QqV hp,RR]
  refine Qpr (p:=[10]) (by rw [List.length_drop];omega) ?_
  obtain ⟨q1,q2,q3⟩:=QyD h59 (t.drop (p+1))
  rw [←dc] at q1 q2 q3
  rw [q3] at he
  generalize Lib.cut (t.drop p) [10]=cu at q1 q2 he ⊢
  have a0:aext (.tup [str (bs cu.1),str (bs cu.2.1),bv cu.2.2]) 0=some (str (bs cu.1)):=rfl
  have a1:aext (.tup [str (bs cu.1),str (bs cu.2.1),bv cu.2.2]) 1=some (str (bs cu.2.1)):=rfl
  have a2:aext (.tup [str (bs cu.1),str (bs cu.2.1),bv cu.2.2]) 2=some (bv cu.2.2):=rfl
  rw [List.length_drop] at q2
  have ea:ibin .add (iv (p:Int)) (iv (cu.1.length:Int))=some (iv ((p+cu.1.length:Nat):Int)):=by rw [Q6 (by omega) (by omega)];rfl
  simp only [a0,a1,a2,Qo,ea,RR]
  refine hR' _ _ (t.length - (p+cu.1.length)) τ (by omega) (.refl _) ⟨p+cu.1.length,f,ts,u,rfl,hB,hs,hf,?_,hn,by omega,by omega,rfl⟩
  rw [List.drop_drop] at he
  rw [Nat.add_assoc];exact he
 have g59:¬((t[p].toNat:Nat):Int)=59:=by omega
 have sk0:skp false (t.drop p)=0:=by rw [dc,skp,if_neg h59,if_neg (by omega)]
 rw [sk0,Nat.add_zero] at he
 obtain ⟨f,rfl⟩:∃g,f=g+1:=⟨f - 1,by omega⟩
 rw [toks,dc] at he
 dsimp only at he
 have e0:bld [(.val (.int .i64 0)),(.val (.int .i64 0)),(.val (.string ⟨#[]⟩))] [(0,1),(1,1),(2,1)] []=some (.agg (Qw ⟨0,0,⟨#[]⟩⟩)):=rfl
 simp only [g32,g10,g59,k32,k10,k59,e0,RR]
 intro ψ hψ
 refine QG (es:=[[iv 0,iv 0,str ⟨#[]⟩]]) (cs:=Qw ⟨0,0,⟨#[]⟩⟩) (AH.set_same ..) (by simp) rfl rfl rfl (Q5 _) ?_
 simp only [List.set_cons_zero,AH.set_set]
 refine UC (P:=fun x τ'=>∃(q:Nat) (tk:Tok) (b:Bool),x=(str (bs t),.ptr φ 0 0 0,u,iv (p:Int),iv (q:Int),.ptr ψ 0 0 0,bv b,())∧τ'=τ.set ψ ⟨0,3,[Qw tk]⟩∧1≤q∧p+q≤t.length∧E=(if b=false then ([],5,p) else if 120≤ts.length then ([],2,p) else toks t f (p+q+skp false (t.drop (p+q))) (ts++[tk]))) ?_ ?_
 ·rintro x τ' ⟨q,tk,b,rfl,rfl,q1,q2,ee⟩
  refine QI hψ rfl ?_
  cases b with
  |false=>
   rw [if_pos rfl] at ee
   rw [ee] at h
   simp only [bt,RR]
   exact out _ _ _ hs h
  |true=>
   rw [if_neg (by decide)] at ee
   have hlen:lenS u=some (iv (ts.length:Int)):=by have:=Q9 hB;simpa using this
   simp only [hlen,RR]
   by_cases cm:120≤ts.length
   ·have gm:(ts.length:Int)=120:=by omega
    rw [if_pos cm] at ee
    rw [ee] at h
    simp only [gm,bt,RR]
    exact out _ _ _ hs h
   ·have gm:¬(ts.length:Int)=120:=by omega
    rw [if_neg cm] at ee
    simp only [gm,Qs (QaW tk),RR]
    refine QrQ (row:=Qw tk) hB QtR (by omega) rfl (Q5 tk) (by simp;omega) fun u' τ2 hB' hK hfam=>?_
    have ea:ibin .add (iv (p:Int)) (iv (q:Int))=some (iv ((p+q:Nat):Int)):=by rw [Q6 (by omega) (by omega)];rfl
    simp only [ea,RR]
    exact hR' _ _ (t.length - (p+q)) τ2 (by omega) (.refl _) ⟨p+q,f,ts++[tk],u',rfl,by simpa using hB',hK.sub hs hf,(fun χ hχ=>(hfam χ hχ).elim (hf χ) fun d=>hs.none d),ee.symm,by simp;omega,by omega,by omega,rfl⟩
 ·intro k hk
  simp only [Q2 c,RR]
  refine Qi8 (l:=[40,41,39]) ?_
  rw [QyE]
  have ml:=QyF t[p]
  simp only [RR]
  by_cases cm:Jb t[p]=0
  ·rw [if_neg (by simp [cm])] at he
   have gm:¬(0:Int)≤Jb t[p] - 1:=by omega
   have eadd:sbin .add (str (bs (t.drop p))) (.val (.string ⟨#[32]⟩))=some (str (bs (t.drop p++[32]))):=by
    have:=Qe0 (bs (t.drop p)) (bs [32]) (by rw [Qo,Qo,List.length_drop];simp;omega)
    rw [Qj6] at this
    exact this
   simp only [gm,QqV hp,eadd,RR]
   refine Qj9 (p:=stopB) (by rw [List.length_append,List.length_drop];simp;omega) (by decide) (by decide) (by decide) ?_
   rw [QyG]
   have hw:=QtQ (t.drop p)
   have hw1:1≤wrd (t.drop p):=by rw [dc,QqH h32 h10 h59 cm];omega
   rw [←dc] at he
   rw [List.length_drop] at hw
   generalize hW:wrd (t.drop p)=W at*
   have ea:ibin .add (iv (p:Int)) (iv (W:Int))=some (iv ((p+W:Nat):Int)):=by rw [Q6 (by omega) (by omega)];rfl
   simp only [ea,RR]
   rw [QqL (a:=p) (b:=p+W) (by omega) (by omega),show p+W - p=W by omega]
   simp only [RR]
   refine Qmu (by rw [List.length_take];omega) ?_
   generalize Qah ((t.drop p).take W)=wt at*
   have a0:aext (.tup [.agg (Qw wt.1),bv wt.2]) 0=some (.agg (Qw wt.1)):=rfl
   have a1:aext (.tup [.agg (Qw wt.1),bv wt.2]) 1=some (bv wt.2):=rfl
   simp only [a0,a1,RR]
   refine QG (es:=[Qw ⟨0,0,⟨#[]⟩⟩]) (cs:=Qw wt.1) (by rw [AH.set_same]) (by simp) rfl rfl rfl (Q5 _) ?_
   simp only [List.set_cons_zero,AH.set_set]
   exact hk _ _ ⟨W,wt.1,wt.2,rfl,rfl,hw1,by omega,he.symm⟩
  ·rw [if_pos cm] at he
   have gm:(0:Int)≤Jb t[p] - 1:=by omega
   have ea:ibin .add (.val (.int .i64 1)) (iv (Jb t[p] - 1))=some (iv (Jb t[p])):=by rw [Q6 (by omega) (by omega)];congr 3;omega
   simp only [gm,ea,RR]
   refine Q0 (es:=[Qw ⟨0,0,⟨#[]⟩⟩]) (cs:=Qw ⟨0,0,⟨#[]⟩⟩) (AH.set_same ..) rfl (show 0<3 by omega) rfl rfl ?_
   rw [AH.set_set]
   exact hk _ _ ⟨1,⟨Jb t[p],0,⟨#[]⟩⟩,true,rfl,rfl,by omega,by omega,by rw [if_neg (by decide)];exact he.symm⟩
end Go.Proofs.YtggnjjalfnhiiaaGreatDoor.E
/- Forms that are expanded to cores: the steps of the program's way. -/
namespace Go.Proofs.YtggnjjalfnhiiaaGreatDoor.E
open Go Go.RowKit
set_option maxRecDepth 100000
section
variable {p:Int→Int}
theorem Qv7:∀(n:Nat) (a x:Int),(a+1).toNat≤n→upW p a x=true→x≤a∧0≤x:=by
 intro n
 induction n with
 |zero=>intro a x h hu;rw [upW,if_pos (by omega)] at hu;cases hu
 |succ n ih=>
  intro a x h hu
  rw [upW] at hu
  split at hu
  ·cases hu
  ·split at hu
   ·omega
   ·split at hu
    ·have:=ih (p a) x (by omega) hu;omega
    ·cases hu
theorem Qr4:∀(n:Nat) (a x:Int),(a+1).toNat≤n→upW p a x=true→QX p x≤QX p a∧(a≠x→QX p x<QX p a):=by
 intro n
 induction n with
 |zero=>intro a x h hu;rw [upW,if_pos (by omega)] at hu;cases hu
 |succ n ih=>
  intro a x h hu
  rw [upW] at hu
  split at hu
  ·cases hu
  ·rename_i h0
   split at hu
   ·rename_i e;subst e;exact ⟨Nat.le_refl _,fun c=>absurd rfl c⟩
   ·split at hu
    ·rename_i hp
     have:=(ih (p a) x (by omega) hu).1
     have e:QX p a=QX p (p a)+1:=by conv=>lhs;rw [QX,if_neg h0,if_pos hp]
     exact ⟨by omega,fun _=>by omega⟩
    ·cases hu
theorem QzZ:∀(n:Nat) (a x q:Int),(a+1).toNat≤n→upW p a x=true→upW p a q=true→(x≤q→upW p q x=true)∧(q≤x→upW p x q=true):=by
 intro n
 induction n with
 |zero=>intro a x q h hu;rw [upW,if_pos (by omega)] at hu;cases hu
 |succ n ih=>
  intro a x q h hx hq
  have l1:=Qv7 _ a x (Nat.le_refl _) hx
  have l2:=Qv7 _ a q (Nat.le_refl _) hq
  by_cases c1:a=x
  ·subst c1
   refine ⟨fun c=>?_,fun _=>hq⟩
   obtain rfl:a=q:=by omega
   exact hx
  by_cases c2:a=q
  ·subst c2
   refine ⟨fun _=>hx,fun c=>?_⟩
   obtain rfl:a=x:=by omega
   exact hq
  rw [upW] at hx hq
  split at hx
  ·cases hx
  ·rename_i h0
   rw [if_neg h0,if_neg c2] at hq
   split at hx
   ·rename_i hp
    rw [if_pos hp] at hq
    exact ih (p a) x q (by omega) hx hq
   ·cases hx
end
section
variable {ds:List Dat} [L:Lam]
def DLs (ds:List Dat):Prop:=∀i,0<i→i<ds.length→(dat ds (dat ds i).parent.toNat).kind=4∧upW (par ds) ((i:Int) - 1) (dat ds i).parent=true
theorem DLs.of (h:Uo ds=0):DLs ds:=by
 have hz:∀j,j<ds.length→datF ds j=0:=by
  unfold Uo at h
  split at h
  ·intro j hj;exact Qlw _ _ h j (Nat.zero_le _) (by omega)
  ·cases h
 intro i h0 hi
 have h:=hz i hi
 unfold datF at h
 split at h
 ·cases h
 split at h
 ·rename_i hk;exact absurd h hk
 rw [if_neg (by omega)] at h
 split at h
 ·cases h
 split at h
 ·cases h
 ·rename_i c
  refine ⟨Classical.byContradiction fun k=>c (.inl k),?_⟩
  cases hu:upW (par ds) ((i:Int) - 1) (dat ds i).parent with
  |true=>rfl
  |false=>exact absurd (.inr hu) c
theorem Qt3 (hl:DLs ds) (hd:DOk ds) {x k:Nat} (hk:k∈Qf ds x):(dat ds x).kind=4:=by
 obtain ⟨h1,h2⟩:=Qpg.1 hk
 have h3:=hd.kid hk
 have:=(hl k (by omega) h1).1
 rw [h2] at this
 exact this
def subB (ds:List Dat) (x:Nat):Nat→Nat→List Dat
 |0,_=>[]
 |f+1,i=>if (dat ds i).parent<x then [] else {dat ds i with parent:=(dat ds i).parent - x}::subB ds x f (i+1)
theorem QyJ (hl:DLs ds) (hd:DOk ds) {x:Nat}:∀f i,f=ds.length - i→x<i→upW (par ds) ((i:Int) - 1) x=true→subG ds x f i=subB ds x f i:=by
 intro f
 induction f with
 |zero=>intro i _ _ _;rfl
 |succ f ih=>
  intro i hf hi hu
  have hil:i<ds.length:=by omega
  have h1:=(hl i (by omega) hil).2
  have hp:=hd.par i (by omega) hil
  have e:par ds (i:Int)=(dat ds i).parent:=by unfold par;simp
  have hdi:QX (par ds) (i:Int)=QX (par ds) (dat ds i).parent+1:=by
   conv=>lhs;rw [QX,if_neg (by omega),if_pos (by rw [e];omega),e]
  have ht:=QzZ _ _ _ _ (Nat.le_refl _) hu h1
  rw [subG,subB]
  by_cases c:(dat ds i).parent<x
  ·have hu2:=ht.2 (by omega)
   have:=(Qr4 _ _ _ (Nat.le_refl _) hu2).2 (by omega)
   rw [if_pos c,if_neg]
   unfold Qcv
   omega
  ·have hu2:=ht.1 (by omega)
   have:=(Qr4 _ _ _ (Nat.le_refl _) hu2).1
   rw [if_neg c,if_pos ⟨hil,.inr (by unfold Qcv;omega)⟩,if_neg (by omega)]
   congr 1
   refine ih (i+1) (by omega) (by omega) ?_
   have:(((i+1:Nat):Int) - 1)=(i:Int):=by omega
   rw [this,upW,if_neg (by omega),if_neg (by omega),if_pos (by rw [e];omega),e]
   exact hu2
theorem QyK (hl:DLs ds) (hd:DOk ds) {x:Nat} (hx:x<ds.length):subD ds x={dat ds x with parent:= -1}::subB ds x (ds.length - (x+1)) (x+1):=by
 unfold subD
 obtain ⟨n,hn⟩:∃n,ds.length - x=n+1:=⟨ds.length - x - 1,by omega⟩
 rw [hn,subG,if_pos ⟨hx,.inl rfl⟩,if_pos rfl]
 congr 1
 rw [←QyJ hl hd _ _ rfl (by omega)]
 ·rw [show ds.length - (x+1)=n by omega]
 ·rw [show (((x+1:Nat):Int) - 1)=(x:Int) by omega,upW,if_neg (by omega),if_pos rfl]
theorem QvK (s:ByteArray):∀(l:List ByteArray) (k:Nat),idxS l s k=match posL l s with|none=> -1|some b=>((b+k:Nat):Int):=by
 intro l
 induction l with
 |nil=>intro k;rfl
 |cons t r ih=>
  intro k
  rw [idxS,posL]
  by_cases c:t=s
  ·rw [if_pos c.symm,if_pos c];simp
  ·rw [if_neg (fun e=>c e.symm),if_neg c,ih]
   cases posL r s with
   |none=>rfl
   |some b=>simp only [Option.map_some];congr 1;omega
theorem QyL:∀(l:List Nat) (ns:List ByteArray) (vs:List Nat),UV ds l ns vs=if ∀k,k∈l→(Qf ds k).length=2 then (JT ds (l.map fun k=>(Qf ds k).getD 0 0) ns).map fun ns'=>(ns',vs++l.map fun k=>(Qf ds k).getD 1 0) else none:=by
 intro l
 induction l with
 |nil=>intro ns vs;rw [if_pos (fun k hk=>by cases hk)];simp [UV,JT]
 |cons k r ih=>
  intro ns vs
  rw [UV]
  by_cases c:(Qf ds k).length=2
  ·rw [if_neg (by simpa using c),List.map_cons,List.map_cons,JT]
   by_cases c2:badP ds ((Qf ds k).getD 0 0) ns=true
   ·rw [if_pos c2,if_pos c2]
    simp
   ·rw [if_neg c2,if_neg c2,ih]
    by_cases c3:∀j,j∈r→(Qf ds j).length=2
    ·rw [if_pos c3,if_pos (fun j hj=>by rcases List.mem_cons.1 hj with rfl|hj;exact c;exact c3 j hj)]
     simp
    ·rw [if_neg c3,if_neg (fun h=>c3 fun j hj=>h j (List.mem_cons_of_mem _ hj))]
  ·rw [if_pos (by simpa using c),if_neg (fun h=>c (h k (by simp)))]
end
variable [L:Lam]
variable {σ τ τ':AH} {R:AEnd→AH→Prop}
theorem QvL {sz:Nat} {es:List (List AV)} {k:Nat} (hk:k≤es.length) (hz:∀c,c∈es→c.length=sz):slc sz (.ro es) (some (iv (k:Nat))) none none σ=some (.ro (es.drop k)):=by
 have e1:abd (some (iv (k:Nat))) 0=some k:=Qhp _ _
 have e2:abd none es.length=some es.length:=rfl
 simp only [slc,e1,e2]
 rw [if_pos ⟨hk,Nat.le_refl _,Nat.le_refl _,by simp,by rw [List.all_eq_true];intro c hc;simpa using hz c hc⟩]
 rw [List.take_length]
section
variable {ds:List Dat} {φm:Nat} {C:List Cor}
theorem Qcw {x:Nat} (hl:ds.length≤1000000) (h:R (.ret (roK (Qf ds x))) σ):acall TP Qio [roD ds,iv (x:Int)] σ R:=by
 refine QmZ ?_
 unfold Qjz x77;dsimp only [den,dE,di,tupL,lTup,dwat,Qe,List.map,Option.map,den0,den1,den2,den3,den4]
 refine bsl0 ?_
 simp only [QB,RR]
 refine J4 ds.length (fun i y τ=>∃u,y=(iv (x:Int),u,roD ds,iv (ds.length:Int),iv (i:Int),())∧Buf τ 1 u (innK (kdTo ds i x))∧AH.Sub σ τ∧∀ψ,ψ∈famL u→σ ψ=none) ⟨.emp,rfl,.inl ⟨.inr rfl,rfl⟩,.refl σ,fun ψ c=>by cases c⟩ ?_
 rintro i _ τ hi ⟨u,rfl,hB,hs,hf⟩ R' hR'
 by_cases hlt:i<ds.length
 ·have g:(i:Int)<(ds.length:Int):=by omega
  have l1:∀τ,lod (.rop (Qc (dat ds i)) 1) τ=some (iv (dat ds i).parent):=fun _=>rfl
  simp only [g,Qu hlt Qk,QY hlt,Qs (Qk _),jn,RR]
  refine Jn rfl (Qk _) rfl (Q3 _) ?_
  simp only [l1,RR]
  by_cases c:(dat ds i).parent=(x:Int)
  ·simp only [c,RR]
   refine QbJ (row:=[iv (i:Int)]) hB rfl (by omega) rfl (fun y hy=>by obtain rfl:=List.mem_singleton.1 hy;rfl) (by have:=QrW ds i x;simp;omega) fun u' τ' hB' hK hfam=>?_
   simp only [Qj hlt (by omega),RR]
   refine hR' _ _ _ hlt (.refl _) ⟨u',rfl,?_,hK.sub hs hf,fun ψ hψ=>(hfam ψ hψ).elim (hf ψ) fun d=>hs.none d⟩
   rw [Qge,if_pos c]
   simpa [innK] using hB'
  ·simp only [c,Qj hlt (by omega),RR]
   refine hR' _ _ _ hlt (.refl _) ⟨u,rfl,?_,hs,hf⟩
   rw [Qge,if_neg c,List.append_nil];exact hB
 ·have g:¬(i:Int)<(ds.length:Int):=by omega
  obtain rfl:i=ds.length:=by omega
  simp only [g,RR]
  exact QU hs (UL hB hf rfl (by intro c hc;obtain ⟨o,_,rfl⟩:=List.mem_map.1 hc;rfl) fun _ _ _ _=> .same _) h
theorem QnL {x:Nat} (hls:DLs ds) (hd:DOk ds) (hx:x<ds.length) (h:R (.ret (roD (subD ds x))) σ):acall TP Qln [roD ds,iv (x:Int)] σ R:=by
 have hl:=hd.len
 refine Qpl ?_
 unfold Qnb x223;dsimp only [den,dE,di,tupL,lTup,dwat,Qe,List.map,Option.map,den0,den1,den2,den3,den4]
 simp only [Qu hx Qk,QY hx,Qs (Qk _),RR]
 refine bsl1 (row:=Qc (dat ds x)) rfl (by omega) fun φ hφ=>?_
 have ix:idx 4 (.own φ 0 0 1) (.val (.int .i64 0)) (σ.set φ ⟨0,4,[Qc (dat ds x)]⟩)=some (.ptr φ 0 0 0):=Jf (i:=0) (AH.set_same ..) (by omega)
 simp only [ix,RR]
 refine Q0 (es:=[Qc (dat ds x)]) (cs:=Qc (dat ds x)) (AH.set_same ..) rfl (show 1<4 by omega) rfl rfl ?_
 rw [AH.set_set]
 have x1:∀(d:Dat) (a:Int),[Qc d].set 0 ((Qc d).set 1 (iv a))=[Qc {d with parent:=a}]:=fun d a=>rfl
 rw [x1]
 have hs0:AH.Sub σ (σ.set φ ⟨0,4,[Qc {dat ds x with parent:= -1}]⟩):= .set (.refl σ) _ hφ
 refine UC (P:=fun z τ=>∃u,z=(u,())∧Buf τ 4 u ((subD ds x).map Qc)∧AH.Sub σ τ∧∀ψ,ψ∈famL u→σ ψ=none) ?_ ?_
 ·rintro z τ ⟨u,rfl,hB,hs,hf⟩
  exact QU hs (UL hB hf rfl (by intro c hc;obtain ⟨o,_,rfl⟩:=List.mem_map.1 hc;rfl) fun _ _ _ _=> .same _) h
 intro k hk
 have ea:ibin .add (iv (x:Int)) (.val (.int .i64 1))=some (iv ((x+1:Nat):Int)):=by rw [Q6 (by omega) (by omega)];rfl
 have es:slc 4 (roD ds) (some (iv ((x+1:Nat):Int))) none none (σ.set φ ⟨0,4,[Qc {dat ds x with parent:= -1}]⟩)=some (roD (ds.drop (x+1))):=by
  rw [QvL (by simp;omega) (by intro c hc;obtain ⟨o,_,rfl⟩:=List.mem_map.1 hc;rfl),←List.map_drop]
 have el:lenS (roD (ds.drop (x+1)))=some (iv ((ds.length - (x+1):Nat):Int)):=by rw [QB];simp
 simp only [ea,es,el,RR]
 refine QH (fun n y τ=>∃(j:Nat) (u:AV) (es:List Dat),y=(iv (x:Int),u,roD (ds.drop (x+1)),iv ((ds.length - (x+1):Nat):Int),iv (j:Int),())∧Buf τ 4 u (es.map Qc)∧AH.Sub σ τ∧(∀ψ,ψ∈famL u→σ ψ=none)∧ds.length - (x+1) - j=n∧j≤ds.length - (x+1)∧es.length=j+1∧es++subB ds x (ds.length - (x+1) - j) (x+1+j)=subD ds x) (ds.length - (x+1))
  ⟨0,.own φ 0 0 1,[{dat ds x with parent:= -1}],rfl,.inr ⟨φ,0,rfl,AH.set_same ..⟩,hs0,(fun ψ c=>by obtain rfl:ψ=φ:=(by simpa [famL] using c);exact hφ),rfl,by omega,rfl,by rw [QyK hls hd hx];rfl⟩ ?_
 rintro n y τ ⟨j,u,es,rfl,hB,hs,hf,rfl,hj,hes,e⟩ R' hR'
 by_cases hlt:j<ds.length - (x+1)
 ·have g:(j:Int)<((ds.length - (x+1):Nat):Int):=by omega
  have hi:x+1+j<ds.length:=by omega
  have ix2:idx 4 (roD (ds.drop (x+1))) (iv (j:Int)) τ=some (.rop (Qc (dat ds (x+1+j))) 0):=by
   have hjl:j<(ds.drop (x+1)).length:=by simp;omega
   rw [Qu hjl Qk,List.getElem_drop,QY hi]
  obtain ⟨n,hn⟩:∃n,ds.length - (x+1) - j=n+1:=⟨ds.length - (x+1) - j - 1,by omega⟩
  rw [hn,subB] at e
  have hpar: -1≤(dat ds (x+1+j)).parent∧(dat ds (x+1+j)).parent≤80:=by
   have:=hd.par (x+1+j) (by omega) hi;omega
  simp only [g,ix2,Qs (Qk _),RR]
  intro ψ hψ
  refine QG (es:=[[iv 0,iv 0,iv 0,str ⟨#[]⟩]]) (cs:=Qc (dat ds (x+1+j))) (AH.set_same ..) (by simp) rfl rfl rfl (Q3 _) ?_
  simp only [List.set_cons_zero,AH.set_set]
  have ll:lod (.ptr ψ 0 0 1) (τ.set ψ ⟨0,4,[Qc (dat ds (x+1+j))]⟩)=some (iv (dat ds (x+1+j)).parent):=Qz (AH.set_same ..) rfl rfl
  have hsψ:AH.Sub τ (τ.set ψ ⟨0,4,[Qc (dat ds (x+1+j))]⟩):= .set (.refl τ) _ hψ
  by_cases c:(dat ds (x+1+j)).parent<x
  ·rw [if_pos c,List.append_nil] at e
   subst e
   simp only [ll,c,RR]
   exact hk _ _ ⟨u,rfl,hB.up fun χ hχ=>AH.set_ne' (by rintro rfl;obtain ⟨F,hF⟩:=hB.live hχ;rw [hψ] at hF;cases hF),hs.trans hsψ,hf⟩
  ·rw [if_neg c] at e
   have es1:ibin .sub (iv (dat ds (x+1+j)).parent) (iv (x:Int))=some (iv ((dat ds (x+1+j)).parent - x)):=QR (by omega) (by omega)
   simp only [ll,c,es1,RR]
   refine Q0 (es:=[Qc (dat ds (x+1+j))]) (cs:=Qc (dat ds (x+1+j))) (AH.set_same ..) rfl (show 1<4 by omega) rfl rfl ?_
   rw [AH.set_set,x1]
   refine QI hψ rfl ?_
   simp only [Qs (Qk _),RR]
   refine QbJ (row:=Qc {dat ds (x+1+j) with parent:=(dat ds (x+1+j)).parent - x}) hB rfl (by omega) rfl (Q3 _) (by simp;omega) fun u' τ3 hB' hK hfam=>?_
   simp only [Qj hlt (by omega),RR]
   refine hR' _ _ n τ3 (by omega) (.refl _) ⟨j+1,u',es++[{dat ds (x+1+j) with parent:=(dat ds (x+1+j)).parent - x}],rfl,by simpa using hB',hK.sub hs hf,(fun ψ hψ=>(hfam ψ hψ).elim (hf ψ) fun d=>hs.none d),by omega,hlt,by simp;omega,?_⟩
   rw [show ds.length - (x+1) - (j+1)=n by omega,List.append_assoc]
   exact e
 ·have g:¬(j:Int)<((ds.length - (x+1):Nat):Int):=by omega
  obtain rfl:j=ds.length - (x+1):=by omega
  rw [Nat.sub_self,subB,List.append_nil] at e
  subst e
  simp only [g,RR]
  exact hk _ _ ⟨u,rfl,hB,hs,hf⟩
theorem QnM {u:AV} {l:List ByteArray} {s:ByteArray} (hu:RdN σ u l) (hl:l.length≤1000000) (h:R (.ret (iv (idxS l s 0))) σ):acall TP Qaq [u,str s] σ R:=by
 refine QbY ?_
 unfold QaL x246;dsimp only [den,dE,di,tupL,lTup,dwat,Qe,List.map,Option.map,den0,den1,den2,den3,den4]
 simp only [hu.len,RR]
 refine QH (fun n x τ=>τ=σ∧∃i:Nat,x=(u,str s,iv (l.length:Int),iv (i:Int),())∧l.length - i=n∧i≤l.length∧idxS l s 0=idxS (l.drop i) s i) l.length ⟨rfl,0,rfl,by omega,by omega,by simp⟩ ?_
 rintro n x τ ⟨rfl,i,rfl,rfl,hi,hj⟩ R' hR'
 by_cases hlt:i<l.length
 ·have g:(i:Int)<(l.length:Int):=by omega
  rw [List.drop_eq_getElem_cons hlt,idxS] at hj
  obtain ⟨q,q1,q2⟩:=hu.at_ i hlt
  simp only [g,q1,q2,Jt,RR]
  by_cases c:s=l[i]
  ·rw [if_pos c] at hj
   rw [hj] at h
   have cd:decide (s=l[i])=true:=by simp [c]
   simp only [cd,RR]
   exact Qa h
  ·rw [if_neg c] at hj
   have cd:decide (s=l[i])=false:=by simp [c]
   simp only [cd,Qj hlt (by omega),RR]
   exact hR' _ _ (l.length - (i+1)) τ (by omega) (.refl _) ⟨rfl,i+1,rfl,rfl,hlt,hj⟩
 ·have g:¬(i:Int)<(l.length:Int):=by omega
  obtain rfl:i=l.length:=by omega
  rw [List.drop_length,idxS] at hj
  rw [hj] at h
  simp only [g,RR]
  exact Qa h
theorem Qko {u:AV} {l:List ByteArray} {s:ByteArray} (hu:RdN σ u l) (hl:l.length≤1000000) (h:R (.ret (bv (inL l s))) σ):acall TP UT [u,str s] σ R:=by
 refine QaK ?_
 unfold UZ x245;dsimp only [den,dE,di,tupL,lTup,dwat,Qe,List.map,Option.map,den0,den1,den2,den3,den4]
 refine QnM hu hl ?_
 simp only [RR,QrU]
 exact Qa h
def nmsV (o:Option (List ByteArray)):AV:=match o with
 |none=> .tup [roS [],bv false]
 |some ns=> .tup [roS ns,bv true]
structure RdK (τ:AH) (u:AV) (ks:List Nat):Prop where
 len:lenS u=some (iv (ks.length:Int))
 at_:∀j (h:j<ks.length),∃p,idx 1 u (iv (j:Int)) τ=some p∧lod p τ=some (iv (ks[j]:Nat))
theorem RdK.mono {u:AV} {ks:List Nat} (h:RdK τ u ks) (hs:AH.Sub τ τ'):RdK τ' u ks:=⟨h.len,fun j hj=>by
 obtain ⟨p,h1,h2⟩:=h.at_ j hj
 exact ⟨p,QlE hs h1,Jr hs h2⟩⟩
theorem RdK.ro {ks:List Nat}:RdK τ (roK ks) ks:=⟨lenK,fun j hj=>⟨_,Q1 hj,by rw [Qv];simp [List.getD,hj]⟩⟩
theorem RdK.buf {u:AV} {ks:List Nat} (h:Buf τ 1 u (innK ks)):RdK τ u ks:=by
 have hb:=h.bfj
 refine ⟨by have:=hb.len;rwa [List.length_map] at this,fun j hj=>?_⟩
 obtain ⟨φt,st,t1,t2⟩:=hb.at (i:=j) (by simpa using hj)
 exact ⟨_,t1,t2 0 (iv (ks[j]:Nat)) (by rw [List.getElem_map];rfl)⟩
theorem U3 {ks:List Nat} {u0:AV} (hu0:RdK τ u0 ks) (e0:lod (.ptr φm 0 0 0) τ=some (roD ds)) (hks:∀k,k∈ks→k<ds.length) (hl:ks.length≤1000) (h:R (.ret (nmsV (JT ds ks []))) τ):acall TP Qbi [.ptr φm 0 0 0,u0] τ R:=by
 refine QeY ?_
 unfold QbZ x247;dsimp only [den,dE,di,tupL,lTup,dwat,Qe,List.map,Option.map,den0,den1,den2,den3,den4]
 refine bsl0 ?_
 simp only [hu0.len,RR]
 refine QH (fun n y τ1=>∃(j:Nat) (u:AV) (ns:List ByteArray),y=(.ptr φm 0 0 0,u,u0,iv (ks.length:Int),iv (j:Int),())∧Buf τ1 1 u (ns.map fun s=>[str s])∧AH.Sub τ τ1∧(∀ψ,ψ∈famL u→τ ψ=none)∧ks.length - j=n∧j≤ks.length∧ns.length=j∧JT ds (ks.drop j) ns=JT ds ks []) ks.length
  ⟨0,.emp,[],rfl,Qap,.refl _,(fun ψ c=>by cases c),by omega,by omega,rfl,rfl⟩ ?_
 rintro n y τ1 ⟨j,u,ns,rfl,hB,hs,hf,rfl,hj,hnl,e⟩ R' hR'
 by_cases c:j<ks.length
 ·have g:(j:Int)<(ks.length:Int):=by omega
  have ej:ks[j]=ks.getD j 0:=by simp [List.getD,c]
  have hk:=hks _ (QD c)
  rw [List.drop_eq_getElem_cons c,JT,ej] at e
  obtain ⟨q,q1,q2⟩:=(hu0.mono hs).at_ j c
  rw [ej] at q2
  generalize ks.getD j 0=x at e hk ej q2
  have e1:=Jr hs e0
  have l0:∀τ,lod (.rop (Qc (dat ds x)) 0) τ=some (iv (dat ds x).kind):=fun _=>rfl
  have l3:∀τ,lod (.rop (Qc (dat ds x)) 3) τ=some (str (dat ds x).name):=fun _=>rfl
  simp only [g,q1,q2,e1,Qu hk Qk,QY hk,Qs (Qk _),RR]
  intro φ hφ
  refine QG (es:=[[iv 0,iv 0,iv 0,str ⟨#[]⟩]]) (cs:=Qc (dat ds x)) (AH.set_same ..) (by simp) rfl rfl rfl (Q3 _) ?_
  simp only [List.set_cons_zero,AH.set_set]
  refine UC (P:=fun z τ2=>τ2=τ1∧z=(.ptr φm 0 0 0,u,.rop (Qc (dat ds x)) 0,u0,iv (ks.length:Int),iv (j:Int),bv (badP ds x ns),())) ?_ ?_
  ·rintro z τ2 ⟨rfl,rfl⟩
   cases hb:badP ds x ns with
   |true=>
    rw [if_pos hb] at e
    rw [←e] at h
    simp only [RR]
    refine QU (a':=nmsV none) hs (.tup rfl fun j hj=>?_) h
    match j,hj with
    |0,_=>exact .nil
    |1,_=>exact .same _
   |false=>
    rw [if_neg (by rw [hb];decide)] at e
    simp only [l3,RR]
    refine QbJ (row:=[str (dat ds x).name]) hB aft1 (by omega) rfl Qmt (by simp;omega) fun u' τ3 hB' hK hfam=>?_
    simp only [Qj c (by omega),RR]
    exact hR' _ _ (ks.length - (j+1)) τ3 (by omega) (.refl _) ⟨j+1,u',ns++[(dat ds x).name],rfl,by simpa using hB',hK.sub hs hf,(fun ψ hψ=>(hfam ψ hψ).elim (hf ψ) fun d=>hs.none d),rfl,c,by simp;omega,e⟩
  ·intro k hk'
   refine QI hφ rfl ?_
   by_cases c3:(dat ds x).kind=3
   ·simp only [l0,l3,c3,RR]
    refine QbK ?_
    cases ck:kwB (dat ds x).name with
    |true=>
     simp only [RR]
     exact hk' _ _ ⟨rfl,by simp [badP,ck];rfl⟩
    |false=>
     simp only [RR]
     refine Qko (RdN.buf hB) (by omega) ?_
     simp only [RR]
     exact hk' _ _ ⟨rfl,by simp [badP,ck,c3];rfl⟩
   ·simp only [l0,c3,RR]
    exact hk' _ _ ⟨rfl,by simp [badP,c3];rfl⟩
 ·have g:¬(j:Int)<(ks.length:Int):=by omega
  obtain rfl:j=ks.length:=by omega
  rw [List.drop_length,JT] at e
  rw [←e] at h
  simp only [g,RR]
  refine QU (a':=nmsV (some ns)) hs (.tup rfl fun j hj=>?_) h
  match j,hj with
  |0,_=>exact UL hB hf rfl (by intro c hc;obtain ⟨o,_,rfl⟩:=List.mem_map.1 hc;rfl) fun _ _ _ _=> .same _
  |1,_=>exact .same _
abbrev roSc (sc:Sco):AV:= .ro (sc.reverse.map fun ns=>[roS ns])
theorem Qz0 {sc:Sco} {j:Nat} (h:j<sc.length):idx 1 (roSc sc) (iv ((sc.length - 1 - j:Nat):Int)) τ=some (.rop [roS sc[j]] 0):=by
 have hl:sc.length - 1 - j<sc.reverse.length:=by simp;omega
 have:=Qu (σ:=τ) (enc:=fun ns:List ByteArray=>[roS ns]) hl (sz:=1) fun _=>rfl
 rw [this,List.getElem_reverse]
 have e:sc.length - 1 - (sc.length - 1 - j)=j:=by omega
 simp only [e]
theorem QsO (s:ByteArray) (sc:Sco) (j:Nat) (h:j<sc.length):Jv (sc.drop j) s=match posL sc[j] s with
  |some b=>some (0,b)
  |none=>(Jv (sc.drop (j+1)) s).map fun p=>(p.1+1,p.2):=by
 rw [List.drop_eq_getElem_cons h,Jv]
 cases posL sc[j] s<;>rfl
theorem QlB {sc:Sco} {s:ByteArray} (hl:sc.length≤1000) (hsm:∀ns,ns∈sc→ns.length≤1000) (h:R (.ret (fndV (Jv sc s))) σ):acall TP Qjo [roSc sc,str s] σ R:=by
 refine Qoh ?_
 unfold Qlv x225;dsimp only [den,dE,di,tupL,lTup,dwat,Qe,List.map,Option.map,den0,den1,den2,den3,den4]
 have hlen:lenS (roSc sc)=some (iv (sc.length:Int)):=by rw [QB];simp
 simp only [hlen,RR]
 refine QH (fun n x τ=>τ=σ∧∃j:Nat,x=(roSc sc,str s,iv (sc.length:Int),iv (j:Int),())∧sc.length - j=n∧j≤sc.length∧shF j (Jv (sc.drop j) s)=Jv sc s) sc.length ⟨rfl,0,rfl,by omega,by omega,by simp only [List.drop_zero];cases Jv sc s<;>rfl⟩ ?_
 rintro n x τ ⟨rfl,j,rfl,rfl,hj,e⟩ R' hR'
 by_cases c:j<sc.length
 ·have g:(j:Int)<(sc.length:Int):=by omega
  rw [QsO s sc j c] at e
  have s1:ibin .sub (iv (sc.length:Int)) (.val (.int .i64 1))=some (iv ((sc.length:Int) - 1)):=QR (by omega) (by omega)
  have s2:ibin .sub (iv ((sc.length:Int) - 1)) (iv (j:Int))=some (iv ((sc.length - 1 - j:Nat):Int)):=by rw [QR (by omega) (by omega)];congr 3;omega
  simp only [g,hlen,s1,s2,Qz0 c,Qv,RR]
  refine Qdn (Nat.le_trans (hsm _ (List.getElem_mem c)) (by omega)) ?_
  have ip:=QvK s sc[j] 0
  cases hp:posL sc[j] s with
  |some b=>
   rw [hp] at e ip
   simp only [shF,Option.map_some,Nat.zero_add] at e
   rw [←e] at h
   dsimp only [Nat.add_zero] at ip
   rw [ip]
   have g0:(0:Int)≤(b:Int):=Int.natCast_nonneg b
   simp only [g0,RR]
   exact Qa h
  |none=>
   rw [hp] at e ip
   dsimp only at e ip
   rw [ip]
   have g0:¬(0:Int)≤ -1:=by omega
   simp only [g0,Qj c (by omega),RR]
   refine hR' _ _ (sc.length - (j+1)) τ (by omega) (.refl _) ⟨rfl,j+1,rfl,rfl,c,?_⟩
   rw [←e]
   unfold shF
   rw [Option.map_map]
   congr 1
   funext p
   show (p.1+(j+1),p.2)=(p.1+1+j,p.2)
   congr 1;omega
 ·have g:¬(j:Int)<(sc.length:Int):=by omega
  obtain rfl:j=sc.length:=by omega
  rw [List.drop_length] at e
  simp only [Jv,shF,Option.map_none] at e
  rw [←e] at h
  simp only [g,RR]
  exact Qa h
theorem QvM:isSl TT Qy2=true:=by kernel_rfl
theorem Qkp {sc:Sco} {ns:List ByteArray} (hl:sc.length≤1000) (h:R (.ret (roSc (ns::sc))) σ):acall TP Qiu [roSc sc,roS ns] σ R:=by
 refine Qnc ?_
 unfold QjZ x248;dsimp only [den,dE,di,tupL,lTup,dwat,Qe,List.map,Option.map,den0,den1,den2,den3,den4]
 have rest:∀u τ,Buf τ 1 u (sc.reverse.map fun ns=>[roS ns])→AH.Sub σ τ→(∀ψ,ψ∈famL u→σ ψ=none)→bsl 1 [(.val (.slice none 0 0))] 1 [(0,roS ns)] τ fun v8 τ=>E.app 1 u v8 τ fun v9 τ=>aret v9 τ R:=fun u τ hB hs hf=>by
  refine QbJ (row:=[roS ns]) hB rfl (by omega) rfl (fun y hy=>by obtain rfl:=List.mem_singleton.1 hy;rfl) (by simp;omega) fun u' τ' hB' hK hfam=>?_
  refine QU (hK.sub hs hf) (UL hB' (fun ψ hψ=>(hfam ψ hψ).elim (hf ψ) fun d=>hs.none d) rfl (by intro c hc;rcases List.mem_append.1 hc with hc|hc;(obtain ⟨o,_,rfl⟩:=List.mem_map.1 hc;rfl);(obtain rfl:=List.mem_singleton.1 hc;rfl)) fun _ _ _ _=> .same _) ?_
  have e:(sc.reverse.map fun ns=>[roS ns])++[[roS ns]]=((ns::sc).reverse.map fun ns=>[roS ns]):=by simp
  rw [e];exact h
 refine Qho ?_
 unfold Qdh x254;dsimp only [den,dE,di,tupL,lTup,dwat,Qe,List.map,Option.map,den0,den1,den2,den3,den4]
 refine QtF QvM fun b hb=>?_
 cases b with
 |true=>
  have e:sc=[]:=by
   refine Classical.byContradiction fun c=>?_
   have:=hb (by simpa using c)
   cases this
  subst e
  simp only [RR]
  refine Qa ?_
  simp only [RR]
  exact rest _ σ (.inl ⟨.inl rfl,rfl⟩) (.refl σ) fun ψ c=>by cases c
 |false=>
  simp only [RR]
  refine bsl0 ?_
  refine Ud (es:=[]) (.inl ⟨.inr rfl,rfl⟩) (xs:=sc.reverse.map fun ns=>[roS ns]) rfl (by intro c hc;obtain ⟨x,_,rfl⟩:=List.mem_map.1 hc;rfl) (by intro c hc y hy;obtain ⟨x,_,rfl⟩:=List.mem_map.1 hc;obtain rfl:=List.mem_singleton.1 hy;rfl) (by simp;omega) fun a τ' h1 h2 h3=>?_
  refine Qa ?_
  simp only [RR]
  exact rest a τ' (by simpa using h1) (h2.sub (.refl σ) fun ψ c=>by cases c) fun ψ hψ=>(h3 ψ hψ).elim (fun c=>by cases c) id
def fdQ (ds:List Dat) (C:List Cor):List Fd:=[.fix (roD ds),.lst 6 (C.map Qr)]
theorem QO {c:Cor} (h:MSt σ τ φm (fdQ ds C)) (hn:C.length≤1000) (h1:∀τ',MSt σ τ' φm (fdQ ds (C++[c]))→R (.ret (iv (C.length:Int))) τ'):acall TP Un [.ptr φm 0 0 0,.agg (Qr c)] τ R:=by
 refine Qgn ?_
 unfold QcC x222;dsimp only [den,dE,di,tupL,lTup,dwat,Qe,List.map,Option.map,den0,den1,den2,den3,den4]
 refine UX rfl ?_
 obtain ⟨v,e1,b1⟩:=h.lst (i:=1) rfl
 simp only [e1,Qs (UJ _),RR]
 rw [lit1 (sz:=6) (row:=Qr c) rfl rfl (by omega)]
 simp only [RR]
 refine h.app (i:=1) rfl e1 (row:=Qr c) rfl rfl (QdZ _) (by simp;omega) fun v' τ1 k1=>?_
 simp only [RR,true_and]
 refine k1 _ fun τ2 S2=>?_
 have ef:(fdQ ds C).set 1 (.lst 6 (C.map Qr++[Qr c]))=fdQ ds (C++[c]):=by simp [fdQ]
 rw [ef] at S2
 obtain ⟨v2,e2,b2⟩:=S2.lst (i:=1) rfl
 have l2:=Jo b2
 have hl:(C++[c]).length=C.length+1:=by simp
 have es:ibin .sub (iv (((C++[c]).length:Nat):Int)) (.val (.int .i64 1))=some (iv (C.length:Int)):=by
  rw [Uu (by omega) (by omega),hl];rfl
 simp only [e2,l2,es,RR,true_and]
 exact Qa (h1 τ2 S2)
end
end Go.Proofs.YtggnjjalfnhiiaaGreatDoor.E
/- Forms that are expanded to cores: the program's way. -/
namespace Go.Proofs.YtggnjjalfnhiiaaGreatDoor.E
open Go Go.RowKit
set_option maxRecDepth 100000
variable [L:Lam]
variable {σ σ1 τ τ':AH} {R:AEnd→AH→Prop}
theorem MSt.base {φm:Nat} {fd:List Fd} {τ1:AH} (h:MSt σ τ φm fd) (hs:AH.Sub τ τ1):∃σ1,MSt σ1 τ1 φm fd∧AH.Sub σ σ1∧∀ψ,τ ψ=none→σ1 ψ=τ1 ψ:=by
 classical
 refine ⟨fun ψ=>if τ ψ=none then τ1 ψ else σ ψ,h.keep (fun ψ hn hc=>?_) (fun hn=>?_) fun ψ F hF=>?_,fun ψ F hF=>?_,fun ψ hψ=>by simp [hψ]⟩
 ·have hk:τ1 ψ=τ ψ:=by
   cases e:τ ψ with
   |none=>exact absurd e hn
   |some F=>exact hs _ _ e
  refine ⟨?_,hk⟩
  show (if τ ψ=none then τ1 ψ else σ ψ)=none
  rw [if_neg hn]
  rcases hc with rfl|hc
  ·exact h.fr
  ·exact hc
 ·have hk:τ1 φm=τ φm:=by
   cases e:τ φm with
   |none=>exact absurd e hn
   |some F=>exact hs _ _ e
  refine ⟨?_,hk⟩
  show (if τ φm=none then τ1 φm else σ φm)=none
  rw [if_neg hn];exact h.fr
 ·have hF:(if τ ψ=none then τ1 ψ else σ ψ)=some F:=hF
  split at hF
  ·exact hF
  ·exact hs _ _ (h.sub _ _ hF)
 ·have:τ ψ=some F:=h.sub _ _ hF
  show (if τ ψ=none then τ1 ψ else σ ψ)=some F
  rw [if_neg (by rw [this];simp)];exact hF
section
variable {ds:List Dat} {φm f:Nat} {C:List Cor}
def EndQ (σ:AH) (φm:Nat) (ds:List Dat) (E:Ex) (R:AEnd→AH→Prop):Prop:=(E.2=0→∀τ',MSt σ τ' φm (fdQ ds E.1)→R (.ret (.tup [])) τ')∧(E.2≠0→R (.pan (flt E.2)) σ)
theorem EndQ.step {E:Ex} {k:AV→AH→Prop} (h:E.2≠0→R (.pan (flt E.2)) σ) (hs:AH.Sub σ σ1) (hk:E.2=0→∀τ',MSt σ1 τ' φm (fdQ ds E.1)→k (.tup []) τ'):EndQ σ1 φm ds E (onr k fun v σ=>apan v σ R):=
 ⟨fun h0 τ' S=>hk h0 τ' S,fun h0=>QcH hs (h h0)⟩
theorem EndQ.tail {E:Ex} (h:EndQ σ φm ds E R) (hs:AH.Sub σ σ1):EndQ σ1 φm ds E (onr (fun _ σ=>aret (.tup []) σ R) fun v σ=>apan v σ R):=
 .step h.2 hs fun h0 τ' S=>Qa (h.1 h0 τ' (S.drop hs))
theorem EndQ.bad {e:Int} {D:List Cor} (h:EndQ σ φm ds (D,e) R) (he:e≠0):R (.pan (flt e)) σ:=h.2 he
theorem EndQ.ok {D:List Cor} (h:EndQ σ φm ds (D,0) R) (S:MSt σ τ φm (fdQ ds D)):R (.ret (.tup [])) τ:=h.1 rfl τ S
theorem QQ {b:Bool} {c:Int} {K:AV→AH→Prop} (hs:AH.Sub σ τ) (h:b=true→R (.pan (flt c)) σ) (hk:b=false→K (.tup []) τ):acall TP QaU [bv b,iv c] τ (onr K fun v σ=>apan v σ R):=
 Qal (fun e=>hk e) fun e=>QcH hs (h e)
def ExpQ (ds:List Dat) (f φm:Nat):Prop:=∀(σ:AH) (x:Nat) (p:Int) (sc:Sco) (C:List Cor) (τ:AH) (R:AEnd→AH→Prop),x<ds.length→ds.length≤f+x→((p= -1∧sc=[])∨0≤p)→MSt σ τ φm (fdQ ds C)→(∀ns,ns∈sc→ns.length≤3)→C.length+2*nv ds x≤400→sc.length+nv ds x≤400→
 EndQ σ φm ds (expE ds f x p sc C) R→acall TP J8 [.ptr φm 0 0 0,iv (x:Int),iv p,roSc sc] τ R
theorem Qar (hd:DOk ds) (hE:ExpQ ds f φm) {ks:List Nat} {p:Int} {sc:Sco} (hp:0≤p) (hks:∀k,k∈ks→k<ds.length∧ds.length≤f+k) (h:MSt σ τ φm (fdQ ds C)) (hsc:∀ns,ns∈sc→ns.length≤3) (hC:C.length+2*nvK ds ks≤400) (hn:sc.length+nvK ds ks≤400)
  (h1:EndQ σ φm ds (allE (fun k C'=>expE ds f k p sc C') ks C) R):acall TP Qaa [.ptr φm 0 0 0,iv p,roK ks,roSc sc] τ R:=by
 refine Qgo ?_
 unfold QcD x227;dsimp only [den,dE,di,tupL,lTup,dwat,Qe,List.map,Option.map,den0,den1,den2,den3,den4]
 have hln:=QhC (ds:=ds) ks
 simp only [lenK,RR]
 refine QH (fun n x τ'=>∃(j:Nat) (C1:List Cor),x=(.ptr φm 0 0 0,iv p,roSc sc,roK ks,iv (ks.length:Int),iv (j:Int),())∧MSt σ τ' φm (fdQ ds C1)∧ks.length - j=n∧j≤ks.length∧C1.length≤C.length+2*nvK ds (ks.take j)∧
  allE (fun k C'=>expE ds f k p sc C') (ks.drop j) C1=allE (fun k C'=>expE ds f k p sc C') ks C) ks.length ⟨0,C,rfl,h,by omega,by omega,by simp,rfl⟩ ?_
 rintro n x τ' ⟨j,C1,rfl,S,rfl,hj,hCl,e⟩ R' hR'
 by_cases c:j<ks.length
 ·have g:(j:Int)<(ks.length:Int):=by omega
  have hm:=hks _ (QD c)
  have ev:=Qb2 (ds:=ds) c
  have ej:ks[j]=ks.getD j 0:=by simp [List.getD,c]
  rw [List.drop_eq_getElem_cons c,allE,ej] at e
  simp only [g,Q1 c,Qv,RR]
  have hle:=Qe6 hd f (ks.getD j 0) p sc C1 hm.1
  refine hE σ _ p sc C1 τ' _ hm.1 hm.2 (.inr hp) S hsc (by omega) (by omega) (.step (fun c2=>?_) (.refl _) fun c2 τ2 S2=>?_)
  ·rw [if_pos (by simpa using c2)] at e
   rw [←e] at h1
   exact h1.2 c2
  ·rw [if_neg (by simpa using c2)] at e
   simp only [Qj c (by omega),RR]
   have et:nvK ds (ks.take (j+1))=nvK ds (ks.take j)+nv ds (ks.getD j 0):=by
    rw [List.take_succ_eq_append_getElem c,QhA,ej];simp [nvK]
   exact hR' _ _ (ks.length - (j+1)) τ2 (by omega) (.refl _) ⟨j+1,_,rfl,S2,rfl,c,by omega,e⟩
 ·have g:¬(j:Int)<(ks.length:Int):=by omega
  obtain rfl:j=ks.length:=by omega
  rw [List.drop_length,allE] at e
  rw [←e] at h1
  simp only [g,RR]
  exact Qa (h1.ok S)
section
variable {ks:List Nat} {p:Int} {sc:Sco}
theorem Qt4 (h:1≤ks.length):lenS (roK (ks.drop 1))=some (iv ((ks.length - 1:Nat):Int)):=by rw [lenK,List.length_drop]
theorem QnN {j:Nat} (h:j+1<ks.length):idx 1 (roK (ks.drop 1)) (iv (j:Int)) τ=some (.rop [iv ((ks.getD (j+1) 0:Nat):Int)] 0):=by
 have:=Q1 (σ:=τ) (ks:=ks.drop 1) (j:=j) (by rw [List.length_drop];omega)
 rw [this]
 simp [List.getD,Nat.add_comm]
theorem Qef {o:Option (List ByteArray)}:aext (nmsV o) 0=some (roS (o.getD []))∧aext (nmsV o) 1=some (bv o.isSome):=by cases o<;>exact ⟨rfl,rfl⟩
theorem Qmv (h:ks.length=3):nv ds (ks.getD 1 0)+nv ds (ks.getD 2 0)+1≤nvK ds ks:=by
 have o1:=Qb2 (ds:=ds) (ks:=ks) (j:=1) (by omega)
 have o3:=Qao (ds:=ds) (ks:=ks.drop 2) (j:=0) (by rw [List.length_drop];omega)
 have e2:(ks.drop 2).getD 0 0=ks.getD 2 0:=by simp [List.getD]
 have o4:=QhC (ds:=ds) (ks.take 1)
 rw [e2] at o3
 rw [List.length_take] at o4
 simp only [Nat.reduceAdd] at o1
 omega
set_option maxHeartbeats 400000 in
theorem Qja (hl:DLs ds) (hd:DOk ds) (hE:ExpQ ds f φm) (h0:1≤ks.length) (hks:∀k,k∈ks→k<ds.length∧ds.length≤f+k) (h:MSt σ τ φm (fdQ ds C)) (hsc:∀ns,ns∈sc→ns.length≤3) (hC:C.length+2*nvK ds ks+2≤400) (hn:sc.length+nvK ds ks≤400)
  (h1:EndQ σ φm ds (letE ds (expE ds f) ks p sc C) R):acall TP Qcm [.ptr φm 0 0 0,roK (ks.drop 1),iv p,roSc sc] τ R:=by
 refine Qgp ?_
 unfold QcE x249;dsimp only [den,dE,di,tupL,lTup,dwat,Qe,List.map,Option.map,den0,den1,den2,den3,den4]
 unfold letE at h1
 have hdl:=hd.len
 have e0:lod (.ptr φm 0 0 0) τ=some (roD ds):=h.fix rfl
 simp only [Qt4 h0,RR]
 by_cases c3:ks.length=3
 case neg=>
  rw [if_pos (.inl c3)] at h1
  have g3:¬((ks.length - 1:Nat):Int)=2:=by omega
  simp only [g3,RR]
  exact QQ h.sub (fun _=>h1.bad (by decide)) fun c=>by cases c
 have g3:((ks.length - 1:Nat):Int)=2:=by omega
 have hm1:=hks _ (QD (ks:=ks) (j:=1) (by omega))
 have hm2:=hks _ (QD (ks:=ks) (j:=2) (by omega))
 have x1:∀τ,idx 1 (roK (ks.drop 1)) (.val (.int .i64 0)) τ=some (.rop [iv ((ks.getD 1 0:Nat):Int)] 0):=fun τ=>QnN (j:=0) (by omega)
 have x2:∀τ,idx 1 (roK (ks.drop 1)) (.val (.int .i64 1)) τ=some (.rop [iv ((ks.getD 2 0:Nat):Int)] 0):=fun τ=>QnN (j:=1) (by omega)
 have o1:=Qmv (ds:=ds) c3
 have he1:=Qgd hd hm1.1
 have l0:∀τ y,lod (.rop (Qc (dat ds y)) 0) τ=some (iv (dat ds y).kind):=fun _ _=>rfl
 by_cases c4:(dat ds (ks.getD 1 0)).kind=4
 case neg=>
  rw [if_pos (.inr c4)] at h1
  simp only [g3,x1,Qv,e0,Qu hm1.1 Qk,QY hm1.1,l0,c4,RR]
  exact QQ h.sub (fun _=>h1.bad (by decide)) fun c=>by cases c
 rw [if_neg (by rintro (k|k);exact k c3;exact k c4)] at h1
 simp only [g3,x1,Qv,e0,Qu hm1.1 Qk,QY hm1.1,l0,c4,RR]
 refine QQ h.sub (fun c=>by cases c) fun _=>?_
 simp only [RR,true_and]
 refine bsl0 (bsl0 ?_)
 simp only [x1,Qv,e0,RR]
 refine Qcw (by omega) ?_
 simp only [lenK,RR,true_and]
 have hkl:=Qig (ds:=ds) (ks.getD 1 0)
 have hkm:∀k,k∈Qf ds (ks.getD 1 0)→k<ds.length∧ks.getD 1 0<k:=fun k hk=>⟨(hd.kid hk).2,(hd.kid hk).1⟩
 have le:=QyL (ds:=ds) (Qf ds (ks.getD 1 0)) [] []
 rw [le] at h1
 generalize Qf ds (ks.getD 1 0)=lst at h1 hkl hkm he1 le ⊢
 refine QH (fun n x τ'=>∃(j:Nat) (u v:AV),x=(.ptr φm 0 0 0,roK (ks.drop 1),iv p,roSc sc,u,v,roK lst,iv (lst.length:Int),iv (j:Int),())∧AH.Sub τ τ'∧Buf τ' 1 u (innK ((lst.take j).map fun k=>(Qf ds k).getD 0 0))∧(∀ψ,ψ∈famL u→τ ψ=none)∧Buf τ' 1 v (innK ((lst.take j).map fun k=>(Qf ds k).getD 1 0))∧(∀ψ,ψ∈famL v→τ ψ=none)∧(∀ψ,ψ∈famL u→ψ∉famL v)∧
   lst.length - j=n∧j≤lst.length∧∀k,k∈lst.take j→(Qf ds k).length=2) lst.length
  ⟨0,.emp,.emp,rfl,.refl τ,Qap,(fun ψ c=>by cases c),Qap,(fun ψ c=>by cases c),(fun ψ c=>by cases c),by omega,by omega,fun k hk=>by simp at hk⟩ ?_
 rintro n x τ1 ⟨j,u,v,rfl,hs,hB,hf,hBv,hfv,hdj,rfl,hj,h2⟩ R' hR'
 have e0':=Jr hs e0
 by_cases c:j<lst.length
 ·have g:(j:Int)<(lst.length:Int):=by omega
  have ej:lst[j]=lst.getD j 0:=by simp [List.getD,c]
  have hmem:=QD (ks:=lst) c
  have hk:=hkm _ hmem
  simp only [g,Q1 c,Qv,e0',RR]
  refine Qcw (by omega) ?_
  simp only [e0',Qu hk.1 Qk,QY hk.1,l0,lenK,List.length_map,RR]
  by_cases c2:(Qf ds (lst.getD j 0)).length=2
  ·have g2:((Qf ds (lst.getD j 0)).length:Int)=2:=by omega
   have k4:(dat ds (lst.getD j 0)).kind=4:=Qt3 hl hd (QD (ks:=Qf ds (lst.getD j 0)) (j:=0) (by omega))
   have y0:∀τ,idx 1 (roK (Qf ds (lst.getD j 0))) (.val (.int .i64 0)) τ=some (.rop [iv (((Qf ds (lst.getD j 0)).getD 0 0:Nat):Int)] 0):=fun τ=>Q1 (j:=0) (by omega)
   have y1:∀τ,idx 1 (roK (Qf ds (lst.getD j 0))) (.val (.int .i64 1)) τ=some (.rop [iv (((Qf ds (lst.getD j 0)).getD 1 0:Nat):Int)] 0):=fun τ=>Q1 (j:=1) (by omega)
   simp only [lenK,g2,k4,RR]
   refine QQ (h.sub.trans hs) (fun c=>by cases c) fun _=>?_
   simp only [y0,y1,Qv,litI,RR]
   have hln:∀(q:Nat→Nat),((lst.take j).map q).length=j:=fun q=>by rw [List.length_map,List.length_take];omega
   refine Ud hB (xs:=[[iv (((Qf ds (lst.getD j 0)).getD 0 0:Nat):Int)]]) rfl (by intro c hc;obtain rfl:=List.mem_singleton.1 hc;rfl) (by intro c hc y hy;obtain rfl:=List.mem_singleton.1 hc;obtain rfl:=List.mem_singleton.1 hy;rfl) (by rw [List.length_map,hln];simp;omega) fun u' τ2 hB2 hK hfam=>?_
   have hBv2:Buf τ2 1 v (innK ((lst.take j).map fun k=>(Qf ds k).getD 1 0)):=hBv.up fun ψ hψ=>by
    obtain ⟨F,hF⟩:=hBv.live hψ
    exact hK ψ (fun c=>hdj ψ c hψ) (by rw [hF];simp)
   have hdj2:∀ψ,ψ∈famL u'→ψ∉famL v:=fun ψ a b=>by
    rcases hfam ψ a with q|q
    ·exact hdj ψ q b
    ·obtain ⟨F,hF⟩:=hBv.live b;rw [q] at hF;cases hF
   have hs2:AH.Sub τ τ2:=hK.sub hs hf
   have hf2:∀ψ,ψ∈famL u'→τ ψ=none:=fun ψ hψ=>(hfam ψ hψ).elim (hf ψ) fun d=>hs.none d
   simp only [y1,Qv,true_and,and_true]
   refine Ud hBv2 (xs:=[[iv (((Qf ds (lst.getD j 0)).getD 1 0:Nat):Int)]]) rfl (by intro c hc;obtain rfl:=List.mem_singleton.1 hc;rfl) (by intro c hc y hy;obtain rfl:=List.mem_singleton.1 hc;obtain rfl:=List.mem_singleton.1 hy;rfl) (by rw [List.length_map,hln];simp;omega) fun v' τ3 hB3 hK3 hfam3=>?_
   have hB2':Buf τ3 1 u' (innK ((lst.take j).map fun k=>(Qf ds k).getD 0 0)++[[iv (((Qf ds (lst.getD j 0)).getD 0 0:Nat):Int)]]):=hB2.up fun ψ hψ=>by
    obtain ⟨F,hF⟩:=hB2.live hψ
    exact hK3 ψ (hdj2 ψ hψ) (by rw [hF];simp)
   have et:∀q:Nat→Nat,innK ((lst.take (j+1)).map q)=innK ((lst.take j).map q)++[[iv ((q (lst.getD j 0):Nat):Int)]]:=fun q=>by
    rw [List.take_succ_eq_append_getElem c,ej];simp [innK]
   simp only [Qj c (by omega),RR]
   refine hR' _ _ (lst.length - (j+1)) τ3 (by omega) (.refl _) ⟨j+1,u',v',rfl,hK3.sub hs2 hfv,by rw [et];exact hB2',hf2,by rw [et];exact hB3,(fun ψ hψ=>(hfam3 ψ hψ).elim (hfv ψ) fun d=>hs2.none d),fun ψ a b=>?_,rfl,c,fun k hk=>?_⟩
   ·rcases hfam3 ψ b with q|q
    ·exact hdj2 ψ a q
    ·obtain ⟨F,hF⟩:=hB2.live a;rw [q] at hF;cases hF
   ·rw [List.take_succ_eq_append_getElem c,ej] at hk
    rcases List.mem_append.1 hk with hk|hk
    ·exact h2 k hk
    ·obtain rfl:=List.mem_singleton.1 hk;exact c2
  ·have g2:¬((Qf ds (lst.getD j 0)).length:Int)=2:=by omega
   rw [if_neg (fun k=>c2 (k _ hmem))] at h1
   by_cases k4:(dat ds (lst.getD j 0)).kind=4
   ·simp only [lenK,g2,k4,RR]
    exact QQ (h.sub.trans hs) (fun _=>h1.bad (by decide)) fun c=>by cases c
   ·simp only [k4,RR]
    exact QQ (h.sub.trans hs) (fun _=>h1.bad (by decide)) fun c=>by cases c
 ·have g:¬(j:Int)<(lst.length:Int):=by omega
  obtain rfl:j=lst.length:=by omega
  rw [List.take_length] at h2 hB hBv
  rw [if_pos h2] at h1 le
  simp only [g,RR]
  have hvk:∀k,k∈(lst.map fun k=>(Qf ds k).getD 0 0)→k<ds.length:=fun k hk=>by
   obtain ⟨y,hy,rfl⟩:=List.mem_map.1 hk
   exact (hd.kid (QD (ks:=Qf ds y) (j:=0) (by have:=h2 y hy;omega))).2
  refine U3 (RdK.buf hB) e0' hvk (by rw [List.length_map];omega) ?_
  simp only [Qef.1,Qef.2,RR]
  cases hN:JT ds (lst.map fun k=>(Qf ds k).getD 0 0) [] with
  |none=>
   rw [hN] at h1
   simp only [Option.map_none] at h1
   exact QQ (h.sub.trans hs) (fun _=>h1.bad (by decide)) fun c=>by cases c
  |some ns=>
   rw [hN] at h1 le
   simp only [Option.map_some,List.nil_append] at h1 le
   have ll:=QoH hd _ _ _ _ _ (fun k hk=>(hkm k hk).1) le
   have e00:nvK ds []=0:=rfl
   refine QQ (h.sub.trans hs) (fun c=>by cases c) fun _=>?_
   simp only [Option.getD_some,Qie,RR]
   refine QQ (h.sub.trans hs) (fun c5=>?_) fun c5=>?_
   ·have c5:3<ns.length:=by have:decide ((3:Int)<(ns.length:Int))=true:=c5;simp at this;omega
    rw [if_pos c5] at h1
    exact h1.bad (by decide)
   have c5:¬3<ns.length:=by have:decide ((3:Int)<(ns.length:Int))=false:=c5;simp at this;omega
   rw [if_neg c5] at h1
   obtain ⟨σ1,S1,hs1,hb1⟩:=h.base hs
   have hBv1:Buf σ1 1 v (innK (lst.map fun k=>(Qf ds k).getD 1 0)):=hBv.up fun ψ hψ=>hb1 ψ (hfv ψ hψ)
   have hfv1:∀ψ,ψ∈famL v→σ ψ=none:=fun ψ hψ=>h.sub.none (hfv ψ hψ)
   generalize (lst.map fun k=>(Qf ds k).getD 1 0)=vs at h1 ll hBv1
   simp only [Qgf,RR]
   refine JS (nodC 9 p 0) rfl rfl ?_
   refine QO S1 (by omega) fun τ2 S2=>?_
   simp only [x2,Qv,bldC,Qie,RR]
   refine JS (nodC 5 (C.length:Int) ns.length) rfl rfl ?_
   refine QO S2 (by simp;omega) fun τ3 S3=>?_
   have hl1:(C++[nodC 9 p 0]).length=C.length+1:=by simp
   rw [hl1]
   simp only [x2,Qv,RR,true_and,and_true]
   have np1:=QhB (ds:=ds) (ks.getD 1 0)
   refine Qkp (by omega) ?_
   simp only [RR]
   have hle:=Qe6 hd f (ks.getD 2 0) ((C.length+1:Nat):Int) (ns::sc) (C++[nodC 9 p 0]++[nodC 5 (C.length:Int) ns.length]) hm2.1
   rw [List.length_append,List.length_append,List.length_singleton,List.length_singleton] at hle
   refine hE σ1 _ _ (ns::sc) _ τ3 _ hm2.1 hm2.2 (.inr (by omega)) S3 (fun q hq=>?_) (by rw [List.length_append,List.length_append,List.length_singleton,List.length_singleton];omega) (by rw [List.length_cons];omega) ?_
   ·rcases List.mem_cons.1 hq with rfl|hq
    ·omega
    ·exact hsc q hq
   generalize expE ds f (ks.getD 2 0) ((C.length+1:Nat):Int) (ns::sc) (C++[nodC 9 p 0]++[nodC 5 (C.length:Int) ns.length])=r at h1 hle ⊢
   refine .step (fun c6=>?_) hs1 fun c6 τ6 S6=>?_
   ·rw [if_pos (by simpa using c6)] at h1
    exact h1.2 c6
   rw [if_neg (by simpa using c6)] at h1
   obtain ⟨σ7,τ7,S7,hs7,hst7,hfz7,_⟩:=S6.give (sz2:=1) (b:= .emp) (fs:=[]) hs1 hBv1 hfv1 (by intro c hc;obtain ⟨x,_,rfl⟩:=List.mem_map.1 hc;rfl) Qap (fun ψ _ c=>by cases c)
   refine Ur (args':=[.ptr φm 0 0 0,iv (C.length:Int),roK vs,roSc sc]) hst7 rfl (fun i hi=>?_) ?_
   ·match i,hi with
    |0,_=>exact .same _
    |1,_=>exact .same _
    |2,_=>exact hfz7
    |3,_=>exact .same _
   refine Qar hd hE (Int.natCast_nonneg _) (fun k hk=>?_) (S7.drop hs7) hsc (by omega) (by omega) (h1.tail (.refl _))
   rcases ll.2 k hk with q|⟨q,w,q2,q3⟩
   ·cases q
   ·have:=hkm w q2
    exact ⟨q,by omega⟩
end
end
end Go.Proofs.YtggnjjalfnhiiaaGreatDoor.E
/- Forms that are expanded to cores: the program's way, the end of it. -/
namespace Go.Proofs.YtggnjjalfnhiiaaGreatDoor.E
open Go Go.RowKit
set_option maxRecDepth 100000
variable [L:Lam]
variable {σ σ1 τ τ':AH} {R:AEnd→AH→Prop}
theorem QyM {w:ByteArray} (h:kwB w=true) (c1:¬w=⟨#[113,117,111,116,101]⟩) (c2:¬w=⟨#[105,102]⟩) (c3:¬w=⟨#[98,101,103,105,110]⟩) (c4:¬w=⟨#[108,97,109,98,100,97]⟩) (c5:¬w=⟨#[108,101,116]⟩):w=⟨#[100,101,102,105,110,101]⟩∨w=⟨#[115,101,116,33]⟩:=by
 unfold kwB inL kws at h
 simp only [List.any_cons,List.any_nil,Bool.or_eq_true,decide_eq_true_iff,Bool.or_false] at h
 rcases h with h|h|h|h|h|h|h
 ·exact absurd h c1
 ·exact absurd h c2
 ·exact absurd h c4
 ·exact absurd h c5
 ·exact absurd h c3
 ·exact .inl h
 ·exact .inr h
section
variable {ds:List Dat} {φm f:Nat} {C:List Cor} {ks:List Nat} {p:Int} {sc:Sco}
theorem QyN (h:2≤ks.length):slc 1 (roK (ks.drop 1)) none (some (.val (.int .i64 1))) none τ=some (roK [ks.getD 1 0]):=by
 have hl:(ks.drop 1).length=ks.length - 1:=List.length_drop ..
 have e1:abd none 0=some 0:=rfl
 have e2:abd (some (.val (.int .i64 1))) ((ks.drop 1).map fun k:Nat=>[iv (k:Int)]).length=some 1:=rfl
 have e3:abd none ((ks.drop 1).map fun k:Nat=>[iv (k:Int)]).length=some ((ks.drop 1).map fun k:Nat=>[iv (k:Int)]).length:=rfl
 simp only [slc,e1,e2,e3]
 rw [if_pos ⟨by omega,by simp;omega,by simp,by simp,by rw [List.all_eq_true];intro c hc;obtain ⟨x,_,rfl⟩:=List.mem_map.1 hc;rfl⟩]
 match ks,h with
 |a::b::r,_=>rfl
theorem Qt5 {k:Nat}:JT ds [k] []=if badP ds k [] then none else some [(dat ds k).name]:=by
 rw [JT]
 split
 ·rfl
 ·rfl
set_option maxHeartbeats 1000000 in
theorem Qff (hl:DLs ds) (hd:DOk ds) (hE:ExpQ ds f φm) {w:ByteArray} (hw:kwB w=true) (hp:(p= -1∧sc=[])∨0≤p) (h0:1≤ks.length) (hks:∀k,k∈ks→k<ds.length∧ds.length≤f+k) (h:MSt σ τ φm (fdQ ds C)) (hsc:∀ns,ns∈sc→ns.length≤3) (hC:C.length+2*nvK ds ks+2≤400) (hn:sc.length+nvK ds ks≤400)
   (h1:EndQ σ φm ds (QaX ds (expE ds f) w ks p sc C) R):acall TP QaH [.ptr φm 0 0 0,str w,roK (ks.drop 1),iv p,roSc sc] τ R:=by
 refine Qdv ?_
 unfold Qa4 x226;dsimp only [den,dE,di,tupL,lTup,dwat,Qe,List.map,Option.map,den0,den1,den2,den3,den4]
 unfold QaX at h1
 have hdl:=hd.len
 have hnl:=QhC (ds:=ds) ks
 have e0:lod (.ptr φm 0 0 0) τ=some (roD ds):=h.fix rfl
 have hdr:=Qmr (ds:=ds) ks 1
 have l0:∀τ y,lod (.rop (Qc (dat ds y)) 0) τ=some (iv (dat ds y).kind):=fun _ _=>rfl
 simp only [Qt4 h0,Jt,RR]
 have x1:2≤ks.length→∀τ,idx 1 (roK (ks.drop 1)) (.val (.int .i64 0)) τ=some (.rop [iv ((ks.getD 1 0:Nat):Int)] 0):=fun h τ=>QnN (j:=0) (by omega)
 have x2:3≤ks.length→∀τ,idx 1 (roK (ks.drop 1)) (.val (.int .i64 1)) τ=some (.rop [iv ((ks.getD 2 0:Nat):Int)] 0):=fun h τ=>QnN (j:=1) (by omega)
 by_cases c1:w=⟨#[113,117,111,116,101]⟩
 · rw [if_pos c1] at h1
   simp only [c1,RR]
   by_cases c:ks.length=2
   · rw [if_neg (by simpa using c)] at h1
     have g:((ks.length - 1:Nat):Int)=1:=by omega
     have hm1:=hks _ (QD (ks:=ks) (j:=1) (by omega))
     simp only [g,RR]
     refine QQ h.sub (fun c=>by cases c) fun _=>?_
     simp only [e0,x1 (by omega),Qv,RR]
     refine QnL hl hd hm1.1 ?_
     simp only [QpK,RR,true_and]
     refine QO h (by omega) fun τ1 S1=>?_
     simp only [RR,true_and]
     exact Qa (h1.ok S1)
   · rw [if_pos (by simpa using c)] at h1
     have g:¬((ks.length - 1:Nat):Int)=1:=by omega
     simp only [g,RR]
     exact QQ h.sub (fun _=>h1.bad (by decide)) fun c=>by cases c
 rw [if_neg c1] at h1
 have go:∀k,EndQ σ φm ds (allE (fun k C'=>expE ds f k (C.length:Int) sc C') (ks.drop 1) (C++[nodC k p 0])) R→acall TP Un [.ptr φm 0 0 0,.agg [iv k,iv p,iv 0,iv 0,str ⟨#[]⟩,nilS]] τ (onr (fun v40 σ=>
       acall TP Qaa [.ptr φm 0 0 0,v40,roK (ks.drop 1),roSc sc] σ (onr (fun v42 σ=>
       aret (.tup []) σ R) (fun v σ=>apan v σ R))) (fun v σ=>apan v σ R)):=fun k h1=>by
   refine JS (nodC k p 0) rfl rfl ?_
   refine QO h (by omega) fun τ1 S1=>?_
   simp only [RR]
   exact Qar hd hE (Int.natCast_nonneg _) (fun k hk=>hks k (List.mem_of_mem_drop hk)) S1 hsc (by rw [List.length_append,List.length_singleton];omega) (by omega) (h1.tail (.refl _))
 by_cases c2:w=⟨#[105,102]⟩
 · rw [if_pos c2] at h1
   have d1:¬(⟨#[105,102]⟩:ByteArray)=⟨#[113,117,111,116,101]⟩:=by rw [←c2];exact c1
   simp only [c2,d1,RR]
   by_cases c:ks.length=4
   · rw [if_neg (by simpa using c)] at h1
     have g:((ks.length - 1:Nat):Int)=3:=by omega
     simp only [g,RR]
     refine QQ h.sub (fun c=>by cases c) fun _=>?_
     have hh:=go 4 h1
     simp only [Qgf,RR]
     exact hh
   · rw [if_pos (by simpa using c)] at h1
     have g:¬((ks.length - 1:Nat):Int)=3:=by omega
     simp only [g,RR]
     exact QQ h.sub (fun _=>h1.bad (by decide)) fun c=>by cases c
 rw [if_neg c2] at h1
 by_cases c3:w=⟨#[98,101,103,105,110]⟩
 · rw [if_pos c3] at h1
   have d1:¬(⟨#[98,101,103,105,110]⟩:ByteArray)=⟨#[113,117,111,116,101]⟩:=by rw [←c3];exact c1
   have d2:¬(⟨#[98,101,103,105,110]⟩:ByteArray)=⟨#[105,102]⟩:=by rw [←c3];exact c2
   simp only [c3,d1,d2,RR]
   by_cases c:ks.length<2
   · rw [if_pos c] at h1
     have g:((ks.length - 1:Nat):Int)=0:=by omega
     simp only [g,RR]
     exact QQ h.sub (fun _=>h1.bad (by decide)) fun c=>by cases c
   · rw [if_neg c] at h1
     have g:¬((ks.length - 1:Nat):Int)=0:=by omega
     simp only [g,RR]
     refine QQ h.sub (fun c=>by cases c) fun _=>?_
     have hh:=go 6 h1
     simp only [Qgf,RR]
     exact hh
 rw [if_neg c3] at h1
 by_cases c4:w=⟨#[108,97,109,98,100,97]⟩
 · rw [if_pos c4] at h1
   have d1:¬(⟨#[108,97,109,98,100,97]⟩:ByteArray)=⟨#[113,117,111,116,101]⟩:=by rw [←c4];exact c1
   have d2:¬(⟨#[108,97,109,98,100,97]⟩:ByteArray)=⟨#[105,102]⟩:=by rw [←c4];exact c2
   have d3:¬(⟨#[108,97,109,98,100,97]⟩:ByteArray)=⟨#[98,101,103,105,110]⟩:=by rw [←c4];exact c3
   simp only [c4,d1,d2,d3,RR]
   unfold lamE at h1
   by_cases k3:ks.length=3
   case neg=>
     rw [if_pos (.inl k3)] at h1
     have g3:¬((ks.length - 1:Nat):Int)=2:=by omega
     simp only [g3,RR]
     exact QQ h.sub (fun _=>h1.bad (by decide)) fun c=>by cases c
   have g3:((ks.length - 1:Nat):Int)=2:=by omega
   have hm1:=hks _ (QD (ks:=ks) (j:=1) (by omega))
   have hm2:=hks _ (QD (ks:=ks) (j:=2) (by omega))
   have o1:=Qmv (ds:=ds) k3
   have np1:=QhB (ds:=ds) (ks.getD 1 0)
   by_cases k4:(dat ds (ks.getD 1 0)).kind=4
   case neg=>
     rw [if_pos (.inr k4)] at h1
     simp only [g3,x1 (by omega),Qv,e0,Qu hm1.1 Qk,QY hm1.1,l0,k4,RR]
     exact QQ h.sub (fun _=>h1.bad (by decide)) fun c=>by cases c
   rw [if_neg (by rintro (k|k);exact k k3;exact k k4)] at h1
   simp only [g3,x1 (by omega),Qv,e0,Qu hm1.1 Qk,QY hm1.1,l0,k4,RR]
   refine QQ h.sub (fun c=>by cases c) fun _=>?_
   simp only [x1 (by omega),Qv,e0,RR,true_and]
   refine Qcw (by omega) ?_
   simp only [RR,true_and]
   have hkl:=Qig (ds:=ds) (ks.getD 1 0)
   refine U3 RdK.ro e0 (fun k hk=>(hd.kid hk).2) (by omega) ?_
   simp only [Qef.1,Qef.2,RR,true_and]
   cases hN:JT ds (Qf ds (ks.getD 1 0)) [] with
   |none=>
     rw [hN] at h1
     exact QQ h.sub (fun _=>h1.bad (by decide)) fun c=>by cases c
   |some ns=>
     rw [hN] at h1
     dsimp only at h1
     refine QQ h.sub (fun c=>by cases c) fun _=>?_
     simp only [Option.getD_some,Qie,RR]
     refine QQ h.sub (fun c5=>?_) fun c5=>?_
     · have c5:3<ns.length:=by have:decide ((3:Int)<(ns.length:Int))=true:=c5;simp at this;omega
       rw [if_pos c5] at h1
       exact h1.bad (by decide)
     have c5:¬3<ns.length:=by have:decide ((3:Int)<(ns.length:Int))=false:=c5;simp at this;omega
     rw [if_neg c5] at h1
     simp only [x2 (by omega),Qv,bldC,Qie,RR]
     refine JS (nodC 5 p ns.length) rfl rfl ?_
     refine QO h (by omega) fun τ3 S3=>?_
     simp only [x2 (by omega),Qv,RR,true_and,and_true]
     refine Qkp (by omega) ?_
     simp only [RR]
     refine hE σ _ _ (ns::sc) _ τ3 _ hm2.1 hm2.2 (.inr (Int.natCast_nonneg _)) S3 (fun q hq=>?_) (by rw [List.length_append,List.length_singleton];omega) (by rw [List.length_cons];omega) (h1.tail (.refl _))
     rcases List.mem_cons.1 hq with rfl|hq
     · omega
     · exact hsc q hq
 rw [if_neg c4] at h1
 by_cases c5:w=⟨#[108,101,116]⟩
 · rw [if_pos c5] at h1
   have d1:¬(⟨#[108,101,116]⟩:ByteArray)=⟨#[113,117,111,116,101]⟩:=by rw [←c5];exact c1
   have d2:¬(⟨#[108,101,116]⟩:ByteArray)=⟨#[105,102]⟩:=by rw [←c5];exact c2
   have d3:¬(⟨#[108,101,116]⟩:ByteArray)=⟨#[98,101,103,105,110]⟩:=by rw [←c5];exact c3
   have d4:¬(⟨#[108,101,116]⟩:ByteArray)=⟨#[108,97,109,98,100,97]⟩:=by rw [←c5];exact c4
   simp only [c5,d1,d2,d3,d4,RR]
   exact Qja hl hd hE h0 hks h hsc hC hn (h1.tail (.refl _))
 rw [if_neg c5] at h1
 have hw2:=QyM hw c1 c2 c3 c4 c5
 simp only [c1,c2,c3,c4,c5,RR]
 by_cases k3:ks.length=3
 case neg=>
   have h1:R (.pan (flt 1)) σ:=by
     rcases hw2 with k|k
     · rw [if_pos k] at h1;unfold asgE at h1;rw [if_pos (.inl k3)] at h1;exact h1.bad (by decide)
     · rw [if_neg (by rw [k];decide)] at h1;unfold asgE at h1;rw [if_pos (.inl k3)] at h1;exact h1.bad (by decide)
   have g3:¬((ks.length - 1:Nat):Int)=2:=by omega
   simp only [g3,RR]
   exact QQ h.sub (fun _=>h1) fun c=>by cases c
 have g3:((ks.length - 1:Nat):Int)=2:=by omega
 have hm1:=hks _ (QD (ks:=ks) (j:=1) (by omega))
 have hm2:=hks _ (QD (ks:=ks) (j:=2) (by omega))
 have o1:=Qmv (ds:=ds) k3
 have np1:=QhB (ds:=ds) (ks.getD 1 0)
 simp only [g3,RR]
 refine QQ h.sub (fun c=>by cases c) fun _=>?_
 simp only [QyN (show 2≤ks.length by omega),RR]
 refine U3 (ks:=[ks.getD 1 0]) RdK.ro e0 (fun k hk=>by obtain rfl:=List.mem_singleton.1 hk;exact hm1.1) (by simp) ?_
 rw [Qt5]
 simp only [Qef.1,Qef.2,RR]
 cases hb:badP ds (ks.getD 1 0) [] with
 |true=>
   have h1:R (.pan (flt 1)) σ:=by
     rcases hw2 with k|k
     · rw [if_pos k] at h1;unfold asgE at h1;rw [if_pos hb] at h1;split at h1<;>exact h1.bad (by decide)
     · rw [if_neg (by rw [k];decide)] at h1;unfold asgE at h1;rw [if_pos hb] at h1;split at h1<;>exact h1.bad (by decide)
   simp only [if_true,Option.isSome_none,RR]
   exact QQ h.sub (fun _=>h1) fun c=>by cases c
 |false=>
   simp only [Bool.false_eq_true,if_false,Option.isSome_some,Option.getD_some,Jt,RR]
   have rest:∀(kind:Int),EndQ σ φm ds (expE ds f (ks.getD 2 0) (C.length:Int) sc (C++[nmdC kind p (dat ds (ks.getD 1 0)).name])) R→
       acall TP Un [.ptr φm 0 0 0,.agg [iv kind,iv p,iv 0,iv 0,str (dat ds (ks.getD 1 0)).name,nilS]] τ (onr (fun v67 σ=>
               acall TP J8 [.ptr φm 0 0 0,iv ((ks.getD 2 0:Nat):Int),v67,roSc sc] σ (onr (fun v69 σ=>
               aret (.tup []) σ R) (fun v σ=>apan v σ R))) (fun v σ=>apan v σ R)):=fun kind h1=>by
     refine JS (nmdC kind p (dat ds (ks.getD 1 0)).name) rfl rfl ?_
     refine QO h (by omega) fun τ3 S3=>?_
     simp only [RR]
     exact hE σ _ _ sc _ τ3 _ hm2.1 hm2.2 (.inr (Int.natCast_nonneg _)) S3 hsc (by rw [List.length_append,List.length_singleton];omega) (by omega) (h1.tail (.refl _))
   have xs:∀τ,idx 1 (roS [(dat ds (ks.getD 1 0)).name]) (.val (.int .i64 0)) τ=some (.rop [str (dat ds (ks.getD 1 0)).name] 0):=fun τ=>QpJ (j:=0) (l:=[(dat ds (ks.getD 1 0)).name]) (by simp)
   rcases hw2 with k|k
   · rw [if_pos k] at h1
     have d1:¬(⟨#[100,101,102,105,110,101]⟩:ByteArray)=⟨#[115,101,116,33]⟩:=by decide
     unfold asgE at h1
     rcases hp with ⟨hp1,hp2⟩|hp
     · subst hp1 hp2
       rw [if_neg (by rintro (q|⟨_,q⟩);exact q k3;exact q rfl),if_neg (by rw [hb];decide)] at h1
       simp only [Jv,Option.isSome_none,Bool.false_eq_true,if_false] at h1
       have g0:¬(0:Int)≤ -1:=by omega
       simp only [k,g0,RR]
       refine QQ h.sub (fun c=>by cases c) fun _=>?_
       simp only [jn,d1,x2 (by omega),xs,Qv,QnG,RR,true_and,and_true]
       exact rest 8 h1
     · rw [if_pos (.inr ⟨rfl,by omega⟩)] at h1
       simp only [k,hp,RR]
       exact QQ h.sub (fun _=>h1.bad (by decide)) fun c=>by cases c
   · rw [if_neg (by rw [k];decide)] at h1
     have d1:¬(⟨#[115,101,116,33]⟩:ByteArray)=⟨#[100,101,102,105,110,101]⟩:=by decide
     unfold asgE at h1
     rw [if_neg (by rintro (q|⟨q,_⟩);exact q k3;cases q),if_neg (by rw [hb];decide)] at h1
     simp only [k,d1,RR]
     refine QQ h.sub (fun c=>by cases c) fun _=>?_
     simp only [jn,xs,Qv,RR]
     refine QlB (by omega) (fun ns hns=>by have:=hsc ns hns;omega) ?_
     cases hf:Jv sc (dat ds (ks.getD 1 0)).name with
     |some q=>
       rw [hf] at h1
       simp only [Option.isSome_some,if_true] at h1
       have a0:aext (fndV (some q)) 0=some (iv (q.1:Int)):=rfl
       have a1:aext (fndV (some q)) 1=some (iv (q.2:Int)):=rfl
       have a2:aext (fndV (some q)) 2=some (bv true):=rfl
       simp only [a0,a1,a2,RR]
       exact QQ h.sub (fun _=>h1.bad (by decide)) fun c=>by cases c
     |none=>
       rw [hf] at h1
       simp only [Option.isSome_none,Bool.false_eq_true,if_false] at h1
       have a0:aext (fndV none) 0=some (iv 0):=rfl
       have a1:aext (fndV none) 1=some (iv 0):=rfl
       have a2:aext (fndV none) 2=some (bv false):=rfl
       simp only [a0,a1,a2,RR]
       refine QQ h.sub (fun c=>by cases c) fun _=>?_
       simp only [x2 (by omega),xs,Qv,QnG,RR,true_and,and_true]
       exact rest 7 h1
end
end Go.Proofs.YtggnjjalfnhiiaaGreatDoor.E
/- Forms that are expanded to cores: the program's way, all of it. -/
namespace Go.Proofs.YtggnjjalfnhiiaaGreatDoor.E
open Go Go.RowKit
set_option maxRecDepth 100000
variable [L:Lam]
variable {σ σ1 τ τ':AH} {R:AEnd→AH→Prop}
section
variable {ds:List Dat} {φm f:Nat}
set_option maxHeartbeats 1000000 in
theorem QvN (hl:DLs ds) (hd:DOk ds):∀f,ExpQ ds f φm:=by
 intro f
 induction f with
 |zero=>intro σ x p sc C τ R hx hf;omega
 |succ f ih=>
  intro σ x p sc C τ R hx hfx hp h hsc hC hn h1
  have hdl:=hd.len
  have hkd:=hd.kind x hx
  have hnv:=Qgd hd hx
  have hks:∀k,k∈Qf ds x→k<ds.length∧ds.length≤f+k:=fun k hk=>by have:=hd.kid hk;omega
  have e0:∀{τ C},MSt σ τ φm (fdQ ds C)→lod (.ptr φm 0 0 0) τ=some (roD ds):=fun h=>h.fix rfl
  have l0:∀τ y,lod (.rop (Qc (dat ds y)) 0) τ=some (iv (dat ds y).kind):=fun _ _=>rfl
  have l3:∀τ y,lod (.rop (Qc (dat ds y)) 3) τ=some (str (dat ds y).name):=fun _ _=>rfl
  refine Qfa ?_
  unfold Qcp x190;dsimp only [den,dE,di,tupL,lTup,dwat,Qe,List.map,Option.map,den0,den1,den2,den3,den4]
  simp only [e0 h,Qu hx Qk,QY hx,Qs (Qk _),RR]
  refine Jn rfl (Qk _) rfl (Q3 _) ?_
  simp only [l0,RR]
  rw [expE] at h1
  refine UC (P:=fun z τ'=>τ'=τ∧z=(.ptr φm 0 0 0,iv (x:Int),iv p,roSc sc,.rop (Qc (dat ds x)) 0,iv (dat ds x).kind,bv (decide ((dat ds x).kind=1)||decide ((dat ds x).kind=2)),())) ?_ ?_
  ·rintro z τ' ⟨rfl,rfl⟩
   by_cases c12:(dat ds x).kind=1∨(dat ds x).kind=2
   ·rw [if_pos c12] at h1
    have g:(decide ((dat ds x).kind=1)||decide ((dat ds x).kind=2))=true:=by simpa using c12
    simp only [g,e0 h,RR]
    refine QnL hl hd hx ?_
    simp only [QpK,RR]
    refine QO h (by omega) fun τ1 S1=>?_
    simp only [RR]
    exact Qa (h1.ok S1)
   rw [if_neg c12] at h1
   have g:(decide ((dat ds x).kind=1)||decide ((dat ds x).kind=2))=false:=by simpa using c12
   by_cases c3:(dat ds x).kind=3
   ·rw [if_pos c3] at h1
    have g2:(decide ((3:Int)=1)||decide ((3:Int)=2))=false:=rfl
    simp only [c3,g2,l3,RR]
    refine QbK ?_
    simp only [RR]
    refine QQ h.sub (fun hk=>?_) fun hk=>?_
    ·rw [if_pos hk] at h1
     exact h1.bad (by decide)
    rw [if_neg (by rw [hk];decide)] at h1
    simp only [jn,l3,RR]
    refine QlB (by omega) (fun ns hns=>by have:=hsc ns hns;omega) ?_
    cases hf:Jv sc (dat ds x).name with
    |some q=>
     rw [hf] at h1
     dsimp only at h1
     have a0:aext (fndV (some q)) 0=some (iv (q.1:Int)):=rfl
     have a1:aext (fndV (some q)) 1=some (iv (q.2:Int)):=rfl
     have a2:aext (fndV (some q)) 2=some (bv true):=rfl
     simp only [a0,a1,a2,Qv5,RR]
     refine JS (locC p q.1 q.2) rfl rfl ?_
     refine QO h (by omega) fun τ1 S1=>?_
     simp only [RR]
     exact Qa (h1.ok S1)
    |none=>
     rw [hf] at h1
     dsimp only at h1
     have a0:aext (fndV none) 0=some (iv 0):=rfl
     have a1:aext (fndV none) 1=some (iv 0):=rfl
     have a2:aext (fndV none) 2=some (bv false):=rfl
     simp only [a0,a1,a2,l3,QnG,RR]
     refine JS (nmdC 3 p (dat ds x).name) rfl rfl ?_
     refine QO h (by omega) fun τ1 S1=>?_
     simp only [RR]
     exact Qa (h1.ok S1)
   rw [if_neg c3] at h1
   simp only [g,c3,e0 h,RR]
   refine Qcw (by omega) ?_
   simp only [lenK,RR]
   refine QQ h.sub (fun c0=>?_) fun c0=>?_
   ·have c0:(Qf ds x).length=0:=by have:decide (((Qf ds x).length:Int)=0)=true:=c0;simp at this;rw [this];rfl
    rw [if_pos c0] at h1
    exact h1.bad (by decide)
   have c0:¬(Qf ds x).length=0:=by have:decide (((Qf ds x).length:Int)=0)=false:=c0;simpa using this
   rw [if_neg c0] at h1
   have hk0:=hks _ (QD (ks:=Qf ds x) (j:=0) (by omega))
   have x0:∀τ,idx 1 (roK (Qf ds x)) (.val (.int .i64 0)) τ=some (.rop [iv (((Qf ds x).getD 0 0:Nat):Int)] 0):=fun τ=>Q1 (j:=0) (by omega)
   simp only [x0,Qv,e0 h,Qu hk0.1 Qk,QY hk0.1,Qs (Qk _),RR]
   intro φ hφ
   simp only [true_and]
   refine QG (es:=[[iv 0,iv 0,iv 0,str ⟨#[]⟩]]) (cs:=Qc (dat ds ((Qf ds x).getD 0 0))) (AH.set_same ..) (by simp) rfl rfl rfl (Q3 _) ?_
   simp only [List.set_cons_zero,AH.set_set,true_and]
   refine UC (P:=fun z τ2=>τ2=τ'∧z=(.ptr φm 0 0 0,iv p,roSc sc,roK (Qf ds x),.rop (Qc (dat ds ((Qf ds x).getD 0 0))) 0,bv (decide ((dat ds ((Qf ds x).getD 0 0)).kind=3∧kwB (dat ds ((Qf ds x).getD 0 0)).name=true)),())) ?_ ?_
   ·rintro z τ2 ⟨rfl,rfl⟩
    by_cases cf:(dat ds ((Qf ds x).getD 0 0)).kind=3∧kwB (dat ds ((Qf ds x).getD 0 0)).name=true
    ·rw [if_pos cf] at h1
     have gf:decide ((dat ds ((Qf ds x).getD 0 0)).kind=3∧kwB (dat ds ((Qf ds x).getD 0 0)).name=true)=true:=by simpa using cf
     simp only [gf,l3,QqQ (show 1≤(Qf ds x).length by omega),RR,true_and]
     exact Qff hl hd ih cf.2 hp (by omega) hks h hsc (by omega) (by omega) (h1.tail (.refl _))
    ·rw [if_neg cf] at h1
     have gf:decide ((dat ds ((Qf ds x).getD 0 0)).kind=3∧kwB (dat ds ((Qf ds x).getD 0 0)).name=true)=false:=by simpa using cf
     simp only [gf,lenK,RR]
     refine QQ h.sub (fun c4=>?_) fun c4=>?_
     ·have c4:4<(Qf ds x).length:=by have:decide ((4:Int)<((Qf ds x).length:Int))=true:=c4;simp at this;omega
      rw [if_pos c4] at h1
      exact h1.bad (by decide)
     have c4:¬4<(Qf ds x).length:=by have:decide ((4:Int)<((Qf ds x).length:Int))=false:=c4;simp at this;omega
     rw [if_neg c4] at h1
     simp only [Qgf,RR]
     refine JS (nodC 9 p 0) rfl rfl ?_
     refine QO h (by omega) fun τ3 S3=>?_
     simp only [RR]
     exact Qar hd ih (Int.natCast_nonneg _) hks S3 hsc (by rw [List.length_append,List.length_singleton];omega) (by omega) (h1.tail (.refl _))
   ·intro k hk
    refine QI hφ rfl ?_
    by_cases c:(dat ds ((Qf ds x).getD 0 0)).kind=3
    ·simp only [l0,l3,c,RR]
     refine QbK ?_
     simp only [RR]
     exact hk _ _ ⟨rfl,by rw [QtY c]<;>rfl⟩
    ·simp only [l0,c,RR]
     exact hk _ _ ⟨rfl,by rw [QtZ c]<;>rfl⟩
  ·intro k hk
   by_cases c1:(dat ds x).kind=1
   ·have:(decide ((dat ds x).kind=1)||decide ((dat ds x).kind=2))=true:=by simp [c1]
    rw [this] at hk
    simp only [c1,RR] at hk ⊢
    exact hk _ _ ⟨rfl,rfl⟩
   ·have:(decide ((dat ds x).kind=1)||decide ((dat ds x).kind=2))=decide ((dat ds x).kind=2):=by simp [c1]
    rw [this] at hk
    simp only [c1,RR]
    exact hk _ _ ⟨rfl,rfl⟩
end
def expV (ds:List Dat):AV:=if (expE ds ds.length 0 (-1) [] []).2≠0 then .tup [roC [],iv (expE ds ds.length 0 (-1) [] []).2] else if 160<(expE ds ds.length 0 (-1) [] []).1.length then .tup [roC [],iv 2] else .tup [roC (expE ds ds.length 0 (-1) [] []).1,iv 0]
set_option maxHeartbeats 1000000 in
theorem QnO {ds:List Dat} (h0:Uo ds=0) (h:R (.ret (expV ds)) σ):acall TP QeI [roD ds] σ R:=by
 have hd:=DOk.of h0
 have hls:=DLs.of h0
 have hdl:=hd.len
 refine Qjd (Q:=fun e τ=>∃v,e= .ret v∧AH.Sub σ τ∧Fz σ τ v (expV ds)) ?_ (fun e τ ⟨v,h1,h2,h3⟩=>⟨v,h1,_,σ,QaR h2 h3,h⟩)
 refine QjP (tF:=Qg1) QtN fun φa φb hφa hφb=>?_
 unfold QfW
 have hs1:AH.Sub σ ((σ.set φa ⟨0,1,[[.val (.slice none 0 0)]]⟩).set φb ⟨0,1,[[.val (.int .i64 0)]]⟩):=(AH.Sub.set (.refl σ) _ hφa).trans (.set (.refl _) _ hφb)
 have hne:φa≠φb:=by rintro rfl;rw [AH.set_same] at hφb;cases hφb
 have hFa:((σ.set φa ⟨0,1,[[.val (.slice none 0 0)]]⟩).set φb ⟨0,1,[[.val (.int .i64 0)]]⟩) φa=some ⟨0,1,[[.val (.slice none 0 0)]]⟩:=by rw [AH.set_ne' hne,AH.set_same]
 have hFb:((σ.set φa ⟨0,1,[[.val (.slice none 0 0)]]⟩).set φb ⟨0,1,[[.val (.int .i64 0)]]⟩) φb=some ⟨0,1,[[.val (.int .i64 0)]]⟩:=AH.set_same ..
 have hb0:σ φb=none:=by rwa [AH.set_ne' (Ne.symm hne)] at hφb
 generalize (σ.set φa ⟨0,1,[[.val (.slice none 0 0)]]⟩).set φb ⟨0,1,[[.val (.int .i64 0)]]⟩=σ1 at hs1 hFa hFb ⊢
 have hset:∀(a b:AV),AH.Sub σ ((σ1.set φa ⟨0,1,[[a]]⟩).set φb ⟨0,1,[[b]]⟩):=fun a b ψ F hF=>by
  rw [AH.set_ne' (by rintro rfl;rw [hb0] at hF;cases hF),AH.set_ne' (by rintro rfl;rw [hφa] at hF;cases hF)]
  exact hs1 _ _ hF
 have hpan:∀c:Int,expV ds= .tup [roC [],iv c]→RD φa φb Qg1 (fun e τ=>∃v,e= .ret v∧AH.Sub σ τ∧Fz σ τ v (expV ds)) (.pan (flt c)) σ1:=fun c hc=>⟨c,_,_,rfl,hFa,hFb,_,rfl,hset _ _,by
  rw [hc]
  refine .tup rfl fun j hj=>?_
  match j,hj with
  |0,_=>exact .nil
  |1,_=>exact .same _⟩
 have eb:bld [(.val (.slice none 0 0)),(.val (.slice none 0 0))] [(0,1),(1,1)] [(0,roD ds)]=some (.agg [roD ds,nilS]):=rfl
 simp only [eb,RR]
 refine QqE rfl fun φm hφm=>?_
 have S0:MSt σ1 (σ1.set φm ⟨0,(fdQ ds []).length,[[roD ds,nilS]]⟩) φm (fdQ ds []):=by
  refine MSt.new hφm rfl (fun i f hf=>?_) (by intro v hv;simp only [List.mem_cons,List.not_mem_nil,or_false] at hv;rcases hv with rfl|rfl<;>rfl)
  match i,hf with
  |0,hf=>obtain rfl:=Option.some.inj hf;exact ⟨rfl,rfl,rfl⟩
  |1,hf=>obtain rfl:=Option.some.inj hf;exact .nil
 refine Ur (σ0:=σ1.set φm ⟨0,2,[[roD ds,nilS]]⟩) (args':=[.ptr φm 0 0 0,iv ((0:Nat):Int),iv (-1),roSc []]) (.refl _) rfl (fun i hi=>?_) ?_
 ·match i,hi with
  |0,_=>exact .same _
  |1,_=>exact .same _
  |2,_=>exact .same _
  |3,_=>exact .nil
 have hb:=QqP hd (x:=0) (by omega)
 have hV:expV ds=expV ds:=rfl
 conv at hV=>rhs;unfold expV
 refine QvN hls hd ds.length σ1 0 (-1) [] [] _ _ (by omega) (by omega) (.inl ⟨rfl,rfl⟩) S0 (fun q hq=>by cases hq) (by simp;omega) (by simp;omega) ?_
 generalize expE ds ds.length 0 (-1) [] []=E at hV ⊢
 refine .step (fun c2=>?_) (.refl _) fun c2 τ' S=>?_
 ·rw [if_pos c2] at hV
  exact hpan _ hV
 rw [if_neg (by simpa using c2)] at hV
 have hfz:Fz σ1 τ' (.ptr φm 0 0 0) (.rop [roD ds,roC E.1] 0):=by
  obtain ⟨vs,q1,q2,q3,q4,q5⟩:=S.ex
  obtain ⟨v1,e1,b1⟩:=S.lst (i:=1) rfl
  have e0:lod (.ptr φm 0 0 0) τ'=some (roD ds):=S.fix rfl
  have z1:=S.fzl (i:=1) rfl e1 (by intro c hc;obtain ⟨x,_,rfl⟩:=List.mem_map.1 hc;rfl)
  have hl:vs.length=2:=q2
  obtain ⟨a0,a1,rfl⟩:∃a0 a1,vs=[a0,a1]:=by
   match vs,hl with
   |[a0,a1],_=>exact ⟨a0,a1,rfl⟩
  have y0:lod (.ptr φm 0 0 0) τ'=some a0:=Qz q1 rfl rfl
  have y1:lod (.ptr φm 0 0 1) τ'=some a1:=Qz q1 rfl rfl
  rw [y0] at e0;rw [y1] at e1
  obtain rfl:=Option.some.inj e0
  obtain rfl:=Option.some.inj e1
  refine .ptr q1 S.fr rfl (by simp) rfl rfl fun j hj=>?_
  match j,hj with
  |0,_=>exact .same _
  |1,_=>exact z1
 refine ⟨_,σ1,S.sub,hfz,?_⟩
 have l1:∀τ,lod (.rop [roD ds,roC E.1] 1) τ=some (roC E.1):=fun _=>rfl
 have an:anil (.rop [roD ds,roC E.1] 0)=some (.rop [roD ds,roC E.1] 0):=rfl
 simp only [an,l1,QB,RR]
 refine QQ (.refl _) (fun c3=>?_) fun c3=>?_
 ·have c3:160<E.1.length:=by have:decide ((160:Int)<(E.1.length:Int))=true:=c3;simp at this;omega
  rw [if_pos c3] at hV
  exact hpan _ hV
 have c3:¬160<E.1.length:=by have:decide ((160:Int)<(E.1.length:Int))=false:=c3;simp at this;omega
 rw [if_neg c3] at hV
 refine Q0 (cs:=[.val (.slice none 0 0)]) hFa rfl (by decide) (JJ rfl) rfl ?_
 refine Q0 (cs:=[.val (.int .i64 0)]) (by rw [AH.set_ne' (Ne.symm hne)];exact hFb) rfl (by decide) rfl rfl ?_
 have la:lod (.ptr φa 0 0 0) ((σ1.set φa ⟨0,1,[[roC E.1]]⟩).set φb ⟨0,1,[[.val (.int .i64 0)]]⟩)=some (roC E.1):=Qz (i:=0) (by rw [AH.set_ne' hne];exact AH.set_same ..) rfl rfl
 have lb:lod (.ptr φb 0 0 0) ((σ1.set φa ⟨0,1,[[roC E.1]]⟩).set φb ⟨0,1,[[.val (.int .i64 0)]]⟩)=some (.val (.int .i64 0)):=Qz (i:=0) (AH.set_same ..) rfl rfl
 show og (lod (.ptr φa 0 0 0) ((σ1.set φa ⟨0,1,[[roC E.1]]⟩).set φb ⟨0,1,[[.val (.int .i64 0)]]⟩)) _
 rw [la]
 show og (lod (.ptr φb 0 0 0) ((σ1.set φa ⟨0,1,[[roC E.1]]⟩).set φb ⟨0,1,[[.val (.int .i64 0)]]⟩)) _
 rw [lb]
 refine Qa ⟨_,rfl,hset _ _,?_⟩
 rw [hV]
 exact .same _
theorem Qlh {ds:List Dat} (h:R (.ret (.agg [iv (expR ds).2,roC (expR ds).1])) σ):acall TP Qdc [roD ds] σ R:=by
 refine Qh0 ?_
 unfold QdR x117;dsimp only [den,dE,di,tupL,lTup,dwat,Qe,List.map,Option.map,den0,den1,den2,den3,den4]
 intro φ hφ
 refine Qmd ?_
 unfold expR at h
 simp only [RR]
 by_cases c:Uo ds=0
 ·rw [if_neg (by simpa using c)] at h
  simp only [c,RR]
  refine QnO c ?_
  unfold expV
  generalize expE ds ds.length 0 (-1) [] []=E at h ⊢
  have fin:∀(a:Int) (cs:List Cor),R (.ret (.agg [iv a,roC cs])) σ→onr (fun v14 σ=>
    og (aext v14 0) fun v15=>
    og (aext v14 1) fun v16=>
    og (bld [(.val (.int .i64 0)),(.val (.slice none 0 0))] [(0,1),(1,1)] [(0,v16),(1,v15)]) fun v19=>
    sto 2 (.ptr φ 0 0 0) v19 σ fun σ=>
    og (lodA 2 (.ptr φ 0 0 0) σ) fun r2=>
    aret r2 σ R) (fun v σ=>apan v σ R) (.ret (.tup [roC cs,iv a])) (σ.set φ ⟨0,2,[[iv 0,nilS]]⟩):=fun a cs hh=>by
   have x0:aext (.tup [roC cs,iv a]) 0=some (roC cs):=rfl
   have x1:aext (.tup [roC cs,iv a]) 1=some (iv a):=rfl
   have eb:bld [(.val (.int .i64 0)),(.val (.slice none 0 0))] [(0,1),(1,1)] [(0,iv a),(1,roC cs)]=some (.agg [iv a,roC cs]):=rfl
   simp only [x0,x1,eb,RR]
   exact QbG hφ rfl rfl (by intro x hx;simp at hx;rcases hx with rfl|rfl<;>rfl) hh
  by_cases c2:E.2=0
  ·rw [if_neg (by simpa using c2)] at h ⊢
   by_cases c3:160<E.1.length
   ·rw [if_pos c3] at h ⊢
    exact fin _ _ h
   ·rw [if_neg c3] at h ⊢
    exact fin _ _ h
  ·rw [if_pos (by simpa using c2)] at h ⊢
   exact fin _ _ h
 ·rw [if_pos (by simpa using c)] at h
  have eb:bld [(.val (.int .i64 0)),(.val (.slice none 0 0))] [(0,1),(1,1)] [(0,iv (Uo ds))]=some (.agg [iv (Uo ds),nilS]):=rfl
  simp only [c,eb,RR]
  refine Qdl (cs':=[iv (Uo ds),roC []]) hφ rfl rfl (by intro x hx;simp at hx;rcases hx with rfl|rfl<;>rfl) rfl (fun j hj=>?_) h
  match j,hj with
  |0,_=>exact .same _
  |1,_=>exact .nil
end Go.Proofs.YtggnjjalfnhiiaaGreatDoor.E
/- Code of cores, by both. -/
namespace Go.Proofs.YtggnjjalfnhiiaaGreatDoor.E
open Go Go.RowKit
set_option maxRecDepth 100000
variable [L:Lam]
variable {σ τ τ':AH} {R:AEnd→AH→Prop}
theorem Qt6 {φ:Nat} {z cs:List AV} (hF:τ φ=some ⟨0,2,[z]⟩) (hz:z.length=2) (hc:cs.length=2) (h1:∀y,y∈cs→y.one=true) (h:aret (.agg cs) (τ.set φ ⟨0,2,[cs]⟩) R):
  sto 2 (.ptr φ 0 0 0) (.agg cs) τ fun σ=>og (lodA 2 (.ptr φ 0 0 0) σ) fun r=>aret r σ R:=by
 refine QG (es:=[z]) (cs:=cs) hF (by simp) (by simpa using hz) rfl hc h1 ?_
 simp only [List.set_cons_zero]
 have e:=UG (σ:=τ.set φ ⟨0,2,[cs]⟩) (φ:=φ) (st:=0) (i:=0) (n:=2) (cs:=cs) (AH.set_same ..) rfl rfl hc
 rw [e]
 exact h
theorem Qij (hs:AH.Sub σ τ):NewB σ τ nilS []:=⟨⟨nilB,fun p hp=>by cases hp⟩,.nil,(fun ψ c=>by cases c),hs⟩
end Go.Proofs.YtggnjjalfnhiiaaGreatDoor.E
/- Code that is lent, and handed back. -/
namespace Go.Proofs.YtggnjjalfnhiiaaGreatDoor.E
open Go Go.RowKit
set_option maxRecDepth 100000
variable [L:Lam]
variable {σ τ τ':AH} {R:AEnd→AH→Prop}
open Classical in
noncomputable def only (τ:AH) (F:List Nat):AH:=fun φ=>if φ∈F then τ φ else none
theorem QyO {N:Nat}:∀(os:List OpD) (k:Int),(∀o,o∈os→o.data.length≤N)→opsK k os≤k+(os.length:Int)*(6+4*(N:Int)):=by
 intro os
 induction os with
 |nil=>intro k _;simp [opsK]
 |cons o r ih=>
  intro k h
  have h1:=ih (k+1+1+1+1+1+1+4*(o.data.length:Int)) fun o ho=>h o (List.mem_cons_of_mem _ ho)
  have h2:=h o (List.mem_cons_self ..)
  simp only [opsK,List.length_cons]
  have e:((r.length+1:Nat):Int)*(6+4*(N:Int))=(r.length:Int)*(6+4*(N:Int))+(6+4*(N:Int)):=by
   rw [Int.natCast_add,Int.add_mul];simp
  rw [e]
  omega
theorem QvO:∀(bs:List Blk) (k:Int),(∀b,b∈bs→bO 1048576 b.ops)→QC k bs≤k+(bs.length:Int)*4398052802561:=by
 intro bs
 induction bs with
 |nil=>intro k _;simp [QC]
 |cons b r ih=>
  intro k h
  have h1:=ih (opsK (k+1) b.ops) fun o ho=>h o (List.mem_cons_of_mem _ ho)
  obtain ⟨h2,h3⟩:=h b (List.mem_cons_self ..)
  have h4:=QyO (N:=1048576) b.ops (k+1) fun o ho=>(h3 o ho).2.1
  simp only [QC,List.length_cons]
  omega
theorem QvP {bs:List Blk} (h:bC 1048576 bs):QC 1 bs≤9000000000000000000:=by
 have:=QvO bs 1 h.2
 have:=h.1
 omega
end Go.Proofs.YtggnjjalfnhiiaaGreatDoor.E
/- Code of a line: by both; the law of PlainCode. -/
namespace Go.Proofs.YtggnjjalfnhiiaaGreatDoor.E
open Go Go.RowKit
set_option maxRecDepth 100000
variable [L:Lam]
variable {σ τ τ':AH} {R:AEnd→AH→Prop}
def bCo (N:Nat) (cs:List Cor):Prop:=cs.length≤N∧∀x,x∈cs→x.name.size≤N∧bD N x.data
theorem Qt7 {N:Nat} {cs:List Cor} (h:bCo N cs) (i:Nat):(Qi cs i).name.size≤N∧bD N (Qi cs i).data:=by
 by_cases hi:i<cs.length
 ·rw [←QcP hi];exact h.2 _ (List.getElem_mem hi)
 ·have:Qi cs i=default:=by simp [Qi,List.getD,List.getElem?_eq_none (Nat.le_of_not_lt hi)]
  rw [this]
  exact ⟨Nat.zero_le _,Nat.zero_le _,fun d hd=>by cases hd⟩
def plC (t:List UInt8):Int:=if (Qy t).2≠0 then (Qy t).2 else if fitB (fin0 (Qy t).1) then 0 else 2
def plB (t:List UInt8):List Blk:=if plC t=0 then toBk (fin0 (Qy t).1) else []
theorem Qt8 {t:List UInt8} (hl:t.length≤1048576) (h:(Qy t).2=0):bCo 1048576 (Qy t).1:=by
 obtain ⟨hw,hd⟩:=Qih h
 have hs:=QvF hl
 refine ⟨by have:=hw.len;omega,fun c hc=>⟨(hs c hc).1,?_,(hs c hc).2⟩⟩
 obtain ⟨i,hi,rfl⟩:=Qpe hc
 have:=hd i;omega
theorem QnP {t:List UInt8} (hl:t.length≤1048576):bC 1048576 (plB t):=by
 unfold plB
 split
 case isFalse=>exact ⟨by simp,fun b hb=>by cases hb⟩
 rename_i h0
 have hc:(Qy t).2=0:=by
  unfold plC at h0
  split at h0
  ·rename_i c;exact absurd h0 c
  ·rename_i c;simpa using c
 have hf:fits (fin0 (Qy t).1):=by
  unfold plC at h0
  rw [if_neg (by simpa using hc)] at h0
  split at h0
  ·rename_i c;exact Qid.1 c
  ·cases h0
 have hb:=Qt8 hl hc
 have hA:AllO (fun o=>o.name.size≤1048576∧bD 1048576 o.data) (fin0 (Qy t).1):=QrE ⟨fun o h1 h2=>by rw [h1,h2];exact ⟨by rw [Qf3];omega,Nat.zero_le _,fun d hd=>by cases hd⟩,fun k i=>⟨(Qt7 hb i).1,Nat.zero_le _,fun d hd=>by cases hd⟩,fun i=>⟨by show (⟨#[]⟩:ByteArray).size≤_;rw [Qf3];omega,(Qt7 hb i).2⟩,fun o a h=>h⟩ _ _ _ _ _ (fun p hp q hq=>by simp at hp;subst hp;cases hq)
 refine ⟨by have:=hf.1;simp only [toBk,List.length_map];omega,fun b hb=>?_⟩
 obtain ⟨p,hp,rfl⟩:=List.mem_map.1 hb
 refine ⟨?_,fun o ho=>hA p hp o ho⟩
 obtain ⟨k,hk,rfl⟩:=List.mem_iff_getElem.1 hp
 have:=hf.2 k hk
 unfold Qd at this
 rw [show (fin0 (Qy t).1).getD k (0,[])=(fin0 (Qy t).1)[k] by simp [List.getD,hk]] at this
 show (fin0 (Qy t).1)[k].2.length≤_
 omega
theorem QlC {f1 f2:FuncId} {t:List UInt8} (h1:∀{σ:AH} {R:AEnd→AH→Prop},R (.ret (.agg [iv (QZ t).2.1,iv ((QZ t).2.2:Nat),roD (QZ t).1])) σ→acall TP f1 [str (bs t)] σ R)
  (h2:∀{σ:AH} {R:AEnd→AH→Prop},R (.ret (.agg [iv (expR (QZ t).1).2,roC (expR (QZ t).1).1])) σ→acall TP f2 [roD (QZ t).1] σ R) (h:R (.ret (.tup [roC (Qy t).1,iv (Qy t).2])) σ):
  acall TP f1 [str (bs t)] σ (onr (fun v7 σ=>
 new [(.val (.int .i64 0)),(.val (.int .i64 0)),(.val (.slice none 0 0))] σ fun v4 σ=>
 sto 3 v4 v7 σ fun σ=>
 frz v4 σ fun f4 σ=>
 og (fldA 0 f4) fun v8=>
 og (lod v8 σ) fun v9=>
 og (ibin .neq v9 (.val (.int .i64 0))) fun v10=>
 apick v10 (
  og (fldA 0 f4) fun v11=>
  og (lod v11 σ) fun v12=>
  aret (.tup [(.val (.slice none 0 0)),v12]) σ R) (
  og (fldA 2 f4) fun v13=>
  og (lod v13 σ) fun v14=>
  acall TP f2 [v14] σ (onr (fun v15 σ=>
  new [(.val (.int .i64 0)),(.val (.slice none 0 0))] σ fun v5 σ=>
  sto 2 v5 v15 σ fun σ=>
  frz v5 σ fun f5 σ=>
  og (fldA 1 f5) fun v16=>
  og (lod v16 σ) fun v17=>
  og (fldA 0 f5) fun v18=>
  og (lod v18 σ) fun v19=>
  aret (.tup [v17,v19]) σ R) (fun v σ=>apan v σ R)))) (fun v σ=>apan v σ R)):=by
 refine h1 ?_
 simp only [RR]
 refine Jn rfl rfl rfl (by intro y hy;simp only [List.mem_cons,List.not_mem_nil,or_false] at hy;rcases hy with rfl|rfl|rfl<;>rfl) ?_
 have l0:∀τ,lod (.rop [iv (QZ t).2.1,iv ((QZ t).2.2:Nat),roD (QZ t).1] 0) τ=some (iv (QZ t).2.1):=fun _=>rfl
 have l2:∀τ,lod (.rop [iv (QZ t).2.1,iv ((QZ t).2.2:Nat),roD (QZ t).1] 2) τ=some (roD (QZ t).1):=fun _=>rfl
 unfold Qy at h
 simp only [l0,RR]
 by_cases c:(QZ t).2.1=0
 ·rw [if_neg (by simpa using c)] at h
  simp only [c,l2,RR]
  refine h2 ?_
  simp only [RR]
  refine Jn rfl rfl rfl (one2 rfl rfl) ?_
  have m0:∀τ,lod (.rop [iv (expR (QZ t).1).2,roC (expR (QZ t).1).1] 0) τ=some (iv (expR (QZ t).1).2):=fun _=>rfl
  have m1:∀τ,lod (.rop [iv (expR (QZ t).1).2,roC (expR (QZ t).1).1] 1) τ=some (roC (expR (QZ t).1).1):=fun _=>rfl
  simp only [m0,m1,RR]
  exact Qa h
 ·rw [if_pos (by simpa using c)] at h
  simp only [c,l0,RR]
  refine QU (a':= .tup [roC [],iv (QZ t).2.1]) (.refl _) (.tup rfl fun j hj=>?_) h
  match j,hj with
  |0,_=>exact .nil
  |1,_=>exact .same _
theorem QoI {t:List UInt8} (hl:t.length≤1048576) (h:R (.ret (.tup [roC (Qy t).1,iv (Qy t).2])) σ):acall TP Qft [str (bs t)] σ R:=by
 refine QkO ?_
 unfold Qg9 x80;dsimp only [den,dE,di,tupL,lTup,dwat,Qe,List.map,Option.map,den0,den1,den2,den3,den4]
 exact QlC (fun h=>QnE hl h) (fun h=>Qlg (Qph hl).sD h) h
theorem QnQ {t:List UInt8} (hl:t.length≤1048576) (h:R (.ret (.tup [roBk (plB t),iv (plC t)])) σ):acall TP Qev [str (bs t)] σ R:=by
 refine Qjx ?_
 unfold QfK x57;dsimp only [den,dE,di,tupL,lTup,dwat,Qe,List.map,Option.map,den0,den1,den2,den3,den4]
 refine QoI hl ?_
 have x0:aext (.tup [roC (Qy t).1,iv (Qy t).2]) 0=some (roC (Qy t).1):=rfl
 have x1:aext (.tup [roC (Qy t).1,iv (Qy t).2]) 1=some (iv (Qy t).2):=rfl
 have no:∀c:Int,c≠0→plC t=c→aret (.tup [(.val (.slice none 0 0)),iv c]) σ R:=fun c hc e=>by
  have eB:plB t=[]:=by unfold plB;rw [if_neg (by rw [e];exact hc)]
  rw [eB,e] at h
  refine QU (a':= .tup [roBk [],iv c]) (.refl _) (.tup rfl fun j hj=>?_) h
  match j,hj with
  |0,_=>exact .nil
  |1,_=>exact .same _
 simp only [x0,x1,RR]
 by_cases c:(Qy t).2=0
 ·obtain ⟨hw,hd⟩:=Qih c
  simp only [c,RR]
  refine QpB hw (fun i=>by have:=hd i;omega) ?_
  have y0:aext (.tup [roBk (toBk (fin0 (Qy t).1)),bv (fitB (fin0 (Qy t).1))]) 0=some (roBk (toBk (fin0 (Qy t).1))):=rfl
  have y1:aext (.tup [roBk (toBk (fin0 (Qy t).1)),bv (fitB (fin0 (Qy t).1))]) 1=some (bv (fitB (fin0 (Qy t).1))):=rfl
  simp only [y0,y1,RR]
  cases hf:fitB (fin0 (Qy t).1) with
  |true=>
   have eC:plC t=0:=by unfold plC;rw [if_neg (by simpa using c),if_pos hf]
   have eB:plB t=toBk (fin0 (Qy t).1):=by unfold plB;rw [if_pos eC]
   rw [eB,eC] at h
   simp only [RR]
   exact Qa h
  |false=>
   simp only [RR]
   exact no 2 (by decide) (by unfold plC;rw [if_neg (by simpa using c),if_neg (by rw [hf];decide)])
 ·simp only [c,RR]
  exact no _ c (by unfold plC;rw [if_pos (by simpa using c)])
section
variable [K:Knows QS]
theorem QnR {t:List UInt8} (hl:t.length≤1048576) (h:R (.ret (.tup [roC (Qy t).1,iv (Qy t).2])) σ):acall TP Qey [str (bs t)] σ R:=by
 refine QjA ?_
 unfold QfL x85;dsimp only [den,dE,di,tupL,lTup,dwat,Qe,List.map,Option.map,den0,den1,den2,den3,den4]
 exact QlC (fun h=>QnJ (fun h=>QnK h) h) (fun h=>Qlh h) h
theorem Qmw {t:List UInt8} (hl:t.length≤1048576) (h:∀v B τ,cont B=plB t→NewB σ τ v B→R (.ret (.tup [v,iv (plC t)])) τ):acall TP Qdz [str (bs t)] σ R:=by
 refine Qi0 ?_
 unfold QeP x62;dsimp only [den,dE,di,tupL,lTup,dwat,Qe,List.map,Option.map,den0,den1,den2,den3,den4]
 refine QnR hl ?_
 have x0:aext (.tup [roC (Qy t).1,iv (Qy t).2]) 0=some (roC (Qy t).1):=rfl
 have x1:aext (.tup [roC (Qy t).1,iv (Qy t).2]) 1=some (iv (Qy t).2):=rfl
 simp only [x0,x1,RR]
 by_cases c:(Qy t).2=0
 ·obtain ⟨hw,hd⟩:=Qih c
  simp only [c,RR]
  refine Qny hw (fun i=>by have:=hd i;omega) (fun fD v B τ hcB hN=>?_) (fun nf τ hs=>?_)
  ·have eC:plC t=0:=by unfold plC;rw [if_neg (by simpa using c),if_pos (Qid.2 fD)]
   have eB:plB t=toBk (fin0 (Qy t).1):=by unfold plB;rw [if_pos eC]
   have y0:aext (.tup [v,iv 0]) 0=some v:=rfl
   have y1:aext (.tup [v,iv 0]) 1=some (iv 0):=rfl
   simp only [y0,y1,RR]
   have:=h v B τ (by rw [eB];exact hcB) hN
   rw [eC] at this
   exact Qa this
  ·have eC:plC t=2:=by unfold plC;rw [if_neg (by simpa using c),if_neg (fun k=>nf (Qid.1 k))]
   have eB:plB t=[]:=by unfold plB;rw [if_neg (by rw [eC];decide)]
   have y0:aext (.tup [nilS,iv 2]) 0=some nilS:=rfl
   have y1:aext (.tup [nilS,iv 2]) 1=some (iv 2):=rfl
   simp only [y0,y1,RR]
   have:=h nilS [] τ (by rw [eB];rfl) (Qij hs)
   rw [eC] at this
   exact Qa this
 ·have eC:plC t=(Qy t).2:=by unfold plC;rw [if_pos (by simpa using c)]
  have eB:plB t=[]:=by unfold plB;rw [if_neg (by rw [eC];exact c)]
  simp only [c,RR]
  have:=h nilS [] σ (by rw [eB];rfl) (Qij (.refl σ))
  rw [eC] at this
  exact Qa this
end
end Go.Proofs.YtggnjjalfnhiiaaGreatDoor.E
/- The numbers of a line's cores are small. No program in sight. -/
namespace Go.Proofs.YtggnjjalfnhiiaaGreatDoor.E
open Go Go.RowKit
set_option maxRecDepth 100000
def smK (c:Cor):Prop:=0≤c.a∧c.a≤999∧0≤c.b∧c.b≤999
def AllK (C:List Cor):Prop:=∀c,c∈C→smK c
theorem AllK.one {C:List Cor} {c:Cor} (h:AllK C) (g:smK c):AllK (C++[c]):=fun x hx=>(List.mem_append.1 hx).elim (h x) fun hx=>by obtain rfl:=List.mem_singleton.1 hx;exact g
theorem QnS {k p:Int} {s:ByteArray} {d:List Dat}:smK ⟨k,p,0,0,s,d⟩:=⟨Int.le_refl 0,by show (0:Int)≤999;omega,Int.le_refl 0,by show (0:Int)≤999;omega⟩
theorem Qeg {k p:Int} {a:Nat} (h:a≤999):smK (nodC k p a):=⟨by show (0:Int)≤(a:Int);omega,by show (a:Int)≤999;omega,Int.le_refl 0,by show (0:Int)≤999;omega⟩
theorem QyP {p:Int} {a b:Nat} (h:a≤999) (g:b≤999):smK (locC p a b):=⟨by show (0:Int)≤(a:Int);omega,by show (a:Int)≤999;omega,by show (0:Int)≤(b:Int);omega,by show (b:Int)≤999;omega⟩
theorem QyQ {s:ByteArray}:∀(ns:List ByteArray) (b:Nat),posL ns s=some b→b<ns.length:=by
 intro ns
 induction ns with
 |nil=>intro b h;cases h
 |cons t r ih=>
  intro b h
  rw [posL] at h
  split at h
  ·have:0=b:=Option.some.inj h
   rw [List.length_cons];omega
  ·cases hp:posL r s with
   |none=>rw [hp] at h;cases h
   |some q=>
    rw [hp] at h
    have:q+1=b:=Option.some.inj h
    have:=ih q hp
    rw [List.length_cons];omega
def Sm3 (sc:Sco):Prop:=∀ns,ns∈sc→List.length ns≤3
theorem QvQ {s:ByteArray}:∀(sc:Sco) (a b:Nat),Sm3 sc→Jv sc s=some (a,b)→a<sc.length∧b<3:=by
 intro sc
 induction sc with
 |nil=>intro a b _ h;cases h
 |cons ns r ih=>
  intro a b h3 h
  rw [Jv] at h
  cases hp:posL ns s with
  |some k=>
   rw [hp] at h
   have:(0,k)=(a,b):=Option.some.inj h
   injection this with h1 h2
   have:=QyQ _ _ hp
   have:=h3 ns (by simp)
   rw [←h1,←h2,List.length_cons];omega
  |none=>
   rw [hp] at h
   cases hf:Jv r s with
   |none=>rw [hf] at h;cases h
   |some q=>
    rw [hf] at h
    have:(q.1+1,q.2)=(a,b):=Option.some.inj h
    injection this with h1 h2
    have:=ih q.1 q.2 (fun ns h=>h3 ns (List.mem_cons_of_mem _ h)) hf
    rw [←h2,List.length_cons];omega
def OkK (g:Gx) (m:Nat):Prop:=∀x p sc C,List.length sc≤m→Sm3 sc→AllK C→AllK (g x p sc C).1
theorem QpN {g:Nat→List Cor→Ex} (hg:∀k C,AllK C→AllK (g k C).1):∀ks C,AllK C→AllK (allE g ks C).1:=by
 intro ks
 induction ks with
 |nil=>intro C h;exact h
 |cons k r ih=>
  intro C h
  rw [allE]
  split
  ·exact hg k C h
  ·exact ih _ (hg k C h)
section
variable {ds:List Dat}
theorem Qz1 {g:Gx} {m:Nat} (hg:OkK g m) (hg1:OkK g (m+1)) {w:ByteArray} {ks:List Nat} {p:Int} {sc:Sco} {C:List Cor} (hs:sc.length≤m) (h3:Sm3 sc) (hC:AllK C):AllK (QaX ds g w ks p sc C).1:=by
 have asg:∀kind,AllK (asgE ds g ks p sc C kind).1:=fun kind=>by
  unfold asgE
  split
  ·exact hC
  split
  ·exact hC
  split
  ·exact hC
  ·exact hg _ _ _ _ hs h3 (hC.one QnS)
 have more:∀ns:List ByteArray,¬3<ns.length→Sm3 (ns::sc):=fun ns h n hn=>by
  rcases List.mem_cons.1 hn with rfl|hn
  ·omega
  ·exact h3 n hn
 unfold QaX
 split
 ·split
  ·exact hC
  ·exact hC.one QnS
 split
 ·split
  ·exact hC
  ·exact QpN (fun k C h=>hg _ _ _ _ hs h3 h) _ _ (hC.one (Qeg (by omega)))
 split
 ·split
  ·exact hC
  ·exact QpN (fun k C h=>hg _ _ _ _ hs h3 h) _ _ (hC.one (Qeg (by omega)))
 split
 ·unfold lamE
  split
  ·exact hC
  ·split
   ·exact hC
   ·split
    ·exact hC
    ·exact hg1 _ _ _ _ (by rw [List.length_cons];omega) (more _ (by assumption)) (hC.one (Qeg (by omega)))
 split
 ·unfold letE
  split
  ·exact hC
  ·split
   ·exact hC
   ·rename_i ns vs _
    split
    ·exact hC
    ·rename_i hn
     have h1:AllK (g (ks.getD 2 0) ((C.length+1:Nat):Int) (ns::sc) (C++[nodC 9 p 0]++[nodC 5 (C.length:Int) ns.length])).1:=hg1 _ _ _ _ (by rw [List.length_cons];omega) (more _ hn) ((hC.one (Qeg (by omega))).one (Qeg (by omega)))
     split
     ·exact h1
     ·exact QpN (fun k C h=>hg _ _ _ _ hs h3 h) _ _ h1
 split
 ·exact asg 8
 ·exact asg 7
theorem QAi:∀f m,m+f≤900→OkK (expE ds f) m:=by
 intro f
 induction f with
 |zero=>intro m _ x p sc C _ _ hC;exact hC
 |succ f ih=>
  intro m hm x p sc C hs h3 hC
  rw [expE]
  split
  ·exact hC.one QnS
  split
  ·split
   ·exact hC
   ·split
    ·rename_i a b e
     have:=QvQ _ _ _ h3 e
     exact hC.one (QyP (by omega) (by omega))
    ·exact hC.one QnS
  split
  ·exact hC
  split
  ·exact Qz1 (ih m (by omega)) (ih (m+1) (by omega)) hs h3 hC
  split
  ·exact hC
  ·exact QpN (fun k C h=>ih m (by omega) _ _ _ _ hs h3 h) _ _ (hC.one (Qeg (by omega)))
end
variable [L:Lam]
theorem Qt9 {t:List UInt8}:∀i,smK (Qi (Qy t).1 i):=by
 have no:AllK []:=fun c hc=>by cases hc
 have key:AllK (Qy t).1:=by
  unfold Qy
  split
  ·exact no
  unfold expR
  split
  ·exact no
  rename_i c
  have hl:=Qkk (Classical.byContradiction c)
  split
  ·exact no
  split
  ·exact no
  ·exact QAi _ 0 (by omega) _ _ _ _ (Nat.le_refl _) (fun ns h=>by cases h) no
 intro i
 by_cases hi:i<(Qy t).1.length
 ·have:=key _ (List.getElem_mem hi)
  rwa [QcP hi] at this
 ·have:Qi (Qy t).1 i=default:=by simp [Qi,List.getD,List.getElem?_eq_none (Nat.le_of_not_lt hi)]
  rw [this]
  exact QnS
end Go.Proofs.YtggnjjalfnhiiaaGreatDoor.E

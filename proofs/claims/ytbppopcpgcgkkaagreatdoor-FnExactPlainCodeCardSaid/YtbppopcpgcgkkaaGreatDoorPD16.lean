import Derived.Test.YtbppopcpgcgkkaaGreatDoorPD15
/- Forms that are expanded to cores: the program's way, all of it. -/
set_option linter.unusedSectionVars false
set_option linter.unusedSimpArgs false
set_option linter.unusedVariables false
namespace Go.Proofs.YtbppopcpgcgkkaaGreatDoor.E
open Go Go.RowKit
set_option maxRecDepth 100000
variable [L:Lam]
variable {σ σ1 τ τ':AH} {R:AEnd→AH→Prop}
section
variable {ds:List Dat} {φm f:Nat}
set_option maxHeartbeats 1000000 in
theorem expQ_all (hl:DLs ds) (hd:DOk ds):∀f,ExpQ ds f φm:=by
 intro f
 induction f with
 |zero=>intro σ x p sc C τ R hx hf;omega
 |succ f ih=>
  intro σ x p sc C τ R hx hfx hp h hsc hC hn h1
  have hdl:=hd.len
  have hkd:=hd.kind x hx
  have hnv:=nv_eq hd hx
  have hks:∀k,k∈kidsD ds x→k<ds.length∧ds.length≤f+k:=fun k hk=>by have:=hd.kid hk;omega
  have e0:∀{τ C},MSt σ τ φm (fdQ ds C)→lod (.ptr φm 0 0 0) τ=some (roD ds):=fun h=>h.fix rfl
  have l0:∀τ y,lod (.rop (encDat (dat ds y)) 0) τ=some (iv (dat ds y).kind):=fun _ _=>rfl
  have l3:∀τ y,lod (.rop (encDat (dat ds y)) 3) τ=some (str (dat ds y).name):=fun _ _=>rfl
  refine s_impl_expander_form_ok ?_
  unfold s_impl_expander_form
  simp only [e0 h,idx_ro hx len_encDat,dat_at hx,lodA_all (len_encDat _),RR]
  refine new_frz rfl (len_encDat _) rfl (one_encDat _) ?_
  simp only [l0,RR]
  rw [expE] at h1
  refine jn_by (P:=fun z τ'=>τ'=τ∧z=(.ptr φm 0 0 0,iv (x:Int),iv p,roSc sc,.rop (encDat (dat ds x)) 0,iv (dat ds x).kind,bv (decide ((dat ds x).kind=1)||decide ((dat ds x).kind=2)),())) ?_ ?_
  ·rintro z τ' ⟨rfl,rfl⟩
   by_cases c12:(dat ds x).kind=1∨(dat ds x).kind=2
   ·rw [if_pos c12] at h1
    have g:(decide ((dat ds x).kind=1)||decide ((dat ds x).kind=2))=true:=by simpa using c12
    simp only [g,e0 h,RR]
    refine c_impl_sub hl hd hx ?_
    simp only [bldCd,RR]
    refine c_impl_expander_put h (by omega) fun τ1 S1=>?_
    simp only [RR]
    exact ret_here (h1.ok S1)
   rw [if_neg c12] at h1
   have g:(decide ((dat ds x).kind=1)||decide ((dat ds x).kind=2))=false:=by simpa using c12
   by_cases c3:(dat ds x).kind=3
   ·rw [if_pos c3] at h1
    have g2:(decide ((3:Int)=1)||decide ((3:Int)=2))=false:=rfl
    simp only [c3,g2,l3,RR]
    refine c_impl_IsKeyword ?_
    simp only [RR]
    refine c_stop h.sub (fun hk=>?_) fun hk=>?_
    ·rw [if_pos hk] at h1
     exact h1.bad (by decide)
    rw [if_neg (by rw [hk];decide)] at h1
    simp only [jn,l3,RR]
    refine c_impl_find (by omega) (fun ns hns=>by have:=hsc ns hns;omega) ?_
    cases hf:findE sc (dat ds x).name with
    |some q=>
     rw [hf] at h1
     dsimp only at h1
     have a0:aext (fndV (some q)) 0=some (iv (q.1:Int)):=rfl
     have a1:aext (fndV (some q)) 1=some (iv (q.2:Int)):=rfl
     have a2:aext (fndV (some q)) 2=some (bv true):=rfl
     simp only [a0,a1,a2,bldCl,RR]
     refine nil_cor (locC p q.1 q.2) rfl rfl ?_
     refine c_impl_expander_put h (by omega) fun τ1 S1=>?_
     simp only [RR]
     exact ret_here (h1.ok S1)
    |none=>
     rw [hf] at h1
     dsimp only at h1
     have a0:aext (fndV none) 0=some (iv 0):=rfl
     have a1:aext (fndV none) 1=some (iv 0):=rfl
     have a2:aext (fndV none) 2=some (bv false):=rfl
     simp only [a0,a1,a2,l3,bldCn,RR]
     refine nil_cor (nmdC 3 p (dat ds x).name) rfl rfl ?_
     refine c_impl_expander_put h (by omega) fun τ1 S1=>?_
     simp only [RR]
     exact ret_here (h1.ok S1)
   rw [if_neg c3] at h1
   simp only [g,c3,e0 h,RR]
   refine c_impl_parts (by omega) ?_
   simp only [lenK,RR]
   refine c_stop h.sub (fun c0=>?_) fun c0=>?_
   ·have c0:(kidsD ds x).length=0:=by have:decide (((kidsD ds x).length:Int)=0)=true:=c0;simp at this;rw [this];rfl
    rw [if_pos c0] at h1
    exact h1.bad (by decide)
   have c0:¬(kidsD ds x).length=0:=by have:decide (((kidsD ds x).length:Int)=0)=false:=c0;simpa using this
   rw [if_neg c0] at h1
   have hk0:=hks _ (getD_mem (ks:=kidsD ds x) (j:=0) (by omega))
   have x0:∀τ,idx 1 (roK (kidsD ds x)) (.val (.int .i64 0)) τ=some (.rop [iv (((kidsD ds x).getD 0 0:Nat):Int)] 0):=fun τ=>idx_K (j:=0) (by omega)
   simp only [x0,lod_1,e0 h,idx_ro hk0.1 len_encDat,dat_at hk0.1,lodA_all (len_encDat _),RR]
   intro φ hφ
   simp only [true_and]
   refine sto_own (es:=[[iv 0,iv 0,iv 0,str ⟨#[]⟩]]) (cs:=encDat (dat ds ((kidsD ds x).getD 0 0))) (AH.set_same ..) (by simp) rfl rfl rfl (one_encDat _) ?_
   simp only [List.set_cons_zero,AH.set_set,true_and]
   refine jn_by (P:=fun z τ2=>τ2=τ'∧z=(.ptr φm 0 0 0,iv p,roSc sc,roK (kidsD ds x),.rop (encDat (dat ds ((kidsD ds x).getD 0 0))) 0,bv (decide ((dat ds ((kidsD ds x).getD 0 0)).kind=3∧kwB (dat ds ((kidsD ds x).getD 0 0)).name=true)),())) ?_ ?_
   ·rintro z τ2 ⟨rfl,rfl⟩
    by_cases cf:(dat ds ((kidsD ds x).getD 0 0)).kind=3∧kwB (dat ds ((kidsD ds x).getD 0 0)).name=true
    ·rw [if_pos cf] at h1
     have gf:decide ((dat ds ((kidsD ds x).getD 0 0)).kind=3∧kwB (dat ds ((kidsD ds x).getD 0 0)).name=true)=true:=by simpa using cf
     simp only [gf,l3,slc_K1 (show 1≤(kidsD ds x).length by omega),RR,true_and]
     exact c_impl_expander_keyword hl hd ih cf.2 hp (by omega) hks h hsc (by omega) (by omega) (h1.tail (.refl _))
    ·rw [if_neg cf] at h1
     have gf:decide ((dat ds ((kidsD ds x).getD 0 0)).kind=3∧kwB (dat ds ((kidsD ds x).getD 0 0)).name=true)=false:=by simpa using cf
     simp only [gf,lenK,RR]
     refine c_stop h.sub (fun c4=>?_) fun c4=>?_
     ·have c4:4<(kidsD ds x).length:=by have:decide ((4:Int)<((kidsD ds x).length:Int))=true:=c4;simp at this;omega
      rw [if_pos c4] at h1
      exact h1.bad (by decide)
     have c4:¬4<(kidsD ds x).length:=by have:decide ((4:Int)<((kidsD ds x).length:Int))=false:=c4;simp at this;omega
     rw [if_neg c4] at h1
     simp only [bldC0,RR]
     refine nil_cor (nodC 9 p 0) rfl rfl ?_
     refine c_impl_expander_put h (by omega) fun τ3 S3=>?_
     simp only [RR]
     exact c_impl_expander_all hd ih (Int.natCast_nonneg _) hks S3 hsc (by rw [List.length_append,List.length_singleton];omega) (by omega) (h1.tail (.refl _))
   ·intro k hk
    refine frz_cell hφ rfl ?_
    by_cases c:(dat ds ((kidsD ds x).getD 0 0)).kind=3
    ·simp only [l0,l3,c,RR]
     refine c_impl_IsKeyword ?_
     simp only [RR]
     exact hk _ _ ⟨rfl,by rw [dand_t c]<;>rfl⟩
    ·simp only [l0,c,RR]
     exact hk _ _ ⟨rfl,by rw [dand_f c]<;>rfl⟩
  ·intro k hk
   by_cases c1:(dat ds x).kind=1
   ·have:(decide ((dat ds x).kind=1)||decide ((dat ds x).kind=2))=true:=by simp [c1]
    rw [this] at hk
    simp only [c1,RR] at hk ⊢
    exact hk _ _ ⟨rfl,rfl⟩
   ·have:(decide ((dat ds x).kind=1)||decide ((dat ds x).kind=2))=decide ((dat ds x).kind=2):=by simp [c1]
    rw [this] at hk
    simp only [c1,RR]
    exact hk _ _ ⟨rfl,rfl⟩
end
def expV (ds:List Dat):AV:=if (expE ds ds.length 0 (-1) [] []).2≠0 then .tup [roC [],iv (expE ds ds.length 0 (-1) [] []).2] else if 160<(expE ds ds.length 0 (-1) [] []).1.length then .tup [roC [],iv 2] else .tup [roC (expE ds ds.length 0 (-1) [] []).1,iv 0]
set_option maxHeartbeats 1000000 in
theorem c_impl_expanded {ds:List Dat} (h0:dataF ds=0) (h:R (.ret (expV ds)) σ):acall TP fn_impl_expanded [roD ds] σ R:=by
 have hd:=DOk.of h0
 have hls:=DLs.of h0
 have hdl:=hd.len
 refine acall_imp (Q:=fun e τ=>∃v,e= .ret v∧AH.Sub σ τ∧Fz σ τ v (expV ds)) ?_ (fun e τ ⟨v,h1,h2,h3⟩=>⟨v,h1,_,σ,imp_freeze h2 h3,h⟩)
 refine s_impl_expanded_ok (tF:=ty_RiE) catch_92 fun φa φb hφa hφb=>?_
 unfold s_impl_expanded
 have hs1:AH.Sub σ ((σ.set φa ⟨0,1,[[.val (.slice none 0 0)]]⟩).set φb ⟨0,1,[[.val (.int .i64 0)]]⟩):=(AH.Sub.set (.refl σ) _ hφa).trans (.set (.refl _) _ hφb)
 have hne:φa≠φb:=by rintro rfl;rw [AH.set_same] at hφb;cases hφb
 have hFa:((σ.set φa ⟨0,1,[[.val (.slice none 0 0)]]⟩).set φb ⟨0,1,[[.val (.int .i64 0)]]⟩) φa=some ⟨0,1,[[.val (.slice none 0 0)]]⟩:=by rw [AH.set_ne' hne,AH.set_same]
 have hFb:((σ.set φa ⟨0,1,[[.val (.slice none 0 0)]]⟩).set φb ⟨0,1,[[.val (.int .i64 0)]]⟩) φb=some ⟨0,1,[[.val (.int .i64 0)]]⟩:=AH.set_same ..
 have hb0:σ φb=none:=by rwa [AH.set_ne' (Ne.symm hne)] at hφb
 generalize (σ.set φa ⟨0,1,[[.val (.slice none 0 0)]]⟩).set φb ⟨0,1,[[.val (.int .i64 0)]]⟩=σ1 at hs1 hFa hFb ⊢
 have hset:∀(a b:AV),AH.Sub σ ((σ1.set φa ⟨0,1,[[a]]⟩).set φb ⟨0,1,[[b]]⟩):=fun a b ψ F hF=>by
  rw [AH.set_ne' (by rintro rfl;rw [hb0] at hF;cases hF),AH.set_ne' (by rintro rfl;rw [hφa] at hF;cases hF)]
  exact hs1 _ _ hF
 have hpan:∀c:Int,expV ds= .tup [roC [],iv c]→RD φa φb ty_RiE (fun e τ=>∃v,e= .ret v∧AH.Sub σ τ∧Fz σ τ v (expV ds)) (.pan (flt c)) σ1:=fun c hc=>⟨c,_,_,rfl,hFa,hFb,_,rfl,hset _ _,by
  rw [hc]
  refine .tup rfl fun j hj=>?_
  match j,hj with
  |0,_=>exact .nil
  |1,_=>exact .same _⟩
 have eb:bld [(.val (.slice none 0 0)),(.val (.slice none 0 0))] [(0,1),(1,1)] [(0,roD ds)]=some (.agg [roD ds,nilS]):=rfl
 simp only [eb,RR]
 refine abox_new rfl fun φm hφm=>?_
 have S0:MSt σ1 (σ1.set φm ⟨0,(fdQ ds []).length,[[roD ds,nilS]]⟩) φm (fdQ ds []):=by
  refine MSt.new hφm rfl (fun i f hf=>?_) (by intro v hv;simp only [List.mem_cons,List.not_mem_nil,or_false] at hv;rcases hv with rfl|rfl<;>rfl)
  match i,hf with
  |0,hf=>obtain rfl:=Option.some.inj hf;exact ⟨rfl,rfl,rfl⟩
  |1,hf=>obtain rfl:=Option.some.inj hf;exact .nil
 refine acall_frz (σ0:=σ1.set φm ⟨0,2,[[roD ds,nilS]]⟩) (args':=[.ptr φm 0 0 0,iv ((0:Nat):Int),iv (-1),roSc []]) (.refl _) rfl (fun i hi=>?_) ?_
 ·match i,hi with
  |0,_=>exact .same _
  |1,_=>exact .same _
  |2,_=>exact .same _
  |3,_=>exact .nil
 have hb:=nv_bound hd (x:=0) (by omega)
 have hV:expV ds=expV ds:=rfl
 conv at hV=>rhs;unfold expV
 refine expQ_all hls hd ds.length σ1 0 (-1) [] [] _ _ (by omega) (by omega) (.inl ⟨rfl,rfl⟩) S0 (fun q hq=>by cases hq) (by simp;omega) (by simp;omega) ?_
 generalize expE ds ds.length 0 (-1) [] []=E at hV ⊢
 refine .step (fun c2=>?_) (.refl _) fun c2 τ' S=>?_
 ·rw [if_pos c2] at hV
  exact hpan _ hV
 rw [if_neg (by simpa using c2)] at hV
 have hfz:Fz σ1 τ' (.ptr φm 0 0 0) (.rop [roD ds,roC E.1] 0):=by
  obtain ⟨vs,q1,q2,q3,q4,q5⟩:=S.ex
  obtain ⟨v1,e1,b1⟩:=S.lst (i:=1) rfl
  have e0:lod (.ptr φm 0 0 0) τ'=some (roD ds):=S.fix rfl
  have z1:=S.fzl (i:=1) rfl e1 (by intro c hc;obtain ⟨x,_,rfl⟩:=List.mem_map.1 hc;rfl)
  have hl:vs.length=2:=q2
  obtain ⟨a0,a1,rfl⟩:∃a0 a1,vs=[a0,a1]:=by
   match vs,hl with
   |[a0,a1],_=>exact ⟨a0,a1,rfl⟩
  have y0:lod (.ptr φm 0 0 0) τ'=some a0:=lod_at q1 rfl rfl
  have y1:lod (.ptr φm 0 0 1) τ'=some a1:=lod_at q1 rfl rfl
  rw [y0] at e0;rw [y1] at e1
  obtain rfl:=Option.some.inj e0
  obtain rfl:=Option.some.inj e1
  refine .ptr q1 S.fr rfl (by simp) rfl rfl fun j hj=>?_
  match j,hj with
  |0,_=>exact .same _
  |1,_=>exact z1
 refine ⟨_,σ1,S.sub,hfz,?_⟩
 have l1:∀τ,lod (.rop [roD ds,roC E.1] 1) τ=some (roC E.1):=fun _=>rfl
 have an:anil (.rop [roD ds,roC E.1] 0)=some (.rop [roD ds,roC E.1] 0):=rfl
 simp only [an,l1,len_ro,RR]
 refine c_stop (.refl _) (fun c3=>?_) fun c3=>?_
 ·have c3:160<E.1.length:=by have:decide ((160:Int)<(E.1.length:Int))=true:=c3;simp at this;omega
  rw [if_pos c3] at hV
  exact hpan _ hV
 have c3:¬160<E.1.length:=by have:decide ((160:Int)<(E.1.length:Int))=false:=c3;simp at this;omega
 rw [if_neg c3] at hV
 refine sto_fld (cs:=[.val (.slice none 0 0)]) hFa rfl (by decide) (acells_one rfl) rfl ?_
 refine sto_fld (cs:=[.val (.int .i64 0)]) (by rw [AH.set_ne' (Ne.symm hne)];exact hFb) rfl (by decide) rfl rfl ?_
 have la:lod (.ptr φa 0 0 0) ((σ1.set φa ⟨0,1,[[roC E.1]]⟩).set φb ⟨0,1,[[.val (.int .i64 0)]]⟩)=some (roC E.1):=lod_at (i:=0) (by rw [AH.set_ne' hne];exact AH.set_same ..) rfl rfl
 have lb:lod (.ptr φb 0 0 0) ((σ1.set φa ⟨0,1,[[roC E.1]]⟩).set φb ⟨0,1,[[.val (.int .i64 0)]]⟩)=some (.val (.int .i64 0)):=lod_at (i:=0) (AH.set_same ..) rfl rfl
 show og (lod (.ptr φa 0 0 0) ((σ1.set φa ⟨0,1,[[roC E.1]]⟩).set φb ⟨0,1,[[.val (.int .i64 0)]]⟩)) _
 rw [la]
 show og (lod (.ptr φb 0 0 0) ((σ1.set φa ⟨0,1,[[roC E.1]]⟩).set φb ⟨0,1,[[.val (.int .i64 0)]]⟩)) _
 rw [lb]
 refine ret_here ⟨_,rfl,hset _ _,?_⟩
 rw [hV]
 exact .same _
theorem c_impl_ExpandData {ds:List Dat} (h:R (.ret (.agg [iv (expR ds).2,roC (expR ds).1])) σ):acall TP fn_impl_ExpandData [roD ds] σ R:=by
 refine s_impl_ExpandData_ok ?_
 unfold s_impl_ExpandData
 intro φ hφ
 refine c_impl_DataFault ?_
 unfold expR at h
 simp only [RR]
 by_cases c:dataF ds=0
 ·rw [if_neg (by simpa using c)] at h
  simp only [c,RR]
  refine c_impl_expanded c ?_
  unfold expV
  generalize expE ds ds.length 0 (-1) [] []=E at h ⊢
  have fin:∀(a:Int) (cs:List Cor),R (.ret (.agg [iv a,roC cs])) σ→onr (fun v14 σ=>
    og (aext v14 0) fun v15=>
    og (aext v14 1) fun v16=>
    og (bld [(.val (.int .i64 0)),(.val (.slice none 0 0))] [(0,1),(1,1)] [(0,v16),(1,v15)]) fun v19=>
    sto 2 (.ptr φ 0 0 0) v19 σ fun σ=>
    og (lodA 2 (.ptr φ 0 0 0) σ) fun r2=>
    aret r2 σ R) (fun v σ=>apan v σ R) (.ret (.tup [roC cs,iv a])) (σ.set φ ⟨0,2,[[iv 0,nilS]]⟩):=fun a cs hh=>by
   have x0:aext (.tup [roC cs,iv a]) 0=some (roC cs):=rfl
   have x1:aext (.tup [roC cs,iv a]) 1=some (iv a):=rfl
   have eb:bld [(.val (.int .i64 0)),(.val (.slice none 0 0))] [(0,1),(1,1)] [(0,iv a),(1,roC cs)]=some (.agg [iv a,roC cs]):=rfl
   simp only [x0,x1,eb,RR]
   exact fin_cell hφ rfl rfl (by intro x hx;simp at hx;rcases hx with rfl|rfl<;>rfl) hh
  by_cases c2:E.2=0
  ·rw [if_neg (by simpa using c2)] at h ⊢
   by_cases c3:160<E.1.length
   ·rw [if_pos c3] at h ⊢
    exact fin _ _ h
   ·rw [if_neg c3] at h ⊢
    exact fin _ _ h
  ·rw [if_pos (by simpa using c2)] at h ⊢
   exact fin _ _ h
 ·rw [if_pos (by simpa using c)] at h
  have eb:bld [(.val (.int .i64 0)),(.val (.slice none 0 0))] [(0,1),(1,1)] [(0,iv (dataF ds))]=some (.agg [iv (dataF ds),nilS]):=rfl
  simp only [c,eb,RR]
  refine fin_cellZ (cs':=[iv (dataF ds),roC []]) hφ rfl rfl (by intro x hx;simp at hx;rcases hx with rfl|rfl<;>rfl) rfl (fun j hj=>?_) h
  match j,hj with
  |0,_=>exact .same _
  |1,_=>exact .nil
end Go.Proofs.YtbppopcpgcgkkaaGreatDoor.E
/- Code of cores, by both. -/
namespace Go.Proofs.YtbppopcpgcgkkaaGreatDoor.E
open Go Go.RowKit
set_option maxRecDepth 100000
variable [L:Lam]
variable {σ τ τ':AH} {R:AEnd→AH→Prop}
theorem fin_cR {φ:Nat} {z cs:List AV} (hF:τ φ=some ⟨0,2,[z]⟩) (hz:z.length=2) (hc:cs.length=2) (h1:∀y,y∈cs→y.one=true) (h:aret (.agg cs) (τ.set φ ⟨0,2,[cs]⟩) R):
  sto 2 (.ptr φ 0 0 0) (.agg cs) τ fun σ=>og (lodA 2 (.ptr φ 0 0 0) σ) fun r=>aret r σ R:=by
 refine sto_own (es:=[z]) (cs:=cs) hF (by simp) (by simpa using hz) rfl hc h1 ?_
 simp only [List.set_cons_zero]
 have e:=lodA_at (σ:=τ.set φ ⟨0,2,[cs]⟩) (φ:=φ) (st:=0) (i:=0) (n:=2) (cs:=cs) (AH.set_same ..) rfl rfl hc
 rw [e]
 exact h
theorem newB_nul (hs:AH.Sub σ τ):NewB σ τ nilS []:=⟨⟨nilB,fun p hp=>by cases hp⟩,.nil,(fun ψ c=>by cases c),hs⟩
end Go.Proofs.YtbppopcpgcgkkaaGreatDoor.E
/- Code that is lent, and handed back. -/
namespace Go.Proofs.YtbppopcpgcgkkaaGreatDoor.E
open Go Go.RowKit
set_option maxRecDepth 100000
variable [L:Lam]
variable {σ τ τ':AH} {R:AEnd→AH→Prop}
open Classical in
noncomputable def only (τ:AH) (F:List Nat):AH:=fun φ=>if φ∈F then τ φ else none
theorem opsK_ub {N:Nat}:∀(os:List OpD) (k:Int),(∀o,o∈os→o.data.length≤N)→opsK k os≤k+(os.length:Int)*(6+4*(N:Int)):=by
 intro os
 induction os with
 |nil=>intro k _;simp [opsK]
 |cons o r ih=>
  intro k h
  have h1:=ih (k+1+1+1+1+1+1+4*(o.data.length:Int)) fun o ho=>h o (List.mem_cons_of_mem _ ho)
  have h2:=h o (List.mem_cons_self ..)
  simp only [opsK,List.length_cons]
  have e:((r.length+1:Nat):Int)*(6+4*(N:Int))=(r.length:Int)*(6+4*(N:Int))+(6+4*(N:Int)):=by
   rw [Int.natCast_add,Int.add_mul];simp
  rw [e]
  omega
theorem blksK_ub:∀(bs:List Blk) (k:Int),(∀b,b∈bs→bO 1048576 b.ops)→blksK k bs≤k+(bs.length:Int)*4398052802561:=by
 intro bs
 induction bs with
 |nil=>intro k _;simp [blksK]
 |cons b r ih=>
  intro k h
  have h1:=ih (opsK (k+1) b.ops) fun o ho=>h o (List.mem_cons_of_mem _ ho)
  obtain ⟨h2,h3⟩:=h b (List.mem_cons_self ..)
  have h4:=opsK_ub (N:=1048576) b.ops (k+1) fun o ho=>(h3 o ho).2.1
  simp only [blksK,List.length_cons]
  omega
theorem blksK_bC {bs:List Blk} (h:bC 1048576 bs):blksK 1 bs≤9000000000000000000:=by
 have:=blksK_ub bs 1 h.2
 have:=h.1
 omega
end Go.Proofs.YtbppopcpgcgkkaaGreatDoor.E
/- Code of a line: by both; the law of PlainCode. -/
namespace Go.Proofs.YtbppopcpgcgkkaaGreatDoor.E
open Go Go.RowKit
set_option maxRecDepth 100000
variable [L:Lam]
variable {σ τ τ':AH} {R:AEnd→AH→Prop}
def bCo (N:Nat) (cs:List Cor):Prop:=cs.length≤N∧∀x,x∈cs→x.name.size≤N∧bD N x.data
theorem bCo_at {N:Nat} {cs:List Cor} (h:bCo N cs) (i:Nat):(corAt cs i).name.size≤N∧bD N (corAt cs i).data:=by
 by_cases hi:i<cs.length
 ·rw [←corAt_eq hi];exact h.2 _ (List.getElem_mem hi)
 ·have:corAt cs i=default:=by simp [corAt,List.getD,List.getElem?_eq_none (Nat.le_of_not_lt hi)]
  rw [this]
  exact ⟨Nat.zero_le _,Nat.zero_le _,fun d hd=>by cases hd⟩
def plC (t:List UInt8):Int:=if (readC t).2≠0 then (readC t).2 else if fitB (fin0 (readC t).1) then 0 else 2
def plB (t:List UInt8):List Blk:=if plC t=0 then toBk (fin0 (readC t).1) else []
theorem readC_bCo {t:List UInt8} (hl:t.length≤1048576) (h:(readC t).2=0):bCo 1048576 (readC t).1:=by
 obtain ⟨hw,hd⟩:=readC_wf h
 have hs:=readC_sm hl
 refine ⟨by have:=hw.len;omega,fun c hc=>⟨(hs c hc).1,?_,(hs c hc).2⟩⟩
 obtain ⟨i,hi,rfl⟩:=corAt_mem hc
 have:=hd i;omega
theorem plB_bC {t:List UInt8} (hl:t.length≤1048576):bC 1048576 (plB t):=by
 unfold plB
 split
 case isFalse=>exact ⟨by simp,fun b hb=>by cases hb⟩
 rename_i h0
 have hc:(readC t).2=0:=by
  unfold plC at h0
  split at h0
  ·rename_i c;exact absurd h0 c
  ·rename_i c;simpa using c
 have hf:fits (fin0 (readC t).1):=by
  unfold plC at h0
  rw [if_neg (by simpa using hc)] at h0
  split at h0
  ·rename_i c;exact fitB_iff.1 c
  ·cases h0
 have hb:=readC_bCo hl hc
 have hA:AllO (fun o=>o.name.size≤1048576∧bD 1048576 o.data) (fin0 (readC t).1):=mkC_all ⟨fun o h1 h2=>by rw [h1,h2];exact ⟨by rw [size_none];omega,Nat.zero_le _,fun d hd=>by cases hd⟩,fun k i=>⟨(bCo_at hb i).1,Nat.zero_le _,fun d hd=>by cases hd⟩,fun i=>⟨by show (⟨#[]⟩:ByteArray).size≤_;rw [size_none];omega,(bCo_at hb i).2⟩,fun o a h=>h⟩ _ _ _ _ _ (fun p hp q hq=>by simp at hp;subst hp;cases hq)
 refine ⟨by have:=hf.1;simp only [toBk,List.length_map];omega,fun b hb=>?_⟩
 obtain ⟨p,hp,rfl⟩:=List.mem_map.1 hb
 refine ⟨?_,fun o ho=>hA p hp o ho⟩
 obtain ⟨k,hk,rfl⟩:=List.mem_iff_getElem.1 hp
 have:=hf.2 k hk
 unfold lenS' at this
 rw [show (fin0 (readC t).1).getD k (0,[])=(fin0 (readC t).1)[k] by simp [List.getD,hk]] at this
 show (fin0 (readC t).1)[k].2.length≤_
 omega
theorem cores_steps {f1 f2:FuncId} {t:List UInt8} (h1:∀{σ:AH} {R:AEnd→AH→Prop},R (.ret (.agg [iv (dataR t).2.1,iv ((dataR t).2.2:Nat),roD (dataR t).1])) σ→acall TP f1 [str (bs t)] σ R)
  (h2:∀{σ:AH} {R:AEnd→AH→Prop},R (.ret (.agg [iv (expR (dataR t).1).2,roC (expR (dataR t).1).1])) σ→acall TP f2 [roD (dataR t).1] σ R) (h:R (.ret (.tup [roC (readC t).1,iv (readC t).2])) σ):
  acall TP f1 [str (bs t)] σ (onr (fun v7 σ=>
 new [(.val (.int .i64 0)),(.val (.int .i64 0)),(.val (.slice none 0 0))] σ fun v4 σ=>
 sto 3 v4 v7 σ fun σ=>
 frz v4 σ fun f4 σ=>
 og (fldA 0 f4) fun v8=>
 og (lod v8 σ) fun v9=>
 og (ibin .neq v9 (.val (.int .i64 0))) fun v10=>
 apick v10 (
  og (fldA 0 f4) fun v11=>
  og (lod v11 σ) fun v12=>
  aret (.tup [(.val (.slice none 0 0)),v12]) σ R) (
  og (fldA 2 f4) fun v13=>
  og (lod v13 σ) fun v14=>
  acall TP f2 [v14] σ (onr (fun v15 σ=>
  new [(.val (.int .i64 0)),(.val (.slice none 0 0))] σ fun v5 σ=>
  sto 2 v5 v15 σ fun σ=>
  frz v5 σ fun f5 σ=>
  og (fldA 1 f5) fun v16=>
  og (lod v16 σ) fun v17=>
  og (fldA 0 f5) fun v18=>
  og (lod v18 σ) fun v19=>
  aret (.tup [v17,v19]) σ R) (fun v σ=>apan v σ R)))) (fun v σ=>apan v σ R)):=by
 refine h1 ?_
 simp only [RR]
 refine new_frz rfl rfl rfl (by intro y hy;simp only [List.mem_cons,List.not_mem_nil,or_false] at hy;rcases hy with rfl|rfl|rfl<;>rfl) ?_
 have l0:∀τ,lod (.rop [iv (dataR t).2.1,iv ((dataR t).2.2:Nat),roD (dataR t).1] 0) τ=some (iv (dataR t).2.1):=fun _=>rfl
 have l2:∀τ,lod (.rop [iv (dataR t).2.1,iv ((dataR t).2.2:Nat),roD (dataR t).1] 2) τ=some (roD (dataR t).1):=fun _=>rfl
 unfold readC at h
 simp only [l0,RR]
 by_cases c:(dataR t).2.1=0
 ·rw [if_neg (by simpa using c)] at h
  simp only [c,l2,RR]
  refine h2 ?_
  simp only [RR]
  refine new_frz rfl rfl rfl (one2 rfl rfl) ?_
  have m0:∀τ,lod (.rop [iv (expR (dataR t).1).2,roC (expR (dataR t).1).1] 0) τ=some (iv (expR (dataR t).1).2):=fun _=>rfl
  have m1:∀τ,lod (.rop [iv (expR (dataR t).1).2,roC (expR (dataR t).1).1] 1) τ=some (roC (expR (dataR t).1).1):=fun _=>rfl
  simp only [m0,m1,RR]
  exact ret_here h
 ·rw [if_pos (by simpa using c)] at h
  simp only [c,l0,RR]
  refine aret_freeze (a':= .tup [roC [],iv (dataR t).2.1]) (.refl _) (.tup rfl fun j hj=>?_) h
  match j,hj with
  |0,_=>exact .nil
  |1,_=>exact .same _
theorem c_spec_l8Cores {t:List UInt8} (hl:t.length≤1048576) (h:R (.ret (.tup [roC (readC t).1,iv (readC t).2])) σ):acall TP fn_spec_l8Cores [str (bs t)] σ R:=by
 refine s_spec_l8Cores_ok ?_
 unfold s_spec_l8Cores
 exact cores_steps (fun h=>c_spec_ReadData hl h) (fun h=>c_spec_ExpandData (dataR_sDn hl).sD h) h
theorem c_spec_l13Plain {t:List UInt8} (hl:t.length≤1048576) (h:R (.ret (.tup [roBk (plB t),iv (plC t)])) σ):acall TP fn_spec_l13Plain [str (bs t)] σ R:=by
 refine s_spec_l13Plain_ok ?_
 unfold s_spec_l13Plain
 refine c_spec_l8Cores hl ?_
 have x0:aext (.tup [roC (readC t).1,iv (readC t).2]) 0=some (roC (readC t).1):=rfl
 have x1:aext (.tup [roC (readC t).1,iv (readC t).2]) 1=some (iv (readC t).2):=rfl
 have no:∀c:Int,c≠0→plC t=c→aret (.tup [(.val (.slice none 0 0)),iv c]) σ R:=fun c hc e=>by
  have eB:plB t=[]:=by unfold plB;rw [if_neg (by rw [e];exact hc)]
  rw [eB,e] at h
  refine aret_freeze (a':= .tup [roBk [],iv c]) (.refl _) (.tup rfl fun j hj=>?_) h
  match j,hj with
  |0,_=>exact .nil
  |1,_=>exact .same _
 simp only [x0,x1,RR]
 by_cases c:(readC t).2=0
 ·obtain ⟨hw,hd⟩:=readC_wf c
  simp only [c,RR]
  refine c_spec_l9Code hw (fun i=>by have:=hd i;omega) ?_
  have y0:aext (.tup [roBk (toBk (fin0 (readC t).1)),bv (fitB (fin0 (readC t).1))]) 0=some (roBk (toBk (fin0 (readC t).1))):=rfl
  have y1:aext (.tup [roBk (toBk (fin0 (readC t).1)),bv (fitB (fin0 (readC t).1))]) 1=some (bv (fitB (fin0 (readC t).1))):=rfl
  simp only [y0,y1,RR]
  cases hf:fitB (fin0 (readC t).1) with
  |true=>
   have eC:plC t=0:=by unfold plC;rw [if_neg (by simpa using c),if_pos hf]
   have eB:plB t=toBk (fin0 (readC t).1):=by unfold plB;rw [if_pos eC]
   rw [eB,eC] at h
   simp only [RR]
   exact ret_here h
  |false=>
   simp only [RR]
   exact no 2 (by decide) (by unfold plC;rw [if_neg (by simpa using c),if_neg (by rw [hf];decide)])
 ·simp only [c,RR]
  exact no _ c (by unfold plC;rw [if_pos (by simpa using c)])
theorem c_spec_PlainCode {t:List UInt8} (hl:t.length≤1048576) (h:R (.ret (.agg [iv (plC t),roBk (plB t)])) σ):acall TP fn_spec_PlainCode [str (bs t)] σ R:=by
 refine s_spec_PlainCode_ok ?_
 unfold s_spec_PlainCode
 intro φ hφ
 refine c_spec_l13Plain hl ?_
 have x0:aext (.tup [roBk (plB t),iv (plC t)]) 0=some (roBk (plB t)):=rfl
 have x1:aext (.tup [roBk (plB t),iv (plC t)]) 1=some (iv (plC t)):=rfl
 have eb:bld [(.val (.int .i64 0)),(.val (.slice none 0 0))] [(0,1),(1,1)] [(0,iv (plC t)),(1,roBk (plB t))]=some (.agg [iv (plC t),roBk (plB t)]):=rfl
 simp only [x0,x1,eb,RR]
 exact fin_cell hφ rfl rfl (one2 rfl rfl) h
section
variable [K:Knows QS]
theorem c_impl_readCore {t:List UInt8} (hl:t.length≤1048576) (h:R (.ret (.tup [roC (readC t).1,iv (readC t).2])) σ):acall TP fn_impl_readCore [str (bs t)] σ R:=by
 refine s_impl_readCore_ok ?_
 unfold s_impl_readCore
 exact cores_steps (fun h=>c_impl_ReadData (fun h=>c_impl_TokensOf h) h) (fun h=>c_impl_ExpandData h) h
theorem c_impl_plainCode {t:List UInt8} (hl:t.length≤1048576) (h:∀v B τ,cont B=plB t→NewB σ τ v B→R (.ret (.tup [v,iv (plC t)])) τ):acall TP fn_impl_plainCode [str (bs t)] σ R:=by
 refine s_impl_plainCode_ok ?_
 unfold s_impl_plainCode
 refine c_impl_readCore hl ?_
 have x0:aext (.tup [roC (readC t).1,iv (readC t).2]) 0=some (roC (readC t).1):=rfl
 have x1:aext (.tup [roC (readC t).1,iv (readC t).2]) 1=some (iv (readC t).2):=rfl
 simp only [x0,x1,RR]
 by_cases c:(readC t).2=0
 ·obtain ⟨hw,hd⟩:=readC_wf c
  simp only [c,RR]
  refine c_impl_compiled hw (fun i=>by have:=hd i;omega) (fun fD v B τ hcB hN=>?_) (fun nf τ hs=>?_)
  ·have eC:plC t=0:=by unfold plC;rw [if_neg (by simpa using c),if_pos (fitB_iff.2 fD)]
   have eB:plB t=toBk (fin0 (readC t).1):=by unfold plB;rw [if_pos eC]
   have y0:aext (.tup [v,iv 0]) 0=some v:=rfl
   have y1:aext (.tup [v,iv 0]) 1=some (iv 0):=rfl
   simp only [y0,y1,RR]
   have:=h v B τ (by rw [eB];exact hcB) hN
   rw [eC] at this
   exact ret_here this
  ·have eC:plC t=2:=by unfold plC;rw [if_neg (by simpa using c),if_neg (fun k=>nf (fitB_iff.1 k))]
   have eB:plB t=[]:=by unfold plB;rw [if_neg (by rw [eC];decide)]
   have y0:aext (.tup [nilS,iv 2]) 0=some nilS:=rfl
   have y1:aext (.tup [nilS,iv 2]) 1=some (iv 2):=rfl
   simp only [y0,y1,RR]
   have:=h nilS [] τ (by rw [eB];rfl) (newB_nul hs)
   rw [eC] at this
   exact ret_here this
 ·have eC:plC t=(readC t).2:=by unfold plC;rw [if_pos (by simpa using c)]
  have eB:plB t=[]:=by unfold plB;rw [if_neg (by rw [eC];exact c)]
  simp only [c,RR]
  have:=h nilS [] σ (by rw [eB];rfl) (newB_nul (.refl σ))
  rw [eC] at this
  exact ret_here this
theorem c_impl_PlainCode {t:List UInt8} (hl:t.length≤1048576) (h:∀v B τ,cont B=plB t→NewB σ τ v B→R (.ret (.agg [iv (plC t),v])) τ):acall TP fn_impl_PlainCode [str (bs t)] σ R:=by
 refine s_impl_PlainCode_ok ?_
 unfold s_impl_PlainCode
 intro φ hφ
 have hs1:AH.Sub σ (σ.set φ ⟨0,[(AV.val (.int .i64 0)),(AV.val (.slice none 0 0))].length,[[(AV.val (.int .i64 0)),(AV.val (.slice none 0 0))]]⟩):= .set (.refl σ) _ hφ
 have hF1:=AH.set_same σ φ (⟨0,2,[[(AV.val (.int .i64 0)),(AV.val (.slice none 0 0))]]⟩:Fam)
 refine c_impl_plainCode hl fun v B τ hcB hN=>?_
 have y0:aext (.tup [v,iv (plC t)]) 0=some v:=rfl
 have y1:aext (.tup [v,iv (plC t)]) 1=some (iv (plC t)):=rfl
 have eb:=bld_buf (n:=plC t) hN.own.1
 simp only [y0,y1,eb,RR]
 have hφB:φ∉blksF v B:=fun c=>by have:=hN.fr φ c;rw [AH.set_same] at this;cases this
 refine fin_cR (hN.sub _ _ hF1) rfl rfl (one2 rfl hN.one) (ret_here ?_)
 exact h v B _ hcB ⟨hN.own.keep fun ψ hψ=>AH.set_ne' (by rintro rfl;exact hφB hψ),hN.nd,fun ψ hψ=>hs1.none (hN.fr ψ hψ),fun ψ G hG=>by
  rw [AH.set_ne' (by rintro rfl;rw [hφ] at hG;cases hG)]
  exact hN.sub _ _ (hs1 _ _ hG)⟩
theorem c_laws_FnExactPlainCode {t:List UInt8} {R:AEnd→AH→Prop} (h:∀σ,R (.ret (bv true)) σ):acall TP fn_laws_FnExactPlainCode [str (bs t)] ah0 R:=by
 have hret:∀σ,aret (bv true) σ R:=fun σ=>ret_here (h σ)
 refine s_laws_FnExactPlainCode_ok ?_
 unfold s_laws_FnExactPlainCode
 simp only [size_bs,RR]
 refine apick_cases (fun _=>hret _) (fun c=>?_)
 have hl:t.length≤1048576:=by have:=of_decide_eq_false c;omega
 have hU:=plB_bC hl
 refine c_spec_PlainCode hl ?_
 refine new_frz rfl rfl rfl (one2 rfl rfl) ?_
 refine c_impl_PlainCode hl fun v B τ1 hB hNB=>?_
 refine new_frz rfl rfl rfl (one2 rfl hNB.one) ?_
 simp only [lodA_all (cs:=[_,_]) (n:=2) rfl,RR]
 have heq:∀(τ:AH) (v:AV) (B:List BI) (K:AEnd→AH→Prop),BlksH τ v B→cont B=plB t→K (.ret (bv true)) τ→acall TP fn_laws_eqCodeResult [.agg [iv (plC t),v],.agg [iv (plC t),roBk (plB t)]] τ K:=fun τ v B K h1 h2 h3=>by
  have:=lend_eqCodeResult (c:=plC t) (K:=K) h1 (h2▸hU) h3
  rwa [h2] at this
 refine heq _ _ _ _ hNB.own hB ?_
 simp only [lodA_all (cs:=[_,_]) (n:=2) rfl,RR]
 have hk2:=blksK_bC hU
 have hl2:=blksK_le (plB t) 1
 refine c_laws_markCodeResultX hNB.own hNB.nd (by decide) (hB▸hk2) fun τ3 hB3 _=>?_
 simp only [lodA_all (cs:=[_,_]) (n:=2) rfl,RR]
 have hcm:cont (mkBk 1 B)=mkBksD 1 (plB t):=by rw [cont_mkBk,hB]
 refine lend_held hB3 hcm (by decide) hk2 ?_
 have g2:¬blksK 1 (plB t)<0:=by omega
 simp only [g2,hB,dec_self,RR]
 refine c_impl_PlainCode hl fun v' B' τ4 hB' hNB'=>?_
 refine new_frz rfl rfl rfl (one2 rfl hNB'.one) ?_
 simp only [lodA_all (cs:=[_,_]) (n:=2) rfl,RR]
 refine heq _ _ _ _ hNB'.own hB' ?_
 simp only [lodA_all (cs:=[_,_]) (n:=2) rfl,RR]
 have hB4:BlksH τ4 v (mkBk 1 B):=(Kp.of_sub (F:=[]) hNB'.sub).blks hB3 fun _ _ c=>by cases c
 refine lend_held hB4 hcm (by decide) hk2 ?_
 simp only [g2,dec_self,RR]
 exact hret _
theorem c_laws_FnExactPlainCodeB {x:ByteArray} {R:AEnd→AH→Prop} (h:∀σ,R (.ret (bv true)) σ):acall TP fn_laws_FnExactPlainCode [str x] ah0 R:=by
 have:=c_laws_FnExactPlainCode (t:=by8 x) h
 rwa [bs_by8] at this
end
end Go.Proofs.YtbppopcpgcgkkaaGreatDoor.E

import Derived.Test.YtbppopcpgcgkkaaGreatDoorPD13
import Derived.Tactics
/- Cores that are made to code: what is made, in memory. -/
set_option linter.unusedSectionVars false
set_option linter.unusedSimpArgs false
set_option linter.unusedVariables false
namespace Go.Proofs.YtbppopcpgcgkkaaGreatDoor.E
open Go Go.RowKit
set_option maxRecDepth 100000
variable [L:Lam]
variable {σ τ τ':AH} {R:AEnd→AH→Prop}
theorem nilB {sz:Nat}:Buf τ sz nilS []:= .inl ⟨.inl rfl,rfl⟩
theorem modify_at {X:Type} (A C:List X) (p:X) (f:X→X):(A++p::C).modify A.length f=A++f p::C:=by
 induction A with
 |nil=>rfl
 |cons a A ih=>simpa using ih
theorem getD_at {X:Type} (A C:List X) (p d:X):(A++p::C).getD A.length d=p:=by simp [List.getD]
theorem split_at' {X:Type} {l:List X} {i:Nat} (h:i<l.length):∃A p C,l=A++p::C∧A.length=i:=by
 refine ⟨l.take i,l[i],l.drop (i+1),?_,by simp;omega⟩
 rw [←List.drop_eq_getElem_cons h,List.take_append_drop]
abbrev rowB (p:Int × List OpD) (a:AV):List AV:=[iv p.1,a]
abbrev innB (p:Int × List OpD):List (List AV):=p.2.map encOp
structure CSt (pre:List AV) (σ τ:AH) (φm:Nat) (B:St):Prop where
 ex:∃v bs,τ φm=some ⟨0,pre.length+1,[pre++[v]]⟩∧N2 rowB 2 innB 7 σ τ v bs∧bs.map (·.1)=B∧φm∉famL v++l2F bs
 fr:σ φm=none
variable {pre:List AV} {φm:Nat} {B:St}
theorem lod_m {v:AV} (h:τ φm=some ⟨0,pre.length+1,[pre++[v]]⟩):lod (.ptr φm 0 0 pre.length) τ=some v:=lod_at h rfl (by simp)
theorem CSt.len (h:CSt pre σ τ φm B):∃v,lod (.ptr φm 0 0 pre.length) τ=some v∧lenS v=some (iv (B.length:Int)):=by
 obtain ⟨v,bs,h1,h2,rfl,_⟩:=h.ex
 exact ⟨v,lod_m h1,by rw [h2.len,List.length_map]⟩
theorem CSt.fix (h:CSt pre σ τ φm B) {i:Nat} {x:AV} (hx:pre[i]? =some x):lod (.ptr φm 0 0 i) τ=some x:=by
 obtain ⟨v,bs,h1,_⟩:=h.ex
 refine lod_at h1 rfl ?_
 have hi:=(List.getElem?_eq_some_iff.1 hx).1
 simp [List.getElem?_append_left hi,hx]
theorem CSt.sub (h:CSt pre σ τ φm B):AH.Sub σ τ:=by obtain ⟨v,bs,_,h2,_⟩:=h.ex;exact h2.sub
theorem CSt.grow (h:CSt pre σ τ φm B) (hs:AH.Sub τ τ'):CSt pre σ τ' φm B:=by
 obtain ⟨v,bs,h1,h2,h3,h4⟩:=h.ex
 exact ⟨⟨v,bs,hs _ _ h1,h2.grow hs,h3,h4⟩,h.fr⟩
theorem CSt.open (h:CSt pre σ τ φm B) {i:Nat} (hi:i<B.length):∃v φ st w,lod (.ptr φm 0 0 pre.length) τ=some v∧idx 2 v (iv (i:Int)) τ=some (.ptr φ st i 0)∧lod (.ptr φ st i 1) τ=some w∧lenS w=some (iv (lenS' B i:Int))∧
  (∀(o:OpD) (k:AV→AH→Prop),lenS' B i+1≤4294967296→(∀w' τ1,lod (.ptr φm 0 0 pre.length) τ1=some v→idx 2 v (iv (i:Int)) τ1=some (.ptr φ st i 0)→
   (∀k':AH→Prop,(∀τ2,CSt pre σ τ2 φm (putS B i o)→lod (.ptr φm 0 0 pre.length) τ2=some v→idx 2 v (iv (i:Int)) τ2=some (.ptr φ st i 0)→lod (.ptr φ st i 1) τ2=some w'→lenS w'=some (iv ((lenS' B i+1:Nat):Int))→k' τ2)→sto 1 (.ptr φ st i 1) w' τ1 k')→k w' τ1)→E.app 7 w (.ro [encOp o]) τ k)∧
  (∀j:Nat,j<lenS' B i→∃φw stw,idx 7 w (iv (j:Int)) τ=some (.ptr φw stw j 0)∧∀(a:Int) (k:AH→Prop),(∀τ2,CSt pre σ τ2 φm (setS B i j a)→k τ2)→sto 1 (.ptr φw stw j 1) (iv a) τ k):=by
 obtain ⟨v,bs,h1,h2,rfl,h4⟩:=h.ex
 rw [List.length_map] at hi
 obtain ⟨A,p,C,rfl,rfl⟩:=split_at' hi
 obtain ⟨φ,st,rfl,hF⟩:=h2.own (by simp)
 have hlen:(A++p::C).length=A.length+(C.length+1):=by simp
 have ix:∀τ1,τ1 φ=some ⟨st,2,(A++p::C).map fun p=>rowB p.1 p.2⟩→idx 2 (.own φ st 0 (A++p::C).length) (iv (A.length:Int)) τ1=some (.ptr φ st A.length 0):=fun τ1 hF1=>by
  have:=idx_own (st:=st) (off:=0) hF1 (show A.length<(A++p::C).length by simp)
  rwa [Nat.zero_add] at this
 have hb:Buf τ 7 p.2 (innB p.1):=h2.ins p (by simp)
 have hpl:lenS' ((A++p::C).map (·.1)) A.length=p.1.2.length:=by
  unfold lenS'
  rw [List.map_append,List.map_cons]
  have:=getD_at (A.map (·.1)) (C.map (·.1)) p.1 ((0,[]):Int × List OpD)
  rw [List.length_map] at this
  rw [this]
 have hlw:=buf_len hb
 rw [List.length_map] at hlw
 refine ⟨_,φ,st,p.2,lod_m h1,ix τ hF,lod_at hF rfl (by simp [List.getD]),by rw [hpl];exact hlw,fun o k hn hk=>?_,fun j hj=>?_⟩
 ·rw [hpl] at hn hk
  have hφm:φm∉famL p.2:=fun c=>h4 (List.mem_append_right _ (l2F_mem (by simp) c))
  have hφφ:φ∉famL p.2:=fun c=>(nodup_app.1 h2.nd).2.2 φ (by simp [famL]) (l2F_mem (by simp) c)
  have hne:φm≠φ:=fun c=>h4 (List.mem_append_left _ (by simp [famL,c]))
  refine buf_app hb (xs:=[encOp o]) rfl (by intro c hc;obtain rfl:=List.mem_singleton.1 hc;rfl) (by intro c hc;obtain rfl:=List.mem_singleton.1 hc;exact one_encOp o) (by simpa using hn) fun w' τ1 hB hK hfam=>?_
  have hm1:τ1 φm=some ⟨0,pre.length+1,[pre++[.own φ st 0 (A++p::C).length]]⟩:=by rw [hK φm hφm (by rw [h1];simp)];exact h1
  have hF1:τ1 φ=some ⟨st,2,(A++p::C).map fun p=>rowB p.1 p.2⟩:=by rw [hK φ hφφ (by rw [hF];simp)];exact hF
  refine hk w' τ1 (lod_m hm1) (ix τ1 hF1) fun k' hk'=>?_
  refine h2.repl (x':=(p.1.1,p.1.2++[o])) rfl (by rw [show innB (p.1.1,p.1.2++[o])=innB p.1++[encOp o] by simp [innB]];exact hB) (by omega) rfl hK hfam fun τ2 hN hfr=>?_
  have hm2:τ2 φm=some ⟨0,pre.length+1,[pre++[.own φ st 0 (A++p::C).length]]⟩:=by rw [hfr φm (by simp [famL,hne])];exact hm1
  have hl2:(A++p::C).length=(A++((p.1.1,p.1.2++[o]),w')::C).length:=by simp
  obtain ⟨φ',st',e',hF'⟩:=hN.own (by simp)
  obtain ⟨rfl,rfl⟩:φ=φ'∧st=st':=by injection e' with a b;exact ⟨a,b⟩
  refine hk' τ2 ⟨⟨_,_,hm2,hN,?_,fun c=>?_⟩,h.fr⟩ (lod_m hm2) ?_ (lod_at hF' rfl (by simp [List.getD])) ?_
  ·rw [List.map_append,List.map_cons,List.map_append,List.map_cons]
   unfold putS
   have:=modify_at (A.map (·.1)) (C.map (·.1)) p.1 (fun q:Int × List OpD=>(q.1,q.2++[o]))
   rw [List.length_map] at this
   exact this.symm
  ·rw [l2F_app,l2F_cons] at c
   rw [l2F_app,l2F_cons] at h4
   simp only [List.mem_append] at c h4
   rcases c with c|c|c|c
   ·exact h4 (.inl c)
   ·exact h4 (.inr (.inl c))
   ·rcases hfam φm c with d|d
    ·exact hφm d
    ·rw [h1] at d;cases d
   ·exact h4 (.inr (.inr (.inr c)))
  ·rw [hl2]
   have:=idx_own (st:=st) (off:=0) hF' (show A.length<(A++((p.1.1,p.1.2++[o]),w')::C).length by simp)
   rwa [Nat.zero_add] at this
  ·have:=buf_len hB
   simpa using this
 ·rw [hpl] at hj
  obtain ⟨φw,stw,hw,hFw⟩:=buf_own hb (by intro c;have:=congrArg List.length c;simp at this;simp [this] at hj)
  have hwl:(innB p.1).length=p.1.2.length:=by simp
  obtain ⟨E1,o,E2,he,rfl⟩:=split_at' hj
  refine ⟨φw,stw,?_,fun a k hk=>?_⟩
  ·rw [hw]
   have:=idx_own (st:=stw) (off:=0) hFw (show E1.length<(innB p.1).length by rw [hwl];exact hj)
   rwa [Nat.zero_add] at this
  ·have e1:(E1.map encOp).length=E1.length:=by simp
   rw [←e1]
   refine h2.wr (x':=(p.1.1,E1++{o with a:=a}::E2)) (es2:=E2.map encOp) (r:=encOp o) (by show p.1.2.map encOp=_;rw [he];simp) (by show (E1++_::E2).map encOp=_;simp [encOp]) rfl (by omega) rfl hw fun τ2 hN hfr=>?_
   have hφm:φm≠φw:=by
    rintro rfl
    exact h4 (List.mem_append_right _ (l2F_mem (p:=p) (by simp) (by rw [hw];simp [famL])))
   have hm2:τ2 φm=some ⟨0,pre.length+1,[pre++[.own φ st 0 (A++p::C).length]]⟩:=by rw [hfr φm hφm];exact h1
   refine hk τ2 ⟨⟨_,_,hm2,hN,?_,fun c=>?_⟩,h.fr⟩
   ·rw [List.map_append,List.map_cons,List.map_append,List.map_cons]
    unfold setS
    have:=modify_at (A.map (·.1)) (C.map (·.1)) p.1 (fun q:Int × List OpD=>(q.1,q.2.modify E1.length fun o=>{o with a:=a}))
    rw [List.length_map] at this
    rw [this,he,modify_at]
   ·rw [l2F_app,l2F_cons] at c
    rw [l2F_app,l2F_cons] at h4
    exact h4 c
theorem CSt.push (h:CSt pre σ τ φm B) {v:AV} (hv:lod (.ptr φm 0 0 pre.length) τ=some v) {x:AV} {a:Int} {k:AV→AH→Prop} (hx:aelems τ x=some [[iv a,nilS]]) (hn:B.length+1≤4294967296)
  (hk:∀v' τ1,(∀k':AH→Prop,(∀τ2,CSt pre σ τ2 φm (B++[(a,[])])→lod (.ptr φm 0 0 pre.length) τ2=some v'→lenS v'=some (iv ((B.length+1:Nat):Int))→k' τ2)→sto 1 (.ptr φm 0 0 pre.length) v' τ1 k')→k v' τ1):E.app 2 v x τ k:=by
 obtain ⟨v0,bs,h1,h2,rfl,h4⟩:=h.ex
 obtain rfl:v0=v:=by have:=lod_m h1;rw [this] at hv;exact Option.some.inj hv
 rw [List.length_map] at hn
 refine h2.app1 (p:=((a,[]),nilS)) hx rfl nilB (fun ψ c=>by cases c) (fun ψ c=>by cases c) (by intro y hy;simp only [List.mem_cons,List.not_mem_nil,or_false] at hy;rcases hy with rfl|rfl<;>rfl) hn fun v' τ1 hN hK hfam=>hk v' τ1 fun k' hk'=>?_
 have hm1:τ1 φm=some ⟨0,pre.length+1,[pre++[v0]]⟩:=by rw [hK φm (fun c=>h4 (List.mem_append_left _ c)) (by rw [h1];simp)];exact h1
 refine sto_fld (cs:=pre++[v0]) hm1 rfl (by omega) (acells_one hN.one) hN.one ?_
 have e:[pre++[v0]].set 0 ((pre++[v0]).set pre.length v')=[pre++[v']]:=by simp
 rw [e]
 have h5:φm∉famL v'++l2F (bs++[((a,[]),nilS)]):=fun c=>by
  rw [l2F_app] at c
  simp only [List.mem_append] at c
  rcases c with c|c|c
  ·rcases hfam φm c with d|d
   ·exact h4 (List.mem_append_left _ d)
   ·rw [h1] at d;cases d
  ·exact h4 (List.mem_append_right _ c)
  ·simp [l2F,famL] at c
 have hs:AH.Sub σ (τ1.set φm ⟨0,pre.length+1,[pre++[v']]⟩):=fun ψ F hF=>by
  rw [AH.set_ne' (by rintro rfl;rw [h.fr] at hF;cases hF)];exact hN.sub _ _ hF
 refine hk' _ ⟨⟨v',_,AH.set_same ..,hN.keep (fun ψ hψ=>AH.set_ne' (by rintro rfl;exact h5 hψ)) hs,by simp,h5⟩,h.fr⟩ (lod_m (AH.set_same ..)) ?_
 have:=hN.len
 simpa using this
theorem CSt.fz (h:CSt pre σ τ φm B) {fs:List AV} (hpre:fs=pre++[roBk (B.map fun p=>⟨p.1,p.2⟩)]):Fz σ τ (.ptr φm 0 0 0) (.rop fs 0):=by
 obtain ⟨v,bs,h1,h2,rfl,h4⟩:=h.ex
 subst hpre
 refine .ptr h1 h.fr rfl (by simp) (by simp) (by simp) fun j hj=>?_
 have hj':j<pre.length+1:=by simpa using hj
 have e0:(⟨0,pre.length+1,[pre++[v]]⟩:Fam).es.getD 0 []=pre++[v]:=rfl
 rw [e0]
 by_cases c:j<pre.length
 ·rw [show (pre++[v]).getD j .any=pre.getD j .any by simp [List.getD,List.getElem?_append_left c],show (pre++[roBk ((bs.map (·.1)).map fun p=>⟨p.1,p.2⟩)]).getD j .any=pre.getD j .any by simp [List.getD,List.getElem?_append_left c]]
  exact .same _
 ·obtain rfl:j=pre.length:=by omega
  rw [show (pre++[v]).getD pre.length .any=v by simp [List.getD],show (pre++[roBk ((bs.map (·.1)).map fun p=>⟨p.1,p.2⟩)]).getD pre.length .any=roBk ((bs.map (·.1)).map fun p=>⟨p.1,p.2⟩) by simp [List.getD]]
  have:=h2.fz (fun _ _=>rfl) (fun x c hc=>by obtain ⟨o,_,rfl⟩:=List.mem_map.1 hc;rfl) (fun _ _ _=>trivial) (fun x a b j hf=>by
   match j with
   |0=>exact .same _
   |1=>exact hf
   |j+2=>exact .same _)
  have e:(bs.map fun p=>rowB p.1 (.ro (innB p.1)))=((bs.map (·.1)).map fun p:Int × List OpD=>(⟨p.1,p.2⟩:Blk)).map encBlk:=by simp [encBlk]
  rw [e] at this
  exact this
end Go.Proofs.YtbppopcpgcgkkaaGreatDoor.E
/- Cores that are made to code: the steps of the program's way and of the reference's. -/
namespace Go.Proofs.YtbppopcpgcgkkaaGreatDoor.E
open Go Go.RowKit
set_option maxRecDepth 100000
theorem fits_put {B:St} {i:Nat} {o:OpD} (h:fits B) (hi:i<B.length):fits (putS B i o)↔lenS' B i<200:=by
 constructor
 ·intro k
  have:=k.2 i (by rw [len_put];exact hi)
  rw [lenS_put,if_pos ⟨rfl,hi⟩] at this
  omega
 ·intro k
  refine ⟨by rw [len_put];exact h.1,fun j hj=>?_⟩
  rw [len_put] at hj
  rw [lenS_put]
  split
  ·rename_i c;obtain ⟨rfl,_⟩:=c;omega
  ·exact h.2 j hj
theorem fits_set {B:St} {i k:Nat} {a:Int}:fits (setS B i k a)↔fits B:=by
 unfold fits
 rw [len_set]
 simp only [lenS_set]
theorem fits_push {B:St} {a:Int} (h:fits B):fits (B++[(a,[])])↔B.length<60:=by
 constructor
 ·intro k
  have:=k.1
  simp at this;omega
 ·intro k
  refine ⟨by simp;omega,fun j hj=>?_⟩
  unfold lenS'
  by_cases c:j<B.length
  ·simp only [List.getD,List.getElem?_append_left c];exact h.2 j c
  ·obtain rfl:j=B.length:=by simp at hj;omega
   simp [List.getD]
variable [L:Lam]
variable {σ τ τ':AH} {R:AEnd→AH→Prop}
abbrev flt (c:Int):AV:= .ifc ty_RiE (.agg [iv c])
theorem frz_op {f:FuncId} {o:OpD} {a b c:AV} {σ0:AH} {K:AEnd→AH→Prop} (hs:AH.Sub σ0 τ) (hf:Fz σ0 τ c (roD o.data)) (h:acall TP f [a,b,.agg (encOp o)] σ0 K):acall TP f [a,b,.agg (encOpA o c)] τ K:=by
 refine acall_frz (args':=[a,b,.agg (encOp o)]) hs rfl (fun i hi=>?_) h
 match i,hi with
 |0,_=>exact .same _
 |1,_=>exact .same _
 |2,_=>
  refine .agg rfl fun j hj=>?_
  match j,hj with
  |0,_=>exact .same _
  |1,_=>exact .same _
  |2,_=>exact .same _
  |3,_=>exact .same _
  |4,_=>exact .same _
  |5,_=>exact .same _
  |6,_=>exact hf
theorem nil_op {f:FuncId} (o:OpD) {a b:AV} {row:List AV} {K:AEnd→AH→Prop} (hr:row=encOpA o nilS) (hd:o.data=[]) (h:acall TP f [a,b,.agg (encOp o)] τ K):acall TP f [a,b,.agg row] τ K:=by
 subst hr
 refine frz_op (.refl τ) ?_ h
 rw [hd];exact .nil
theorem c_impl_failIf {b:Bool} {c:Int} (h1:b=false→R (.ret (.tup [])) σ) (h2:b=true→R (.pan (flt c)) σ):acall TP fn_impl_failIf [bv b,iv c] σ R:=by
 refine s_impl_failIf_ok ?_
 unfold s_impl_failIf
 cases b with
 |false=>simp only [RR];exact ret_here (h1 rfl)
 |true=>
  simp only [RR]
  have e:bld [(.val (.int .i64 0))] [(0,1)] [(0,iv c)]=some (.agg [iv c]):=rfl
  have e2:aifc TT ty_RiE (.agg [iv c])=some (flt c):=rfl
  simp only [e,e2,RR]
  exact apan_sub (.refl σ) (h2 rfl)
section
variable {pre:List AV} {φm:Nat} {B:St}
theorem lit1 {sz:Nat} {z row:List AV} {x:AV} (he:afillS sz [z] [(0,x)]=some [row]) (hr:row.length=sz) (hs:sz≤1000):bslR sz z 1 [(0,x)]=some (.ro [row]):=by
 unfold bslR
 have e:List.replicate 1 z=[z]:=rfl
 rw [e,he]
 dsimp only
 rw [if_pos ⟨by omega,by intro c hc;obtain rfl:=List.mem_singleton.1 hc;exact hr⟩,if_neg (by decide)]
abbrev PanTo (pre:List AV) (σ:AH) (φm:Nat) (R:AEnd→AH→Prop):Prop:=∀τ' B',CSt pre σ τ' φm B'→R (.pan (flt 2)) τ'
theorem c_impl_emit {x y:AV} (hp:pre=[x,y]) {i:Nat} {o:OpD} (h:CSt pre σ τ φm B) (hi:i<B.length) (hl:lenS' B i≤200) (h1:lenS' B i<200→∀τ',CSt pre σ τ' φm (putS B i o)→R (.ret (iv (lenS' B i:Int))) τ') (h2:¬lenS' B i<200→PanTo pre σ φm R):
  acall TP fn_impl_compiler_emit [.ptr φm 0 0 0,iv (i:Int),.agg (encOp o)] τ R:=by
 obtain ⟨v,φ,st,w,e1,e2,e3,e4,e5,_⟩:=h.open hi
 rw [show pre.length=2 by rw [hp];rfl] at e1 e5
 refine s_impl_compiler_emit_ok ?_
 unfold s_impl_compiler_emit
 refine box_encOp ?_
 simp only [e1,e2,e3,e4,RR]
 have hb:decide ((lenS' B i:Int)=200)=decide (¬lenS' B i<200):=by congr 1;apply propext;omega
 rw [hb]
 by_cases c:lenS' B i<200
 ·refine c_impl_failIf (fun _=>?_) (fun hh=>absurd c (by simpa using hh))
  simp only [e3,lodA_all (len_encOp o),RR,anil]
  rw [lit1 (sz:=7) (row:=encOp o) rfl rfl (by omega)]
  simp only [RR]
  refine e5 o _ (by omega) fun w' τ1 g1 g2 g3=>?_
  simp only [RR,true_and]
  refine g3 _ fun τ2 k1 k2 k3 k4 k5=>?_
  have es:ibin .sub (iv ((lenS' B i+1:Nat):Int)) (.val (.int .i64 1))=some (iv (lenS' B i:Int)):=by
   rw [ibin_sub (by omega) (by omega)]
   congr 3;omega
  simp only [RR,true_and,k4,k5,es]
  exact ret_here (h1 c τ2 k1)
 ·refine c_impl_failIf (fun hh=>absurd c (by simpa using hh)) (fun _=>?_)
  exact apan_sub (.refl _) (h2 c _ _ h)
theorem c_impl_here {x y:AV} (hp:pre=[x,y]) {i:Nat} (h:CSt pre σ τ φm B) (hi:i<B.length) (h1:R (.ret (iv (lenS' B i:Int))) τ):acall TP fn_impl_compiler_here [.ptr φm 0 0 0,iv (i:Int)] τ R:=by
 obtain ⟨v,φ,st,w,e1,e2,e3,e4,_⟩:=h.open hi
 rw [show pre.length=2 by rw [hp];rfl] at e1
 refine s_impl_compiler_here_ok ?_
 unfold s_impl_compiler_here
 simp only [e1,e2,e3,e4,RR]
 exact ret_here h1
theorem c_impl_block {x y:AV} (hp:pre=[x,y]) {a:Int} (h:CSt pre σ τ φm B) (hl:B.length≤60) (h1:B.length<60→∀τ',CSt pre σ τ' φm (B++[(a,[])])→R (.ret (iv (B.length:Int))) τ') (h2:¬B.length<60→PanTo pre σ φm R):
  acall TP fn_impl_compiler_block [.ptr φm 0 0 0,iv a] τ R:=by
 obtain ⟨v,e1,e2⟩:=h.len
 have e1':=e1
 rw [show pre.length=2 by rw [hp];rfl] at e1
 refine s_impl_compiler_block_ok ?_
 unfold s_impl_compiler_block
 simp only [e1,e2,RR]
 have hb:decide ((B.length:Int)=60)=decide (¬B.length<60):=by congr 1;apply propext;omega
 rw [hb]
 by_cases c:B.length<60
 ·refine c_impl_failIf (fun _=>?_) (fun hh=>absurd c (by simpa using hh))
  have eb:bld [(.val (.int .i64 0)),(.val (.slice none 0 0))] [(0,1),(1,1)] [(0,iv a)]=some (.agg [iv a,nilS]):=rfl
  simp only [e1,eb,RR]
  refine bsl1 (row:=[iv a,nilS]) rfl (by omega) fun ψ hψ=>?_
  have hs:AH.Sub τ (τ.set ψ ⟨0,2,[[iv a,nilS]]⟩):= .set (.refl τ) _ hψ
  refine (h.grow hs).push (v:=v) (a:=a) ?_ ael1 (by omega) fun v' τ1 k1=>?_
  ·obtain ⟨v0,bs,g1,_⟩:=h.ex
   have:=lod_m g1
   rw [this] at e1'
   obtain rfl:=Option.some.inj e1'
   exact lod_m (hs _ _ g1)
  rw [show pre.length=2 by rw [hp];rfl] at k1
  refine k1 _ fun τ2 g1 g2 g3=>?_
  have es:ibin .sub (iv ((B.length+1:Nat):Int)) (.val (.int .i64 1))=some (iv (B.length:Int)):=by
   rw [ibin_sub (by omega) (by omega)]
   congr 3;omega
  simp only [RR,g2,g3,es]
  exact ret_here (h1 c τ2 g1)
 ·refine c_impl_failIf (fun hh=>absurd c (by simpa using hh)) (fun _=>?_)
  exact apan_sub (.refl _) (h2 c _ _ h)
theorem c_spec_l9Put {x:AV} (hp:pre=[x]) {i:Nat} {o:OpD} (h:CSt pre σ τ φm B) (hi:i<B.length) (hl:lenS' B i≤1000000) (h1:∀τ',CSt pre σ τ' φm (putS B i o)→R (.ret (iv (lenS' B i:Int))) τ'):
  acall TP fn_spec_l9Put [.ptr φm 0 0 0,iv (i:Int),.agg (encOp o)] τ R:=by
 obtain ⟨v,φ,st,w,e1,e2,e3,e4,e5,_⟩:=h.open hi
 rw [show pre.length=1 by rw [hp];rfl] at e1 e5
 refine s_spec_l9Put_ok ?_
 unfold s_spec_l9Put
 refine box_encOp ?_
 simp only [e1,e2,e3,lodA_all (len_encOp o),RR]
 rw [lit1 (sz:=7) (row:=encOp o) rfl rfl (by omega)]
 simp only [RR]
 refine e5 o _ (by omega) fun w' τ1 g1 g2 g3=>?_
 simp only [g1,g2,RR,true_and,and_true]
 refine g3 _ fun τ2 k1 k2 k3 k4 k5=>?_
 have es:ibin .sub (iv ((lenS' B i+1:Nat):Int)) (.val (.int .i64 1))=some (iv (lenS' B i:Int)):=by
  rw [ibin_sub (by omega) (by omega)]
  congr 3;omega
 simp only [RR,true_and,k2,k3,k4,k5,es]
 exact ret_here (h1 τ2 k1)
theorem c_spec_l9End {x:AV} (hp:pre=[x]) {i:Nat} {e:Bool} (h:CSt pre σ τ φm B) (hi:i<B.length) (hl:lenS' B i≤1000000) (h1:∀τ',CSt pre σ τ' φm (endS B i e)→R (.ret (.tup [])) τ'):
  acall TP fn_spec_l9End [.ptr φm 0 0 0,iv (i:Int),bv e] τ R:=by
 refine s_spec_l9End_ok ?_
 unfold s_spec_l9End
 cases e with
 |true=>
  have eb:bld [(.val (.int .i64 0)),(.val (.int .i64 0)),(.val (.int .i64 0)),(.val (.int .i64 0)),(.val (.int .i64 0)),(.val (.string ⟨#[]⟩)),(.val (.slice none 0 0))] [(0,1),(1,1),(2,1),(3,1),(4,1),(5,1),(6,1)] [(0,(.val (.int .i64 12)))]=some (.agg [iv 12,iv 0,iv 0,iv 0,iv 0,str ⟨#[]⟩,nilS]):=rfl
  simp only [eb,RR]
  refine nil_op (oc0 12) rfl rfl ?_
  refine c_spec_l9Put hp h hi hl fun τ' g=>?_
  simp only [RR]
  exact ret_here (h1 τ' g)
 |false=>simp only [RR];exact ret_here (h1 τ h)
end
end Go.Proofs.YtbppopcpgcgkkaaGreatDoor.E
/- Data of a text: the plain law, and the steps of the reference's way. -/
namespace Go.Proofs.YtbppopcpgcgkkaaGreatDoor.E
open Go Go.RowKit
set_option maxRecDepth 100000
abbrev Opn:=List (Nat × Bool)
abbrev Rds:=List Dat × Opn
def topP (o:Opn):Int:=match o.getLast? with
 |none=> -1
 |some p=>(p.1:Int)
def wholeO (o:Opn):Opn:=(o.reverse.dropWhile fun p=>p.2).reverse
def roomF (s:Rds):Bool:=decide (80≤s.1.length)||decide (12≤s.2.length)
def datP (x:Dat) (o:Opn):Dat:={x with parent:=topP o}
def putR (x:Dat) (s:Rds):Rds × Int:=if roomF s then (s,2) else ((s.1++[datP x s.2],s.2),0)
def lisD:Dat:=⟨4,0,0,⟨#[]⟩⟩
def quoD:Dat:=⟨3,0,0,⟨#[113,117,111,116,101]⟩⟩
def opR (q:Bool) (s:Rds):Rds:=((putR lisD s).1.1,s.2++[(s.1.length,q)])
def beginR (q:Bool) (s:Rds):Rds × Int:=if roomF s then (s,2) else if q then putR quoD (opR q s) else (opR q s,0)
def closeR (s:Rds):Rds × Int:=match s.2.getLast? with
 |none=>(s,1)
 |some p=>if p.2 then (s,1) else ((s.1,wholeO s.2.dropLast),0)
def leafR (x:Dat) (s:Rds):Rds × Int:=if roomF s then (s,2) else ((s.1++[datP x s.2],wholeO s.2),0)
def tokenR (t:Tok) (s:Rds):Rds × Int:=
 if t.kind=1 then beginR false s
 else if t.kind=3 then beginR true s
 else if t.kind=2 then closeR s
 else leafR ⟨t.kind - 3,0,t.num,t.name⟩ s
def readR:List Tok→Nat→Rds→List Dat × Int × Nat
 |[],i,s=>if s.1=[]∨s.2≠[] then ([],1,i) else (s.1,0,0)
 |t::r,i,s=>if 0<i∧s.2=[] then ([],1,i) else if (tokenR t s).2≠0 then ([],(tokenR t s).2,i) else readR r (i+1) (tokenR t s).1
def dataR (t:List UInt8):List Dat × Int × Nat:=if (tokR t).2.1≠0 then ([],(tokR t).2.1,(tokR t).2.2) else readR (tokR t).1 0 ([],[])
def SmR (s:Rds):Prop:=s.1.length≤81∧s.2.length≤13
theorem room_lt {s:Rds} (h:roomF s=false):s.1.length<80∧s.2.length<12:=by
 simp only [roomF,Bool.or_eq_false_iff,decide_eq_false_iff_not] at h
 omega
theorem putR_sm {x:Dat} {s:Rds} (h:s.1.length≤80∧s.2.length≤12):(putR x s).1.1.length≤80∧(putR x s).1.2.length≤12:=by
 unfold putR
 split
 ·exact h
 ·rename_i c
  have:=room_lt (by simpa using c)
  simp;omega
theorem wholeO_le (o:Opn):(wholeO o).length≤o.length:=by
 unfold wholeO
 rw [List.length_reverse]
 exact Nat.le_trans (List.Sublist.length_le (List.dropWhile_sublist _)) (by simp)
theorem tokenR_sm {t:Tok} {s:Rds} (h:s.1.length≤80∧s.2.length≤12):(tokenR t s).1.1.length≤80∧(tokenR t s).1.2.length≤12:=by
 have hb:∀q,(beginR q s).1.1.length≤80∧(beginR q s).1.2.length≤12:=by
  intro q
  unfold beginR
  split
  ·exact h
  ·rename_i c
   have c:=room_lt (by simpa using c)
   have h2:(opR q s).1.length≤80∧(opR q s).2.length≤12:=by
    have:=putR_sm (x:=lisD) h
    simp only [opR,List.length_append,List.length_cons,List.length_nil]
    omega
   split
   ·exact putR_sm h2
   ·exact h2
 unfold tokenR
 split
 ·exact hb _
 split
 ·exact hb _
 split
 ·unfold closeR
  split
  ·exact h
  ·split
   ·exact h
   ·refine ⟨h.1,Nat.le_trans (wholeO_le _) ?_⟩
    simp;omega
 ·unfold leafR
  split
  ·exact h
  ·rename_i c
   have c:=room_lt (by simpa using c)
   have:=wholeO_le s.2
   simp;omega
variable [L:Lam]
variable {σ τ τ':AH} {R:AEnd→AH→Prop}
theorem sub_one {n:Nat} (h:1≤n) (h2:n≤1000000):ibin .sub (iv (n:Int)) (.val (.int .i64 1))=some (iv ((n - 1:Nat):Int)):=by
 rw [ibin_sub (by omega) (by omega)]
 congr 3;omega
def fdR (s:Rds):List Fd:=[.lst 4 (s.1.map encDat),.lst 1 (s.2.map fun p=>[iv (p.1:Int)]),.lst 1 (s.2.map fun p=>[bv p.2])]
theorem top_at {X:Type} {c:X→AV} {v:AV} {o:List X} (h:Bfj τ 1 v (o.map fun p=>[c p])) {p:X} (hp:o.getLast? =some p):∃φ st,idx 1 v (iv ((o.length - 1:Nat):Int)) τ=some (.ptr φ st (o.length - 1) 0)∧lod (.ptr φ st (o.length - 1) 0) τ=some (c p):=by
 have hne:0<o.length:=by
  cases o with
  |nil=>cases hp
  |cons a r=>simp
 have hl:o.length - 1<(o.map fun p=>[c p]).length:=by rw [List.length_map];omega
 obtain ⟨φ,st,e1,e2⟩:=h.at hl
 refine ⟨φ,st,e1,e2 0 _ ?_⟩
 rw [List.getLast?_eq_getElem?] at hp
 have hl2:o.length - 1<o.length:=by omega
 rw [List.getElem?_eq_getElem hl2] at hp
 rw [List.getElem_map,Option.some.inj hp]
 rfl
theorem bfj_len {X:Type} {enc:X→List AV} {sz:Nat} {v:AV} {o:List X} (h:Bfj τ sz v (o.map enc)):lenS v=some (iv (o.length:Int)):=by rw [h.len,List.length_map]
section
variable {φm:Nat} {s:Rds}
theorem last_some {X:Type} {o:List X} (h:o≠[]):∃p,o.getLast? =some p:=⟨_,List.getLast?_eq_some_getLast h⟩
theorem c_spec_l3Put {x:Dat} (h:MSt σ τ φm (fdR s)) (hn:SmR s) (h1:∀τ',MSt σ τ' φm (fdR (putR x s).1)→R (.ret (iv (putR x s).2)) τ'):acall TP fn_spec_l3Put [.ptr φm 0 0 0,.agg (encDat x)] τ R:=by
 refine s_spec_l3Put_ok ?_
 unfold s_spec_l3Put
 rw [abox_agg]
 intro ψ hψ
 have hs:AH.Sub τ (τ.set ψ ⟨0,4,[encDat x]⟩):= .set (.refl τ) _ hψ
 have hg:=h.grow hs
 obtain ⟨vd,e0,b0⟩:=h.lst (i:=0) rfl
 obtain ⟨vo,e1,b1⟩:=h.lst (i:=1) rfl
 have e0':=lod_mono hs e0
 have e1':=lod_mono hs e1
 have l0:=bfj_len b0
 have l1:=bfj_len b1
 have e4:(encDat x).length=4:=rfl
 simp only [e4,e0',e1',l0,l1,RR]
 unfold putR at h1
 have hr:roomF s=(decide (80≤s.1.length)||decide (12≤s.2.length)):=rfl
 have bad:roomF s=true→aret (.val (.int .i64 2)) (τ.set ψ ⟨0,4,[encDat x]⟩) R:=fun hb=>by
  rw [if_pos hb] at h1
  exact ret_here (h1 _ hg)
 by_cases c1:80≤s.1.length
 ·have g1:(80:Int)≤(s.1.length:Int):=by omega
  simp only [g1,RR]
  exact bad (by rw [hr];simp [c1])
 have g1:¬(80:Int)≤(s.1.length:Int):=by omega
 by_cases c2:12≤s.2.length
 ·have g2:(12:Int)≤(s.2.length:Int):=by omega
  simp only [g1,g2,e1',l1,RR]
  exact bad (by rw [hr];simp [c2])
 have g2:¬(12:Int)≤(s.2.length:Int):=by omega
 have hrf:roomF s=false:=by rw [hr];simp [c1,c2]
 rw [hrf] at h1
 simp only [Bool.false_eq_true,if_false] at h1
 simp only [g1,g2,e1',l1,RR]
 refine sto_fld (es:=[encDat x]) (cs:=encDat x) (AH.set_same ..) rfl (by omega) rfl rfl ?_
 rw [AH.set_set]
 have x1:∀a:Int,[encDat x].set 0 ((encDat x).set 1 (iv a))=[encDat {x with parent:=a}]:=fun a=>rfl
 refine jn_by (P:=fun y τ'=>y=(.ptr φm 0 0 0,.ptr ψ 0 0 0,())∧τ'=τ.set ψ ⟨0,4,[encDat (datP x s.2)]⟩) ?_ ?_
 ·rintro y τ' ⟨rfl,rfl⟩
  refine frz_cell hψ rfl ?_
  simp only [e0,lodA_all (len_encDat _),RR]
  rw [lit1 (sz:=4) (row:=encDat (datP x s.2)) rfl rfl (by omega)]
  simp only [RR]
  refine h.app (i:=0) rfl e0 (row:=encDat (datP x s.2)) rfl rfl (one_encDat _) (by simp;omega) fun v' τ1 k1=>?_
  simp only [RR,true_and]
  refine k1 _ fun τ2 S2=>?_
  have ef:(fdR s).set 0 (.lst 4 (s.1.map encDat++[encDat (datP x s.2)]))=fdR (s.1++[datP x s.2],s.2):=by simp [fdR]
  rw [ef] at S2
  exact ret_here (h1 τ2 S2)
 ·intro k hk
  have hs2:AH.Sub τ (τ.set ψ ⟨0,4,[encDat {x with parent:= -1}]⟩):= .set (.refl τ) _ hψ
  rw [x1]
  by_cases c3:s.2=[]
  ·have g3:¬(0:Int)<(s.2.length:Int):=by rw [c3];simp
   have et:datP x s.2={x with parent:= -1}:=by rw [c3];rfl
   simp only [lod_mono hs2 e1,l1,g3,RR]
   exact hk _ _ ⟨rfl,by rw [et]⟩
  ·obtain ⟨p,hp⟩:=last_some c3
   have hl1:1≤s.2.length:=List.length_pos_iff.2 c3
   have g3:(0:Int)<(s.2.length:Int):=by omega
   obtain ⟨φt,st,t1,t2⟩:=top_at b1 hp
   have t1':idx 1 vo (iv ((s.2.length - 1:Nat):Int)) (τ.set ψ ⟨0,4,[encDat {x with parent:= -1}]⟩)=some (.ptr φt st (s.2.length - 1) 0):=idx_mono hs2 t1
   simp only [lod_mono hs2 e1,l1,g3,sub_one hl1 (by omega),t1',lod_mono hs2 t2,RR]
   refine sto_fld (es:=[encDat {x with parent:= -1}]) (cs:=encDat {x with parent:= -1}) (AH.set_same ..) rfl (by omega) rfl rfl ?_
   rw [AH.set_set]
   have et:datP x s.2={x with parent:=(p.1:Int)}:=by unfold datP topP;rw [hp]
   exact hk _ _ ⟨rfl,by rw [et];rfl⟩
end
end Go.Proofs.YtbppopcpgcgkkaaGreatDoor.E
/- Data of a text: the reference's way, all of it. -/
namespace Go.Proofs.YtbppopcpgcgkkaaGreatDoor.E
open Go Go.RowKit
set_option maxRecDepth 100000
theorem whole_last {o:Opn} {p:Nat × Bool} (h:o.getLast? =some p) (hp:p.2=true):wholeO o=wholeO o.dropLast:=by
 have hd:o=o.dropLast++[p]:=by
  have hne:o≠[]:=by rintro rfl;cases h
  have:=List.dropLast_concat_getLast hne
  rw [List.getLast?_eq_some_getLast hne] at h
  rw [←Option.some.inj h];exact this.symm
 conv=>lhs;rw [hd]
 unfold wholeO
 rw [List.reverse_append,List.reverse_singleton,List.singleton_append,List.dropWhile_cons,if_pos hp]
theorem whole_stop {o:Opn} {p:Nat × Bool} (h:o.getLast? =some p) (hp:p.2=false):wholeO o=o:=by
 have hne:o≠[]:=by rintro rfl;cases h
 have hd:o=o.dropLast++[p]:=by
  have:=List.dropLast_concat_getLast hne
  rw [List.getLast?_eq_some_getLast hne] at h
  rw [←Option.some.inj h];exact this.symm
 unfold wholeO
 rw [hd,List.reverse_append,List.reverse_singleton,List.singleton_append,List.dropWhile_cons,if_neg (by rw [hp];decide),List.reverse_cons,List.reverse_reverse]
variable [L:Lam]
variable {σ τ τ':AH} {R:AEnd→AH→Prop}
theorem take_map_last {X Y:Type} (f:X→Y) (o:List X):(o.map f).take (o.length - 1)=o.dropLast.map f:=by
 rw [←List.map_take,List.dropLast_eq_take]
section
variable {φm:Nat} {s:Rds}
theorem cut_both {s:Rds} (h:MSt σ τ φm (fdR s)) (hne:s.2≠[]) (hn:s.2.length≤13) {v1:AV} (e1:lod (.ptr φm 0 0 1) τ=some v1):
  ∃v1',slc 1 v1 none (some (iv ((s.2.length - 1:Nat):Int))) none τ=some v1'∧∀k:AH→Prop,(∀τ1 v2,MSt σ τ1 φm ((fdR s).set 1 (.lst 1 (s.2.dropLast.map fun p=>[iv (p.1:Int)])))→lod (.ptr φm 0 0 2) τ1=some v2→lenS v2=some (iv (s.2.length:Int))→
   (∃v2',slc 1 v2 none (some (iv ((s.2.length - 1:Nat):Int))) none τ1=some v2'∧∀k':AH→Prop,(∀τ2,MSt σ τ2 φm (fdR (s.1,s.2.dropLast))→k' τ2)→sto 1 (.ptr φm 0 0 2) v2' τ1 k')→k τ1)→sto 1 (.ptr φm 0 0 1) v1' τ k:=by
 obtain ⟨v1',c1,c2⟩:=h.cut (i:=1) (es:=s.2.map fun p=>[iv (p.1:Int)]) rfl e1 (by simpa using hne) (m:=s.2.length - 1) (by simp)
 refine ⟨v1',c1,fun k hk=>c2 k fun τ1 S1=>?_⟩
 rw [take_map_last] at S1
 obtain ⟨v2,g1,g2⟩:=S1.lst (i:=2) (sz:=1) (es:=s.2.map fun p=>[bv p.2]) rfl
 refine hk τ1 v2 S1 g1 (bfj_len g2) ?_
 obtain ⟨v2',d1,d2⟩:=S1.cut (i:=2) (es:=s.2.map fun p=>[bv p.2]) rfl g1 (by simpa using hne) (m:=s.2.length - 1) (by simp)
 refine ⟨v2',d1,fun k' hk'=>d2 k' fun τ2 S2=>?_⟩
 rw [take_map_last] at S2
 exact hk' τ2 S2
theorem c_spec_l3Whole (h:MSt σ τ φm (fdR s)) (hn:SmR s) (h1:∀τ',MSt σ τ' φm (fdR (s.1,wholeO s.2))→R (.ret (.tup [])) τ'):acall TP fn_spec_l3Whole [.ptr φm 0 0 0] τ R:=by
 refine s_spec_l3Whole_ok ?_
 unfold s_spec_l3Whole
 refine lp_by (fun n x τ'=>∃o:Opn,x=(.ptr φm 0 0 0,())∧MSt σ τ' φm (fdR (s.1,o))∧o.length=n∧o.length≤13∧wholeO o=wholeO s.2) s.2.length ⟨s.2,rfl,h,rfl,hn.2,rfl⟩ ?_
 rintro n x τ1 ⟨o,rfl,S,rfl,ho,e⟩ R' hR'
 obtain ⟨v1,e1,b1⟩:=S.lst (i:=1) (sz:=1) (es:=o.map fun p=>[iv (p.1:Int)]) rfl
 obtain ⟨v2,e2,b2⟩:=S.lst (i:=2) (sz:=1) (es:=o.map fun p=>[bv p.2]) rfl
 have l1:=bfj_len b1
 have l2:=bfj_len b2
 by_cases c:o=[]
 ·subst c
  have g:¬(0:Int)<(([]:Opn).length:Int):=by simp
  simp only [e1,l1,g,RR]
  rw [←e] at h1
  exact ret_here (h1 τ1 S)
 ·obtain ⟨p,hp⟩:=last_some c
  have hl1:1≤o.length:=List.length_pos_iff.2 c
  have g:(0:Int)<(o.length:Int):=by omega
  obtain ⟨φt,st,t1,t2⟩:=top_at b2 hp
  simp only [e1,l1,g,e2,l2,sub_one hl1 (by omega),t1,t2,RR]
  cases hq:p.2 with
  |false=>
   rw [whole_stop hp hq] at e
   rw [←e] at h1
   simp only [RR]
   exact ret_here (h1 τ1 S)
  |true=>
   rw [whole_last hp hq] at e
   obtain ⟨v1',k1,k2⟩:=cut_both S c ho e1
   simp only [e1,l1,sub_one hl1 (by omega),k1,RR]
   refine k2 _ fun τ2 v2 S2 g1 g2 g3=>?_
   obtain ⟨v2',m1,m2⟩:=g3
   simp only [g1,g2,sub_one hl1 (by omega),m1,RR,true_and]
   refine m2 _ fun τ3 S3=>?_
   exact hR' _ _ o.dropLast.length τ3 (by simp;omega) (.refl _) ⟨o.dropLast,rfl,S3,rfl,by simp;omega,e⟩
theorem put_ok {x:Dat} {s:Rds}:(putR x s).2=if roomF s then 2 else 0:=by unfold putR;split<;>rfl
theorem litI {i:Int}:bslR 1 [(.val (.int .i64 0))] 1 [(0,iv i)]=some (.ro [[iv i]]):=lit1 (sz:=1) (row:=[iv i]) rfl rfl (by omega)
theorem c_spec_l3Begin {q:Bool} (h:MSt σ τ φm (fdR s)) (hn:s.1.length≤80∧s.2.length≤12) (h1:∀τ',MSt σ τ' φm (fdR (beginR q s).1)→R (.ret (iv (beginR q s).2)) τ'):acall TP fn_spec_l3Begin [.ptr φm 0 0 0,bv q] τ R:=by
 refine s_spec_l3Begin_ok ?_
 unfold s_spec_l3Begin
 have eb:bld [(.val (.int .i64 0)),(.val (.int .i64 0)),(.val (.int .i64 0)),(.val (.string ⟨#[]⟩))] [(0,1),(1,1),(2,1),(3,1)] [(0,(.val (.int .i64 4)))]=some (.agg (encDat lisD)):=rfl
 simp only [eb,RR]
 refine c_spec_l3Put h ⟨by omega,by omega⟩ fun τ1 S1=>?_
 rw [put_ok]
 unfold beginR at h1
 cases hr:roomF s with
 |true=>
  rw [hr] at h1
  simp only [if_true] at h1
  simp only [if_true,Int.reduceEq,RR]
  unfold putR at S1
  rw [if_pos hr] at S1
  exact ret_here (h1 τ1 S1)
 |false=>
  rw [hr] at h1
  simp only [Bool.false_eq_true,if_false] at h1
  have hr2:=room_lt hr
  have ep:(putR lisD s).1=(s.1++[datP lisD s.2],s.2):=by unfold putR;rw [if_neg (by rw [hr];decide)]
  rw [ep] at S1
  obtain ⟨v0,e0,b0⟩:=S1.lst (i:=0) rfl
  obtain ⟨v1,e1,b1⟩:=S1.lst (i:=1) rfl
  have l0:=bfj_len b0
  have hl:(s.1++[datP lisD s.2]).length=s.1.length+1:=by simp
  have es:ibin .sub (iv (((s.1++[datP lisD s.2]).length:Nat):Int)) (.val (.int .i64 1))=some (iv (s.1.length:Int)):=by
   rw [sub_one (by omega) (by omega),hl];rfl
  simp only [Bool.false_eq_true,if_false,e0,e1,l0,es,litI,RR]
  refine S1.app (i:=1) rfl e1 (row:=[iv (s.1.length:Int)]) rfl rfl (fun y hy=>by obtain rfl:=List.mem_singleton.1 hy;rfl) (by simp;omega) fun v' τ2 k1=>?_
  simp only [RR,true_and]
  refine k1 _ fun τ3 S3=>?_
  obtain ⟨v2,e2,b2⟩:=S3.lst (i:=2) (sz:=1) (es:=s.2.map fun p=>[bv p.2]) rfl
  simp only [e2,RR,true_and]
  refine bsl1 (row:=[bv q]) (by cases q<;>rfl) (by omega) fun ψ hψ=>?_
  have hs3:AH.Sub τ3 (τ3.set ψ ⟨0,1,[[bv q]]⟩):= .set (.refl _) _ hψ
  have S3':=S3.grow hs3
  refine S3'.app (i:=2) (sz:=1) (es:=s.2.map fun p=>[bv p.2]) rfl (lod_mono hs3 e2) (row:=[bv q]) ael1 rfl (fun y hy=>by obtain rfl:=List.mem_singleton.1 hy;rfl) (by simp;omega) fun v'' τ4 k2=>?_
  refine k2 _ fun τ5 S5=>?_
  have ef:((fdR (s.1++[datP lisD s.2],s.2)).set 1 (.lst 1 ((s.2.map fun p=>[iv (p.1:Int)])++[[iv (s.1.length:Int)]]))).set 2 (.lst 1 ((s.2.map fun p=>[bv p.2])++[[bv q]]))=fdR (opR q s):=by
   unfold opR;rw [ep];simp [fdR]
  rw [ef] at S5
  cases q with
  |false=>
   simp only [RR]
   exact ret_here (h1 τ5 S5)
  |true=>
   have eb2:bld [(.val (.int .i64 0)),(.val (.int .i64 0)),(.val (.int .i64 0)),(.val (.string ⟨#[]⟩))] [(0,1),(1,1),(2,1),(3,1)] [(0,(.val (.int .i64 3))),(3,(.val (.string ⟨#[113,117,111,116,101]⟩)))]=some (.agg (encDat quoD)):=rfl
   simp only [eb2,RR]
   simp only [if_true] at h1
   refine c_spec_l3Put S5 ?_ fun τ6 S6=>?_
   ·unfold opR SmR;rw [ep];simp;omega
   ·simp only [RR]
    exact ret_here (h1 τ6 S6)
theorem bld_tokD {t:Tok}:bld [(.val (.int .i64 0)),(.val (.int .i64 0)),(.val (.int .i64 0)),(.val (.string ⟨#[]⟩))] [(0,1),(1,1),(2,1),(3,1)] [(0,iv (t.kind - 3)),(2,iv t.num),(3,str t.name)]=some (.agg (encDat ⟨t.kind - 3,0,t.num,t.name⟩)):=rfl
theorem c_spec_l3Token {t:Tok} (hk:1≤t.kind∧t.kind≤6) (h:MSt σ τ φm (fdR s)) (hn:s.1.length≤80∧s.2.length≤12) (h1:∀τ',MSt σ τ' φm (fdR (tokenR t s).1)→R (.ret (iv (tokenR t s).2)) τ'):acall TP fn_spec_l3Token [.ptr φm 0 0 0,.rop (encTok t) 0] τ R:=by
 refine s_spec_l3Token_ok ?_
 unfold s_spec_l3Token
 have l0:∀τ,lod (.rop (encTok t) 0) τ=some (iv t.kind):=fun _=>rfl
 have l1:∀τ,lod (.rop (encTok t) 1) τ=some (iv t.num):=fun _=>rfl
 have l2:∀τ,lod (.rop (encTok t) 2) τ=some (str t.name):=fun _=>rfl
 unfold tokenR at h1
 simp only [l0,RR]
 by_cases c1:t.kind=1
 ·rw [if_pos c1] at h1
  simp only [c1,RR]
  refine c_spec_l3Begin (q:=false) h hn fun τ1 S1=>?_
  simp only [RR]
  exact ret_here (h1 τ1 S1)
 rw [if_neg c1] at h1
 by_cases c3:t.kind=3
 ·rw [if_pos c3] at h1
  simp only [c3,show ¬(3:Int)=1 by omega,RR]
  refine c_spec_l3Begin (q:=true) h hn fun τ1 S1=>?_
  simp only [RR]
  exact ret_here (h1 τ1 S1)
 rw [if_neg c3] at h1
 by_cases c2:t.kind=2
 ·rw [if_pos c2] at h1
  obtain ⟨v1,e1,b1⟩:=h.lst (i:=1) (sz:=1) (es:=s.2.map fun p=>[iv (p.1:Int)]) rfl
  obtain ⟨v2,e2,b2⟩:=h.lst (i:=2) (sz:=1) (es:=s.2.map fun p=>[bv p.2]) rfl
  have g1:=bfj_len b1
  unfold closeR at h1
  by_cases c:s.2=[]
  ·have gl:((s.2.length:Nat):Int)=0:=by rw [c];rfl
   have hl:s.2.getLast? =none:=by rw [c];rfl
   rw [hl] at h1
   simp only [c2,show ¬(2:Int)=1 by omega,show ¬(2:Int)=3 by omega,e1,g1,gl,RR]
   exact ret_here (h1 τ h)
  ·obtain ⟨p,hp⟩:=last_some c
   rw [hp] at h1
   dsimp only at h1
   have hl1:1≤s.2.length:=List.length_pos_iff.2 c
   have gl:¬((s.2.length:Nat):Int)=0:=by omega
   obtain ⟨φt,st,t1,t2⟩:=top_at b2 hp
   simp only [c2,show ¬(2:Int)=1 by omega,show ¬(2:Int)=3 by omega,e1,g1,gl,e2,sub_one hl1 (by omega),t1,t2,RR]
   cases hq:p.2 with
   |true=>
    rw [hq] at h1
    simp only [if_true] at h1
    simp only [RR]
    exact ret_here (h1 τ h)
   |false=>
    rw [hq] at h1
    simp only [Bool.false_eq_true,if_false] at h1
    obtain ⟨v1',k1,k2⟩:=cut_both h c (by omega) e1
    simp only [e1,k1,RR]
    refine k2 _ fun τ2 v3 S2 m1 m2 m3=>?_
    obtain ⟨v3',n1,n2⟩:=m3
    simp only [m1,n1,RR]
    refine n2 _ fun τ3 S3=>?_
    refine c_spec_l3Whole S3 ⟨by simp;omega,by simp;omega⟩ fun τ4 S4=>?_
    simp only [RR]
    exact ret_here (h1 τ4 S4)
 rw [if_neg c2] at h1
 have es:ibin .sub (iv t.kind) (.val (.int .i64 3))=some (iv (t.kind - 3)):=ibin_sub (by omega) (by omega)
 simp only [c1,c2,c3,l0,l1,l2,es,bld_tokD,RR]
 intro ψ hψ
 simp only [true_and]
 refine sto_own (es:=[[iv 0,iv 0,iv 0,str ⟨#[]⟩]]) (cs:=encDat ⟨t.kind - 3,0,t.num,t.name⟩) (AH.set_same ..) (by simp) rfl rfl rfl (one_encDat _) ?_
 simp only [List.set_cons_zero,AH.set_set,true_and]
 refine frz_cell hψ rfl ?_
 simp only [lodA_all (len_encDat _),RR]
 refine c_spec_l3Put h ⟨by omega,by omega⟩ fun τ1 S1=>?_
 rw [put_ok]
 unfold leafR at h1
 unfold putR at S1
 cases hr:roomF s with
 |true=>
  rw [hr] at h1 S1
  simp only [if_true] at h1 S1
  simp only [if_true,Int.reduceEq,RR]
  exact ret_here (h1 τ1 S1)
 |false=>
  rw [hr] at h1 S1
  have hr2:=room_lt hr
  simp only [Bool.false_eq_true,if_false] at h1 S1
  simp only [Bool.false_eq_true,if_false,Int.reduceEq,RR]
  refine c_spec_l3Whole S1 ⟨by simp;omega,by simp;omega⟩ fun τ2 S2=>?_
  simp only [RR]
  exact ret_here (h1 τ2 S2)
theorem c_spec_l3Read {ts:List Tok} (hk:∀t,t∈ts→1≤t.kind∧t.kind≤6) (hl:ts.length≤1000) (h:R (.ret (.tup [roD (readR ts 0 ([],[])).1,iv (readR ts 0 ([],[])).2.1,iv ((readR ts 0 ([],[])).2.2:Nat)])) σ):acall TP fn_spec_l3Read [roT ts] σ R:=by
 refine s_spec_l3Read_ok ?_
 unfold s_spec_l3Read
 have eb:bld [(.val (.slice none 0 0)),(.val (.slice none 0 0)),(.val (.slice none 0 0))] [(0,1),(1,1),(2,1)] []=some (.agg [nilS,nilS,nilS]):=rfl
 simp only [eb,RR]
 intro φm hφ
 refine sto_own (es:=[[nilS,nilS,nilS]]) (cs:=[nilS,nilS,nilS]) (AH.set_same ..) (by simp) rfl rfl rfl (by intro y hy;simp only [List.mem_cons,List.not_mem_nil,or_false] at hy;rcases hy with rfl|rfl|rfl<;>rfl) ?_
 simp only [List.set_cons_zero,AH.set_set]
 have S0:MSt σ (σ.set φm ⟨0,(fdR ([],[])).length,[[nilS,nilS,nilS]]⟩) φm (fdR ([],[])):=by
  refine MSt.new hφ rfl (fun i f hf=>?_) (by intro v hv;simp only [List.mem_cons,List.not_mem_nil,or_false] at hv;rcases hv with rfl|rfl|rfl<;>rfl)
  match i,hf with
  |0,hf=>obtain rfl:=Option.some.inj hf;exact .nil
  |1,hf=>obtain rfl:=Option.some.inj hf;exact .nil
  |2,hf=>obtain rfl:=Option.some.inj hf;exact .nil
 generalize hE:readR ts 0 ([],[])=E at h
 refine lp_by (fun n x τ=>∃(i:Nat) (s:Rds),x=(roT ts,.ptr φm 0 0 0,iv (i:Int),())∧MSt σ τ φm (fdR s)∧ts.length - i=n∧i≤ts.length∧s.1.length≤80∧s.2.length≤12∧readR (ts.drop i) i s=E) ts.length ⟨0,([],[]),rfl,S0,by omega,by omega,by simp,by simp,by simpa using hE⟩ ?_
 rintro n x τ ⟨i,s,rfl,S,rfl,hi,n1,n2,e⟩ R' hR'
 obtain ⟨v0,e0,b0⟩:=S.lst (i:=0) (sz:=4) (es:=s.1.map encDat) rfl
 obtain ⟨v1,e1,b1⟩:=S.lst (i:=1) (sz:=1) (es:=s.2.map fun p=>[iv (p.1:Int)]) rfl
 have g0:=bfj_len b0
 have g1:=bfj_len b1
 have lt:∀τ:AH,lenS (roT ts)=some (iv (ts.length:Int)):=fun _=>len_ro _ _
 have no:∀a b:Int,R (.ret (.tup [roD [],iv a,iv b])) σ→aret (.tup [.val (.slice none 0 0),iv a,iv b]) τ R:=fun a b hh=>ret_no S.sub hh
 simp only [len_ro,RR]
 by_cases c:i<ts.length
 ·have g:(i:Int)<(ts.length:Int):=by omega
  rw [List.drop_eq_getElem_cons c,readR] at e
  have ix:idx 3 (roT ts) (iv (i:Int)) τ=some (.rop (encTok ts[i]) 0):=idx_ro c len_encTok
  have rest:¬(0<i∧s.2=[])→acall TP fn_spec_l3Token [.ptr φm 0 0 0,.rop (encTok ts[i]) 0] τ (onr (fun v27 σ=>
    og (ibin .neq v27 (.val (.int .i64 0))) fun v29=>
    apick v29 (
     aret (.tup [(.val (.slice none 0 0)),v27,iv (i:Int)]) σ R) (
     og (ibin .add (iv (i:Int)) (.val (.int .i64 1))) fun v14=>
     R' (roT ts,.ptr φm 0 0 0,v14,()) σ)) (fun v σ=>apan v σ R)):=fun hc=>by
   rw [if_neg hc] at e
   refine c_spec_l3Token (hk _ (List.getElem_mem c)) S ⟨n1,n2⟩ fun τ1 S1=>?_
   simp only [RR]
   by_cases c2:(tokenR ts[i] s).2=0
   ·rw [if_neg (by simpa using c2)] at e
    have sm:=tokenR_sm (t:=ts[i]) (s:=s) ⟨n1,n2⟩
    simp only [c2,ibin_up c (by omega),RR]
    exact hR' _ _ (ts.length - (i+1)) τ1 (by omega) (.refl _) ⟨i+1,_,rfl,S1,rfl,c,sm.1,sm.2,e⟩
   ·rw [if_pos (by simpa using c2)] at e
    rw [←e] at h
    simp only [c2,RR]
    exact ret_no S1.sub h
  by_cases c0:0<i
  ·have g0':(0:Int)<(i:Int):=by omega
   by_cases c1:s.2=[]
   ·rw [if_pos ⟨c0,c1⟩] at e
    rw [←e] at h
    have gl:((s.2.length:Nat):Int)=0:=by rw [c1];rfl
    simp only [g,g0',e1,g1,gl,RR]
    exact no _ _ h
   ·have gl:¬((s.2.length:Nat):Int)=0:=by have:=List.length_pos_iff.2 c1;omega
    simp only [g,g0',e1,g1,gl,ix,RR]
    have hh:=rest fun k=>c1 k.2
    simpa only [RR] using hh
  ·have g0':¬(0:Int)<(i:Int):=by omega
   simp only [g,g0',ix,RR]
   have hh:=rest fun k=>c0 k.1
   simpa only [RR] using hh
 ·have g:¬(i:Int)<(ts.length:Int):=by omega
  obtain rfl:i=ts.length:=by omega
  rw [List.drop_length,readR] at e
  have bad:s.1=[]∨s.2≠[]→aret (.tup [.val (.slice none 0 0),iv 1,iv (ts.length:Int)]) τ R:=fun hb=>by
   rw [if_pos hb] at e
   rw [←e] at h
   exact no _ _ h
  by_cases c1:s.1=[]
  ·have gl:((s.1.length:Nat):Int)=0:=by rw [c1];rfl
   simp only [g,e0,g0,gl,RR]
   exact bad (.inl c1)
  ·have gl:¬((s.1.length:Nat):Int)=0:=by have:=List.length_pos_iff.2 c1;omega
   by_cases c2:s.2=[]
   ·have gl2:¬(0:Int)<((s.2.length:Nat):Int):=by rw [c2];simp
    rw [if_neg (by rintro (k|k);exact c1 k;exact k c2)] at e
    rw [←e] at h
    simp only [g,e0,g0,gl,e1,g1,gl2,RR]
    refine aret_freeze (a':= .tup [roD s.1,iv 0,iv 0]) S.sub (.tup rfl fun j hj=>?_) h
    match j,hj with
    |0,_=>exact S.fzl (i:=0) rfl e0 (by intro c hc;obtain ⟨x,_,rfl⟩:=List.mem_map.1 hc;rfl)
    |1,_=>exact .same _
    |2,_=>exact .same _
   ·have gl2:(0:Int)<((s.2.length:Nat):Int):=by have:=List.length_pos_iff.2 c2;omega
    simp only [g,e0,g0,gl,e1,g1,gl2,RR]
    exact bad (.inr c2)
theorem wordT_kind (l:List UInt8):1≤(wordT l).1.kind∧(wordT l).1.kind≤6:=by
 unfold wordT
 split
 ·simp
 split
 ·simp
 split<;>simp
theorem toks_ok (t:List UInt8):∀f p out,(∀x,x∈out→1≤Tok.kind x∧Tok.kind x≤6)→out.length≤120→(∀x,x∈(toks t f p out).1→1≤Tok.kind x∧Tok.kind x≤6)∧(toks t f p out).1.length≤120:=by
 intro f
 induction f with
 |zero=>intro p out h hn;exact ⟨h,hn⟩
 |succ f ih=>
  intro p out h hn
  have no:(∀x,x∈([]:List Tok)→1≤Tok.kind x∧Tok.kind x≤6)∧([]:List Tok).length≤120:=⟨(fun x hx=>by cases hx),by simp⟩
  rw [toks]
  split
  ·exact ⟨h,hn⟩
  ·rename_i c r _
   split
   ·split
    ·exact no
    ·rename_i hm hl
     refine ih _ _ (fun x hx=>?_) (by simp;omega)
     rcases List.mem_append.1 hx with k|k
     ·exact h x k
     ·obtain rfl:=List.mem_singleton.1 k
      show 1≤markB c∧markB c≤6
      unfold markB at hm ⊢
      split
      ·omega
      split
      ·omega
      split
      ·omega
      ·rename_i a1 a2 a3;rw [if_neg a1,if_neg a2,if_neg a3] at hm;exact absurd rfl hm
   ·split
    ·exact no
    ·split
     ·exact no
     ·rename_i hl
      refine ih _ _ (fun x hx=>?_) (by simp;omega)
      rcases List.mem_append.1 hx with k|k
      ·exact h x k
      ·obtain rfl:=List.mem_singleton.1 k
       exact wordT_kind _
theorem tokR_ok (t:List UInt8):(∀x,x∈(tokR t).1→1≤Tok.kind x∧Tok.kind x≤6)∧(tokR t).1.length≤120:=by
 unfold tokR
 split
 ·exact ⟨(fun x hx=>by cases hx),by simp⟩
 ·exact toks_ok t _ _ [] (fun x hx=>by cases hx) (by simp)
theorem bldDR (c a:Int) (es:List (List AV)):bld [iv 0,iv 0,.val (.slice none 0 0)] [(0,1),(1,1),(2,1)] [(0,iv c),(1,iv a),(2,.ro es)]=some (.agg [iv c,iv a,.ro es]):=rfl
theorem c_spec_ReadData {t:List UInt8} (hl:t.length≤1048576) (h:R (.ret (.agg [iv (dataR t).2.1,iv ((dataR t).2.2:Nat),roD (dataR t).1])) σ):acall TP fn_spec_ReadData [str (bs t)] σ R:=by
 refine s_spec_ReadData_ok ?_
 unfold s_spec_ReadData
 intro φ hφ
 refine c_spec_TokensOf hl ?_
 simp only [RR]
 intro φ2 hφ2
 have hT:=tokR_ok t
 unfold dataR at h
 generalize tokR t=E at h hT ⊢
 refine sto_own (es:=[[iv 0,iv 0,.val (.slice none 0 0)]]) (cs:=[iv E.2.1,iv (E.2.2:Nat),roT E.1]) (AH.set_same ..) (by simp) rfl rfl rfl (by intro y hy;simp only [List.mem_cons,List.not_mem_nil,or_false] at hy;rcases hy with rfl|rfl|rfl<;>rfl) ?_
 simp only [List.set_cons_zero,AH.set_set]
 refine frz_cell hφ2 rfl ?_
 have l0:∀τ,lod (.rop [iv E.2.1,iv (E.2.2:Nat),roT E.1] 0) τ=some (iv E.2.1):=fun _=>rfl
 have l1:∀τ,lod (.rop [iv E.2.1,iv (E.2.2:Nat),roT E.1] 1) τ=some (iv (E.2.2:Nat)):=fun _=>rfl
 have l2:∀τ,lod (.rop [iv E.2.1,iv (E.2.2:Nat),roT E.1] 2) τ=some (roT E.1):=fun _=>rfl
 simp only [l0,RR]
 by_cases c:E.2.1=0
 ·rw [if_neg (by simpa using c)] at h
  simp only [c,l2,RR]
  refine c_spec_l3Read hT.1 (by omega) ?_
  generalize readR E.1 0 ([],[])=D at h ⊢
  have e0:aext (.tup [roD D.1,iv D.2.1,iv (D.2.2:Nat)]) 0=some (roD D.1):=rfl
  have e1:aext (.tup [roD D.1,iv D.2.1,iv (D.2.2:Nat)]) 1=some (iv D.2.1):=rfl
  have e2:aext (.tup [roD D.1,iv D.2.1,iv (D.2.2:Nat)]) 2=some (iv (D.2.2:Nat)):=rfl
  simp only [e0,e1,e2,bldDR,RR]
  exact fin_cell hφ rfl rfl (by intro x hx;simp at hx;rcases hx with rfl|rfl|rfl<;>rfl) h
 ·rw [if_pos (by simpa using c)] at h
  have eb:bld [iv 0,iv 0,.val (.slice none 0 0)] [(0,1),(1,1),(2,1)] [(0,iv E.2.1),(1,iv (E.2.2:Nat))]=some (.agg [iv E.2.1,iv (E.2.2:Nat),.val (.slice none 0 0)]):=rfl
  simp only [c,l0,l1,eb,RR]
  refine fin_cellZ (cs':=[iv E.2.1,iv (E.2.2:Nat),roD []]) hφ rfl rfl (by intro x hx;simp at hx;rcases hx with rfl|rfl|rfl<;>rfl) rfl (fun j hj=>?_) h
  match j,hj with
  |0,_=>exact .same _
  |1,_=>exact .same _
  |2,_=>exact .nil
end
end Go.Proofs.YtbppopcpgcgkkaaGreatDoor.E
/- Cores that are made to code: the program's way. -/
namespace Go.Proofs.YtbppopcpgcgkkaaGreatDoor.E
open Go Go.RowKit
set_option maxRecDepth 100000
theorem getD_get {l:List Nat} {j:Nat} (h:j<l.length):l.getD j 0=l[j]:=by simp [List.getD,h]
theorem many_app (g:Nat→St→St) (h:St→St):∀(a b:List Nat) (B:St),manyS g h (a++b) B=manyS g h b (manyS g h a B):=by
 intro a
 induction a with
 |nil=>intro b B;rfl
 |cons k a ih=>intro b B;exact ih b _
theorem fits_end {B:St} {i:Nat} {e:Bool} (h:fits B) (hi:i<B.length):fits (endS B i e)↔(e=true→lenS' B i<200):=by
 cases e with
 |false=>exact ⟨fun _ c=>(by cases c),fun _=>h⟩
 |true=>exact (fits_put h hi).trans ⟨fun k _=>k,fun k=>k rfl⟩
variable [L:Lam]
variable {σ τ τ':AH} {R:AEnd→AH→Prop}
abbrev roK (ks:List Nat):AV:= .ro (ks.map fun k:Nat=>[iv (k:Int)])
def encK (ks:List Nat):List AV:=[roK ks]
theorem len_encK (ks:List Nat):(encK ks).length=1:=rfl
def allK (cs:List Cor):List (List Nat):=(List.range cs.length).map (kidsC cs)
abbrev roKK (cs:List Cor):AV:= .ro ((allK cs).map encK)
theorem idx_K {ks:List Nat} {j:Nat} (hj:j<ks.length):idx 1 (roK ks) (iv (j:Int)) σ=some (.rop [iv ((ks.getD j 0:Nat):Int)] 0):=by
 have:=idx_ro (σ:=σ) (enc:=fun k:Nat=>[iv (k:Int)]) (es:=ks) hj (sz:=1) (fun _=>rfl)
 rw [this];simp [List.getD,hj]
theorem lod_1 {x:AV}:lod (.rop [x] 0) σ=some x:=rfl
theorem lenK {ks:List Nat}:lenS (roK ks)=some (iv (ks.length:Int)):=by simp [lenS]
theorem pan_onr {pre:List AV} {φm:Nat} {k:AV→AH→Prop} (h:PanTo pre σ φm R):PanTo pre σ φm (onr k fun v σ=>apan v σ R):=fun _ _ hS=>apan_sub (.refl _) (h _ _ hS)
theorem corAt_eq {cs:List Cor} {x:Nat} (h:x<cs.length):cs[x]=corAt cs x:=by simp [corAt,List.getD,h]
section
variable {φm:Nat} {B:St} {cs:List Cor}
abbrev preI (cs:List Cor):List AV:=[roC cs,roKK cs]
def CoreC (cs:List Cor) (f:Nat) (σ:AH) (φm:Nat):Prop:=∀(x i:Nat) (e:Bool) (B:St) (τ:AH) (R:AEnd→AH→Prop),x<cs.length→cs.length≤f+x→i<B.length→CSt (preI cs) σ τ φm B→fits B→
 (fits (mkC cs f x i e B)→∀τ',CSt (preI cs) σ τ' φm (mkC cs f x i e B)→R (.ret (.tup [])) τ')→(¬fits (mkC cs f x i e B)→PanTo (preI cs) σ φm R)→acall TP fn_impl_compiler_core [.ptr φm 0 0 0,iv (x:Int),iv (i:Int),bv e] τ R
theorem end_impl {i:Nat} {e:Bool} (h:CSt (preI cs) σ τ φm B) (hi:i<B.length) (hf:fits B) (h1:fits (endS B i e)→∀τ',CSt (preI cs) σ τ' φm (endS B i e)→R (.ret (.tup [])) τ') (h2:¬fits (endS B i e)→PanTo (preI cs) σ φm R):
  apick (bv e) (og (bld [(.val (.int .i64 0)),(.val (.int .i64 0)),(.val (.int .i64 0)),(.val (.int .i64 0)),(.val (.int .i64 0)),(.val (.string ⟨#[]⟩)),(.val (.slice none 0 0))] [(0,1),(1,1),(2,1),(3,1),(4,1),(5,1),(6,1)] [(0,(.val (.int .i64 12)))]) fun v157=>
    acall TP fn_impl_compiler_emit [.ptr φm 0 0 0,iv (i:Int),v157] τ (onr (fun _ σ=>
    aret (.tup []) σ R) (fun v σ=>apan v σ R))) (aret (.tup []) τ R):=by
 have hf':=fits_end (e:=e) hf hi
 cases e with
 |true=>
  have eb:bld [(.val (.int .i64 0)),(.val (.int .i64 0)),(.val (.int .i64 0)),(.val (.int .i64 0)),(.val (.int .i64 0)),(.val (.string ⟨#[]⟩)),(.val (.slice none 0 0))] [(0,1),(1,1),(2,1),(3,1),(4,1),(5,1),(6,1)] [(0,(.val (.int .i64 12)))]=some (.agg [iv 12,iv 0,iv 0,iv 0,iv 0,str ⟨#[]⟩,nilS]):=rfl
  simp only [eb,RR]
  refine nil_op (oc0 12) rfl rfl ?_
  refine c_impl_emit rfl h hi (hf.2 i hi) (fun c τ' g=>?_) fun c=>pan_onr (h2 fun k=>c (hf'.1 k rfl))
  simp only [RR]
  exact ret_here (h1 (hf'.2 fun _=>c) τ' g)
 |false=>simp only [RR];exact ret_here (h1 hf τ h)
theorem c_impl_choice {f:Nat} (hC:CoreC cs f σ φm) {k1 k2 k3 i:Nat} {e:Bool} (hx:∀k,k∈[k1,k2,k3]→k<cs.length∧cs.length≤f+k) (h:CSt (preI cs) σ τ φm B) (hi:i<B.length) (hf:fits B) {B1 B2 B3 B4 B5 D:St}
  (d1:B1=mkC cs f k1 i false B) (d2:B2=mkC cs f k2 i e (putS B1 i (oc0 6))) (d3:B3=if e then B2 else putS B2 i (oc0 5)) (d4:B4=setS B3 i (lenS' B1 i) (lenS' B3 i:Int)) (d5:B5=mkC cs f k3 i e B4) (hD:D=if e then B5 else setS B5 i (lenS' B2 i) (lenS' B5 i:Int))
  (h1:fits D→∀τ',CSt (preI cs) σ τ' φm D→R (.ret (.tup [])) τ') (h2:¬fits D→PanTo (preI cs) σ φm R):acall TP fn_impl_compiler_choice [.ptr φm 0 0 0,roK [k1,k2,k3],iv (i:Int),bv e] τ R:=by
 have l1:leS B B1:=by rw [d1];exact mkC_le ..
 have l2:leS (putS B1 i (oc0 6)) B2:=by rw [d2];exact mkC_le ..
 have l3:leS B2 B3:=by rw [d3];cases e<;>first|exact leS_put _ _ _|exact leS.refl _
 have l4:leS B3 B4:=by rw [d4];exact leS_set ..
 have l5:leS B4 B5:=by rw [d5];exact mkC_le ..
 have l6:leS B5 D:=by rw [hD];cases e<;>first|exact leS_set _ _ _ _|exact leS.refl _
 have i1:i<B1.length:=Nat.lt_of_lt_of_le hi l1.1
 have i1':i<(putS B1 i (oc0 6)).length:=by rw [len_put];exact i1
 have i2:i<B2.length:=Nat.lt_of_lt_of_le i1' l2.1
 have i3:i<B3.length:=Nat.lt_of_lt_of_le i2 l3.1
 have i4:i<B4.length:=Nat.lt_of_lt_of_le i3 l4.1
 have i5:i<B5.length:=Nat.lt_of_lt_of_le i4 l5.1
 have n1:lenS' B1 i<lenS' B3 i:=by
  have:=l2.2 i i1'
  rw [lenS_put,if_pos ⟨rfl,i1⟩] at this
  have:=l3.2 i i2
  omega
 have x0:∀τ,idx 1 (roK [k1,k2,k3]) (.val (.int .i64 0)) τ=some (.rop [iv (k1:Int)] 0):=fun τ=>idx_K (j:=0) (by simp)
 have x1:∀τ,idx 1 (roK [k1,k2,k3]) (.val (.int .i64 1)) τ=some (.rop [iv (k2:Int)] 0):=fun τ=>idx_K (j:=1) (by simp)
 have x2:∀τ,idx 1 (roK [k1,k2,k3]) (.val (.int .i64 2)) τ=some (.rop [iv (k3:Int)] 0):=fun τ=>idx_K (j:=2) (by simp)
 have eb6:bld [(.val (.int .i64 0)),(.val (.int .i64 0)),(.val (.int .i64 0)),(.val (.int .i64 0)),(.val (.int .i64 0)),(.val (.string ⟨#[]⟩)),(.val (.slice none 0 0))] [(0,1),(1,1),(2,1),(3,1),(4,1),(5,1),(6,1)] [(0,(.val (.int .i64 6)))]=some (.agg [iv 6,iv 0,iv 0,iv 0,iv 0,str ⟨#[]⟩,nilS]):=rfl
 have eb5:bld [(.val (.int .i64 0)),(.val (.int .i64 0)),(.val (.int .i64 0)),(.val (.int .i64 0)),(.val (.int .i64 0)),(.val (.string ⟨#[]⟩)),(.val (.slice none 0 0))] [(0,1),(1,1),(2,1),(3,1),(4,1),(5,1),(6,1)] [(0,(.val (.int .i64 5)))]=some (.agg [iv 5,iv 0,iv 0,iv 0,iv 0,str ⟨#[]⟩,nilS]):=rfl
 refine s_impl_compiler_choice_ok ?_
 unfold s_impl_compiler_choice
 simp only [x0,lod_1,RR]
 refine hC k1 i false B τ _ (hx k1 (by simp)).1 (hx k1 (by simp)).2 hi h hf (fun f1 τ1 S1=>?_) fun c=>pan_onr (h2 fun k=>c (by rw [←d1];exact k.of_le ((((((leS_put B1 i (oc0 6)).trans l2).trans l3).trans l4).trans l5).trans l6)))
 rw [←d1] at f1 S1
 simp only [eb6,RR]
 refine nil_op (oc0 6) rfl rfl ?_
 refine c_impl_emit rfl S1 i1 (f1.2 i i1) (fun c τ2 S2=>?_) fun c=>pan_onr (h2 fun k=>c ((fits_put f1 i1).1 (k.of_le (((l2.trans l3).trans l4).trans (l5.trans l6)))))
 have f2:=(fits_put (o:=oc0 6) f1 i1).2 c
 simp only [x1,lod_1,RR]
 refine hC k2 i e _ τ2 _ (hx k2 (by simp)).1 (hx k2 (by simp)).2 i1' S2 f2 (fun f3 τ3 S3=>?_) fun c=>pan_onr (h2 fun k=>c (by rw [←d2];exact k.of_le ((l3.trans l4).trans (l5.trans l6))))
 rw [←d2] at f3 S3
 simp only [jn,RR]
 have fin:∀(τ:AH) (u:AV),CSt (preI cs) σ τ φm B3→fits B3→(e=false→u=iv (lenS' B2 i:Int))→
   og (anil (.ptr φm 0 0 0)) fun v34=>og (fldA 2 v34) fun v35=>og (lod v35 τ) fun v36=>og (idx 2 v36 (iv (i:Int)) τ) fun v38=>og (fldA 1 v38) fun v39=>og (lod v39 τ) fun v40=>
   acall TP fn_impl_compiler_here [.ptr φm 0 0 0,iv (i:Int)] τ (onr (fun v44 σ=>
   (lod v39 σ=some v40∧idx 2 v36 (iv (i:Int)) σ=some v38∧lod v35 σ=some v36∧True)∧
   og (idx 7 v40 (iv (lenS' B1 i:Int)) σ) fun v45=>og (fldA 1 v45) fun v46=>sto 1 v46 v44 σ fun σ=>
   (True)∧
   og (idx 1 (roK [k1,k2,k3]) (.val (.int .i64 2)) σ) fun v49=>og (lod v49 σ) fun v50=>
   acall TP fn_impl_compiler_core [.ptr φm 0 0 0,v50,iv (i:Int),bv e] σ (onr (fun _ σ=>
   og (aun .not (bv e)) fun v55=>
   apick v55 (
    og (anil (.ptr φm 0 0 0)) fun v57=>og (fldA 2 v57) fun v58=>og (lod v58 σ) fun v59=>og (idx 2 v59 (iv (i:Int)) σ) fun v61=>og (fldA 1 v61) fun v62=>og (lod v62 σ) fun v63=>
    acall TP fn_impl_compiler_here [.ptr φm 0 0 0,iv (i:Int)] σ (onr (fun v67 σ=>
    (lod v62 σ=some v63∧idx 2 v59 (iv (i:Int)) σ=some v61∧lod v58 σ=some v59∧True)∧
    og (idx 7 v63 u σ) fun v68=>og (fldA 1 v68) fun v69=>sto 1 v69 v67 σ fun σ=>
    (True)∧
    aret (.tup []) σ R) (fun v σ=>apan v σ R))) (
    aret (.tup []) σ R)) (fun v σ=>apan v σ R))) (fun v σ=>apan v σ R)):=by
  intro τ u S fB hu
  obtain ⟨v,φ,st,w,e1,e2,e3,e4,_,e6⟩:=S.open i3
  replace e1:lod (.ptr φm 0 0 2) τ=some v:=e1
  simp only [e1,e2,e3,RR]
  refine c_impl_here rfl S i3 ?_
  simp only [e1,e2,e3,RR,true_and,and_true]
  obtain ⟨φw,stw,g1,g2⟩:=e6 (lenS' B1 i) n1
  simp only [g1,RR]
  refine g2 _ _ fun τ4 S4=>?_
  rw [←d4] at S4
  simp only [x2,lod_1,RR,true_and]
  have f4:fits B4:=by rw [d4];exact fits_set.2 fB
  refine hC k3 i e B4 τ4 _ (hx k3 (by simp)).1 (hx k3 (by simp)).2 i4 S4 f4 (fun f5 τ5 S5=>?_) fun c=>pan_onr (h2 fun k=>c (by rw [←d5];exact k.of_le l6))
  rw [←d5] at f5 S5
  cases e with
  |true=>
   rw [if_pos rfl] at hD
   subst hD
   simp only [RR]
   exact ret_here (h1 f5 τ5 S5)
  |false=>
   rw [if_neg (by decide)] at hD d3
   obtain rfl:=hu rfl
   have n2:lenS' B2 i<lenS' B5 i:=by
    have a1:=l4.2 i i3
    have a2:=l5.2 i i4
    have a3:lenS' B3 i=lenS' B2 i+1:=by rw [d3,lenS_put,if_pos ⟨rfl,i2⟩]
    omega
   obtain ⟨v',φ',st',w',q1,q2,q3,q4,_,q6⟩:=S5.open i5
   replace q1:lod (.ptr φm 0 0 2) τ5=some v':=q1
   simp only [q1,q2,q3,RR]
   refine c_impl_here rfl S5 i5 ?_
   simp only [q1,q2,q3,RR,true_and,and_true]
   obtain ⟨φw',stw',g1',g2'⟩:=q6 (lenS' B2 i) n2
   simp only [g1',RR]
   refine g2' _ _ fun τ6 S6=>?_
   rw [←hD] at S6
   exact ret_here (h1 (by rw [hD];exact fits_set.2 f5) τ6 S6)
 cases e with
 |true=>
  rw [if_pos rfl] at d3
  subst d3
  simp only [RR]
  exact fin τ3 (iv 0) S3 f3 (fun c=>by cases c)
 |false=>
  rw [if_neg (by decide)] at d3
  simp only [eb5,RR]
  refine nil_op (oc0 5) rfl rfl ?_
  refine c_impl_emit rfl S3 i2 (f3.2 i i2) (fun c τ4 S4=>?_) fun c=>pan_onr (h2 fun k=>c ((fits_put (o:=oc0 5) f3 i2).1 (by rw [←d3];exact k.of_le ((l4.trans l5).trans l6))))
  rw [←d3] at S4
  simp only [RR]
  exact fin τ4 _ S4 (by rw [d3];exact (fits_put f3 i2).2 c) fun _=>rfl
theorem idx_KK {x:Nat} (h:x<cs.length):idx 1 (roKK cs) (iv (x:Int)) σ=some (.rop [roK (kidsC cs x)] 0):=by
 have hl:x<(allK cs).length:=by simpa [allK] using h
 have:=idx_ro (σ:=σ) (enc:=encK) (es:=allK cs) hl (sz:=1) len_encK
 rw [this];simp [allK,encK]
theorem slc_K {ks:List Nat} (hn:ks≠[]):slc 1 (roK ks) none (some (iv ((ks.length:Int) - 1))) none σ=some (roK ks.dropLast):=by
 have hl:ks.length≠0:=fun c=>hn (List.length_eq_zero_iff.1 c)
 have e1:(ks.length:Int) - 1=((ks.length - 1:Nat):Int):=by omega
 rw [e1]
 have e:abd none 0=some 0:=rfl
 have e2:abd (some (iv ((ks.length - 1:Nat):Int))) ((ks.map fun k:Nat=>[iv (k:Int)]).length)=some (ks.length - 1):=abd_nat _ _
 have e3:abd none ((ks.map fun k:Nat=>[iv (k:Int)]).length)=some (ks.map fun k:Nat=>[iv (k:Int)]).length:=rfl
 simp only [slc,e,e2,e3]
 rw [if_pos ⟨Nat.zero_le _,by simp,by simp,by simp,by rw [List.all_eq_true];intro c hc;obtain ⟨x,_,rfl⟩:=List.mem_map.1 hc;rfl⟩]
 rw [List.dropLast_eq_take,List.drop_zero,←List.map_take]
set_option maxHeartbeats 2000000 in
theorem core_all (hw:WfC cs):∀f,CoreC cs f σ φm:=by
 intro f
 induction f with
 |zero=>intro x i e B τ R hx hf;omega
 |succ f ih=>
  intro x i e B τ R hx hfx hi h hf h1 h2
  have hkd:∀k,k∈kidsC cs x→k<cs.length∧cs.length≤f+k:=fun k hk=>by have:=hw.kid hk;omega
  have hkk:=hw.kids x hx
  have hkind:=hw.kind x hx
  have ex:∀τ,idx 6 (roC cs) (iv (x:Int)) τ=some (.rop (encCor (corAt cs x)) 0):=fun τ=>by rw [←corAt_eq hx];exact idx_ro hx len_encCor
  have p0:∀{τ},CSt (preI cs) σ τ φm B→lod (.ptr φm 0 0 0) τ=some (roC cs):=fun h=>h.fix rfl
  have p1:∀{τ},CSt (preI cs) σ τ φm B→lod (.ptr φm 0 0 1) τ=some (roKK cs):=fun h=>h.fix rfl
  refine s_impl_compiler_core_ok ?_
  unfold s_impl_compiler_core
  simp only [p0 h,p1 h,ex,idx_KK hx,lod_1,lodA_all (len_encCor _),RR]
  intro φ8 hφ8
  refine ⟨trivial,?_⟩
  refine sto_own (es:=[[iv 0,iv 0,iv 0,iv 0,str ⟨#[]⟩,nilS]]) (cs:=encCor (corAt cs x)) (by rw [AH.set_same];rfl) (by simp) rfl rfl rfl (one_encCor _) ?_
  have hg:CSt (preI cs) σ (τ.set φ8 ⟨0,6,[encCor (corAt cs x)]⟩) φm B:=h.grow (.set (.refl τ) _ hφ8)
  simp only [List.set_cons_zero,AH.set_set,p1 hg,lod_1,idx_KK hx,RR,true_and,and_true,jn]
  refine frz_cell hφ8 rfl ?_
  have l0:∀τ,lod (.rop (encCor (corAt cs x)) 0) τ=some (iv (corAt cs x).kind):=fun _=>rfl
  have l2:∀τ,lod (.rop (encCor (corAt cs x)) 2) τ=some (iv (corAt cs x).a):=fun _=>rfl
  have l3:∀τ,lod (.rop (encCor (corAt cs x)) 3) τ=some (iv (corAt cs x).b):=fun _=>rfl
  have l4:∀τ,lod (.rop (encCor (corAt cs x)) 4) τ=some (str (corAt cs x).name):=fun _=>rfl
  have l5:∀τ,lod (.rop (encCor (corAt cs x)) 5) τ=some (roD (corAt cs x).data):=fun _=>rfl
  simp only [l0,l2,l3,l4,l5,RR]
  rw [mkC] at h1 h2
  dsimp only at h1 h2
  generalize hks:kidsC cs x=ks at*
  generalize hc:corAt cs x=c at*
  have one:∀(o:OpD),(fits (endS (putS B i o) i e)→∀τ',CSt (preI cs) σ τ' φm (endS (putS B i o) i e)→R (.ret (.tup [])) τ')→(¬fits (endS (putS B i o) i e)→PanTo (preI cs) σ φm R)→
    acall TP fn_impl_compiler_emit [.ptr φm 0 0 0,iv (i:Int),.agg (encOp o)] τ (onr (fun _ σ=>
    apick (bv e) (og (bld [(.val (.int .i64 0)),(.val (.int .i64 0)),(.val (.int .i64 0)),(.val (.int .i64 0)),(.val (.int .i64 0)),(.val (.string ⟨#[]⟩)),(.val (.slice none 0 0))] [(0,1),(1,1),(2,1),(3,1),(4,1),(5,1),(6,1)] [(0,(.val (.int .i64 12)))]) fun v157=>
    acall TP fn_impl_compiler_emit [.ptr φm 0 0 0,iv (i:Int),v157] σ (onr (fun _ σ=>
    aret (.tup []) σ R) (fun v σ=>apan v σ R))) (aret (.tup []) σ R)) (fun v σ=>apan v σ R)):=by
   intro o g1 g2
   refine c_impl_emit rfl h hi (hf.2 i hi) (fun c τ' S=>?_) fun c=>pan_onr (g2 fun k=>c ((fits_put hf hi).1 (k.of_le (leS_end ..))))
   exact end_impl S (by rw [len_put];exact hi) ((fits_put hf hi).2 c) g1 g2
  by_cases c1:c.kind=1
  ·rw [if_pos c1] at h1 h2
   have eb:bld [(.val (.int .i64 0)),(.val (.int .i64 0)),(.val (.int .i64 0)),(.val (.int .i64 0)),(.val (.int .i64 0)),(.val (.string ⟨#[]⟩)),(.val (.slice none 0 0))] [(0,1),(1,1),(2,1),(3,1),(4,1),(5,1),(6,1)] [(0,(.val (.int .i64 1))),(6,roD c.data)]=some (.agg (encOp (ocD 1 c.data))):=rfl
   simp only [c1,eb,RR]
   exact one _ h1 h2
  rw [if_neg c1] at h1 h2
  by_cases c2:c.kind=2
  ·rw [if_pos c2] at h1 h2
   have eb:bld [(.val (.int .i64 0)),(.val (.int .i64 0)),(.val (.int .i64 0)),(.val (.int .i64 0)),(.val (.int .i64 0)),(.val (.string ⟨#[]⟩)),(.val (.slice none 0 0))] [(0,1),(1,1),(2,1),(3,1),(4,1),(5,1),(6,1)] [(0,(.val (.int .i64 2))),(1,iv c.a),(2,iv c.b)]=some (.agg (encOpA (ocAB 2 c.a c.b) nilS)):=rfl
   simp only [c2,eb,Int.reduceEq,RR]
   exact nil_op _ rfl rfl (one _ h1 h2)
  rw [if_neg c2] at h1 h2
  by_cases c3:c.kind=3
  ·rw [if_pos c3] at h1 h2
   have eb:bld [(.val (.int .i64 0)),(.val (.int .i64 0)),(.val (.int .i64 0)),(.val (.int .i64 0)),(.val (.int .i64 0)),(.val (.string ⟨#[]⟩)),(.val (.slice none 0 0))] [(0,1),(1,1),(2,1),(3,1),(4,1),(5,1),(6,1)] [(0,(.val (.int .i64 3))),(5,str c.name)]=some (.agg (encOpA (ocN 3 c.name) nilS)):=rfl
   simp only [c3,eb,Int.reduceEq,RR]
   exact nil_op _ rfl rfl (one _ h1 h2)
  rw [if_neg c3] at h1 h2
  have z0:∀{k:Nat} {r:List Nat} τ,idx 1 (roK (k::r)) (.val (.int .i64 0)) τ=some (.rop [iv (k:Int)] 0):=fun {k r} τ=>by have:=idx_K (σ:=τ) (ks:=k::r) (j:=0) (by simp);simpa using this
  by_cases c5:c.kind=5
  ·rw [if_pos c5] at h1 h2
   unfold hasK at hkk
   rw [if_neg (by omega),if_pos (.inl c5)] at hkk
   obtain ⟨k,rfl⟩:∃k,ks=[k]:=by
    match ks,hkk with
    |[k],_=>exact ⟨k,rfl⟩
   have eb:bld [(.val (.int .i64 0)),(.val (.int .i64 0)),(.val (.int .i64 0)),(.val (.int .i64 0)),(.val (.int .i64 0)),(.val (.string ⟨#[]⟩)),(.val (.slice none 0 0))] [(0,1),(1,1),(2,1),(3,1),(4,1),(5,1),(6,1)] [(0,(.val (.int .i64 4))),(1,iv (B.length:Int))]=some (.agg (encOpA (ocA 4 (B.length:Int)) nilS)):=rfl
   simp only [c5,Int.reduceEq,RR]
   simp only [List.getD_cons_zero] at h1 h2
   have hlP:leS (B++[(c.a,[])]) (endS (mkC cs f k B.length true (putS (B++[(c.a,[])]) i (ocA 4 (B.length:Int)))) i e):=((leS_put ..).trans (mkC_le ..)).trans (leS_end ..)
   have hi1:i<(B++[(c.a,[])]).length:=by simp;omega
   refine c_impl_block rfl h hf.1 (fun c60 τ1 S1=>?_) fun c60=>pan_onr (h2 fun k=>c60 ((fits_push hf).1 (k.of_le hlP)))
   have f1:=(fits_push (a:=c.a) hf).2 c60
   simp only [eb,RR]
   refine nil_op _ rfl rfl (c_impl_emit rfl S1 hi1 (f1.2 i hi1) (fun q τ2 S2=>?_) fun c=>pan_onr (h2 fun k=>c ((fits_put f1 hi1).1 (k.of_le ((mkC_le ..).trans (leS_end ..))))))
   have f2:=(fits_put (o:=ocA 4 (B.length:Int)) f1 hi1).2 q
   simp only [z0,lod_1,RR]
   have hk:=hkd k (by simp)
   refine ih k B.length true _ τ2 _ hk.1 hk.2 (by rw [len_put];simp) S2 f2 (fun f3 τ3 S3=>?_) fun c=>pan_onr (h2 fun k=>c (k.of_le (leS_end ..)))
   have hi3:i<(mkC cs f k B.length true (putS (B++[(c.a,[])]) i (ocA 4 (B.length:Int)))).length:=Nat.lt_of_lt_of_le (by rw [len_put];exact hi1) (mkC_le ..).1
   simp only [RR]
   exact end_impl S3 hi3 f3 h1 h2
  rw [if_neg c5] at h1 h2
  by_cases c78:c.kind=7∨c.kind=8
  ·rw [if_pos c78] at h1 h2
   unfold hasK at hkk
   rw [if_neg (by omega),if_pos (by omega)] at hkk
   obtain ⟨k,rfl⟩:∃k,ks=[k]:=by
    match ks,hkk with
    |[k],_=>exact ⟨k,rfl⟩
   simp only [List.getD_cons_zero] at h1 h2
   have hk:=hkd k (by simp)
   have es:ibin .sub (iv c.kind) (.val (.int .i64 7))=some (iv (c.kind - 7)):=ibin_sub (by omega) (by omega)
   have ea:ibin .add (iv (c.kind - 7)) (.val (.int .i64 8))=some (iv (c.kind - 7+8)):=ibin_add (by omega) (by omega)
   have eb:bld [(.val (.int .i64 0)),(.val (.int .i64 0)),(.val (.int .i64 0)),(.val (.int .i64 0)),(.val (.int .i64 0)),(.val (.string ⟨#[]⟩)),(.val (.slice none 0 0))] [(0,1),(1,1),(2,1),(3,1),(4,1),(5,1),(6,1)] [(0,iv (c.kind - 7+8)),(5,str c.name)]=some (.agg (encOpA (ocN (c.kind - 7+8) c.name) nilS)):=rfl
   have go:acall TP fn_impl_compiler_core [.ptr φm 0 0 0,iv (k:Int),iv (i:Int),bv false] τ (onr (fun _ σ=>
     acall TP fn_impl_compiler_emit [.ptr φm 0 0 0,iv (i:Int),.agg (encOpA (ocN (c.kind - 7+8) c.name) nilS)] σ (onr (fun _ σ=>
     apick (bv e) (og (bld [(.val (.int .i64 0)),(.val (.int .i64 0)),(.val (.int .i64 0)),(.val (.int .i64 0)),(.val (.int .i64 0)),(.val (.string ⟨#[]⟩)),(.val (.slice none 0 0))] [(0,1),(1,1),(2,1),(3,1),(4,1),(5,1),(6,1)] [(0,(.val (.int .i64 12)))]) fun v157=>
     acall TP fn_impl_compiler_emit [.ptr φm 0 0 0,iv (i:Int),v157] σ (onr (fun _ σ=>
     aret (.tup []) σ R) (fun v σ=>apan v σ R))) (aret (.tup []) σ R)) (fun v σ=>apan v σ R))) (fun v σ=>apan v σ R)):=by
    refine ih k i false B τ _ hk.1 hk.2 hi h hf (fun f1 τ1 S1=>?_) fun c=>pan_onr (h2 fun k=>c (k.of_le ((leS_put ..).trans (leS_end ..))))
    have hi1:i<(mkC cs f k i false B).length:=Nat.lt_of_lt_of_le hi (mkC_le ..).1
    simp only [RR]
    refine nil_op _ rfl rfl (c_impl_emit rfl S1 hi1 (f1.2 i hi1) (fun c τ2 S2=>?_) fun c=>pan_onr (h2 fun k=>c ((fits_put f1 hi1).1 (k.of_le (leS_end ..)))))
    exact end_impl S2 (by rw [len_put];exact hi1) ((fits_put f1 hi1).2 c) h1 h2
   rcases c78 with c7|c8
   ·simp only [c7,z0,lod_1,Int.reduceEq,RR] at es ea eb go ⊢
    simp only [es,ea,eb,RR]
    exact go
   ·simp only [c8,z0,lod_1,Int.reduceEq,RR] at es ea eb go ⊢
    simp only [es,ea,eb,RR]
    exact go
  rw [if_neg c78] at h1 h2
  have c7:¬c.kind=7:=fun k=>c78 (.inl k)
  have c8:¬c.kind=8:=fun k=>c78 (.inr k)
  by_cases c4:c.kind=4
  ·rw [if_pos c4] at h1 h2
   unfold hasK at hkk
   rw [if_pos c4] at hkk
   obtain ⟨k1,k2,k3,rfl⟩:∃k1 k2 k3,ks=[k1,k2,k3]:=by
    match ks,hkk with
    |[k1,k2,k3],_=>exact ⟨k1,k2,k3,rfl⟩
   simp only [List.getD_cons_zero,List.getD_cons_succ] at h1 h2
   simp only [c4,Int.reduceEq,RR]
   refine c_impl_choice ih hkd h hi hf rfl rfl rfl rfl rfl rfl (fun fD τ' S=>?_) fun c=>pan_onr (h2 c)
   simp only [RR]
   exact ret_here (h1 fD τ' S)
  rw [if_neg c4] at h1 h2
  by_cases c6:c.kind=6
  ·rw [if_pos c6] at h1 h2
   unfold hasK at hkk
   rw [if_neg c4,if_neg (by omega),if_pos c6] at hkk
   have hne:ks≠[]:=by intro c;rw [c] at hkk;simp at hkk
   have hsp:=getD_last hne
   have hmem:∀k,k∈ks.dropLast→k∈ks:=fun k hm=>by rw [←hsp];exact List.mem_append_left _ hm
   have hlm:ks.getLastD 0∈ks:=by
    have:ks.getLastD 0∈ks.dropLast++[ks.getLastD 0]:=List.mem_append_right _ (List.mem_singleton.2 rfl)
    rwa [hsp] at this
   have hdl:ks.dropLast.length=ks.length - 1:=List.length_dropLast
   have hkl:ks.length≤160:=by
    have:=hw.len.2
    rw [←hks]
    unfold kidsC
    exact Nat.le_trans (List.length_filter_le _ _) (by simpa using this)
   have es:ibin .sub (iv (ks.length:Int)) (.val (.int .i64 1))=some (iv ((ks.length:Int) - 1)):=ibin_sub (by omega) (by omega)
   have eb:bld [(.val (.int .i64 0)),(.val (.int .i64 0)),(.val (.int .i64 0)),(.val (.int .i64 0)),(.val (.int .i64 0)),(.val (.string ⟨#[]⟩)),(.val (.slice none 0 0))] [(0,1),(1,1),(2,1),(3,1),(4,1),(5,1),(6,1)] [(0,(.val (.int .i64 7)))]=some (.agg (encOpA (oc0 7) nilS)):=rfl
   simp only [c6,lenK,es,slc_K hne,eb,Int.reduceEq,RR]
   refine lp_for ks.dropLast.length (fun j=>(.ptr φm 0 0 0,iv (i:Int),bv e,roK ks,iv ((ks.length:Int) - 1),roK ks.dropLast,iv (ks.dropLast.length:Int),iv (j:Int),())) (fun j τ'=>CSt (preI cs) σ τ' φm (manyS (fun k B=>mkC cs f k i false B) (fun B=>putS B i (oc0 7)) (ks.dropLast.take j) B)∧fits (manyS (fun k B=>mkC cs f k i false B) (fun B=>putS B i (oc0 7)) (ks.dropLast.take j) B)) rfl ⟨h,hf⟩ ?_
   rintro j τ1 hj ⟨S,fS⟩ R' hR'
   have hall:∀l B,leS B (manyS (fun k B=>mkC cs f k i false B) (fun B=>putS B i (oc0 7)) l B):=leS_many (fun k B=>mkC_le ..) (fun B=>leS_put ..)
   have hij:i<(manyS (fun k B=>mkC cs f k i false B) (fun B=>putS B i (oc0 7)) (ks.dropLast.take j) B).length:=Nat.lt_of_lt_of_le hi (hall _ _).1
   by_cases hlt:j<ks.dropLast.length
   ·have g:(j:Int)<(ks.dropLast.length:Int):=by omega
    simp only [g,idx_K hlt,lod_1,RR]
    have hm:ks.dropLast.getD j 0∈ks:=hmem _ (by rw [getD_get hlt];exact List.getElem_mem hlt)
    have htk:manyS (fun k B=>mkC cs f k i false B) (fun B=>putS B i (oc0 7)) ks.dropLast B=manyS (fun k B=>mkC cs f k i false B) (fun B=>putS B i (oc0 7)) (ks.dropLast.drop (j+1)) (putS (mkC cs f (ks.dropLast.getD j 0) i false (manyS (fun k B=>mkC cs f k i false B) (fun B=>putS B i (oc0 7)) (ks.dropLast.take j) B)) i (oc0 7)):=by
     conv=>lhs;rw [←List.take_append_drop j ks.dropLast,many_app,List.drop_eq_getElem_cons hlt]
     simp only [manyS]
     rw [getD_get hlt]
    have hD:leS (putS (mkC cs f (ks.dropLast.getD j 0) i false (manyS (fun k B=>mkC cs f k i false B) (fun B=>putS B i (oc0 7)) (ks.dropLast.take j) B)) i (oc0 7)) (mkC cs f (ks.getLastD 0) i e (manyS (fun k B=>mkC cs f k i false B) (fun B=>putS B i (oc0 7)) ks.dropLast B)):=by
     rw [htk];exact (hall _ _).trans (mkC_le ..)
    refine ih _ i false _ τ1 _ (hkd _ hm).1 (hkd _ hm).2 hij S fS (fun f1 τ2 S2=>?_) fun q=>pan_onr (h2 fun k=>q (k.of_le ((leS_put ..).trans hD)))
    have hi1:i<(mkC cs f (ks.dropLast.getD j 0) i false (manyS (fun k B=>mkC cs f k i false B) (fun B=>putS B i (oc0 7)) (ks.dropLast.take j) B)).length:=Nat.lt_of_lt_of_le hij (mkC_le ..).1
    simp only [RR]
    refine nil_op _ rfl rfl (c_impl_emit rfl S2 hi1 (f1.2 i hi1) (fun q τ3 S3=>?_) fun q=>pan_onr (h2 fun k=>q ((fits_put f1 hi1).1 (k.of_le hD))))
    simp only [ibin_up hlt (by omega),RR]
    have e1:manyS (fun k B=>mkC cs f k i false B) (fun B=>putS B i (oc0 7)) (ks.dropLast.take (j+1)) B=putS (mkC cs f (ks.dropLast.getD j 0) i false (manyS (fun k B=>mkC cs f k i false B) (fun B=>putS B i (oc0 7)) (ks.dropLast.take j) B)) i (oc0 7):=by
     rw [List.take_succ_eq_append_getElem hlt,many_app,getD_get hlt]
     rfl
    exact hR' hlt _ _ (.refl _) (by rw [e1];exact ⟨S3,(fits_put f1 hi1).2 q⟩)
   ·have g:¬(j:Int)<(ks.dropLast.length:Int):=by omega
    obtain rfl:j=ks.dropLast.length:=by omega
    rw [List.take_length] at S fS hij
    have hlast:ks.getD (ks.length - 1) 0=ks.getLastD 0:=by
     rw [List.getLastD_eq_getLast?,List.getLast?_eq_getElem?];rfl
    have ix:idx 1 (roK ks) (iv ((ks.length:Int) - 1)) τ1=some (.rop [iv ((ks.getLastD 0:Nat):Int)] 0):=by
     have:=idx_K (σ:=τ1) (ks:=ks) (j:=ks.length - 1) (by omega)
     rw [hlast,show ((ks.length - 1:Nat):Int)=(ks.length:Int) - 1 by omega] at this
     exact this
    simp only [g,ix,lod_1,RR]
    refine ih _ i e _ τ1 _ (hkd _ hlm).1 (hkd _ hlm).2 hij S fS (fun f1 τ2 S2=>?_) fun q=>pan_onr (h2 q)
    simp only [RR]
    exact ret_here (h1 f1 τ2 S2)
  rw [if_neg c6] at h1 h2
  have c9:c.kind=9:=by omega
  have hkl:ks.length≤160:=by
   have:=hw.len.2
   rw [←hks]
   unfold kidsC
   exact Nat.le_trans (List.length_filter_le _ _) (by simpa using this)
  simp only [c9,lenK,Int.reduceEq,RR]
  refine lp_for ks.length (fun j=>(.ptr φm 0 0 0,iv (i:Int),bv e,roK ks,roK ks,iv (ks.length:Int),iv (j:Int),())) (fun j τ'=>CSt (preI cs) σ τ' φm (manyS (fun k B=>mkC cs f k i false B) id (ks.take j) B)∧fits (manyS (fun k B=>mkC cs f k i false B) id (ks.take j) B)) rfl ⟨h,hf⟩ ?_
  rintro j τ1 hj ⟨S,fS⟩ R' hR'
  have hall:∀l B,leS B (manyS (fun k B=>mkC cs f k i false B) id l B):=leS_many (fun k B=>mkC_le ..) (fun B=> .refl B)
  have hij:i<(manyS (fun k B=>mkC cs f k i false B) id (ks.take j) B).length:=Nat.lt_of_lt_of_le hi (hall _ _).1
  by_cases hlt:j<ks.length
  ·have g:(j:Int)<(ks.length:Int):=by omega
   simp only [g,idx_K hlt,lod_1,RR]
   have hm:ks.getD j 0∈ks:=by simp [List.getD,hlt]
   have htk:manyS (fun k B=>mkC cs f k i false B) id ks B=manyS (fun k B=>mkC cs f k i false B) id (ks.drop (j+1)) (mkC cs f (ks.getD j 0) i false (manyS (fun k B=>mkC cs f k i false B) id (ks.take j) B)):=by
    conv=>lhs;rw [←List.take_append_drop j ks,many_app,List.drop_eq_getElem_cons hlt]
    simp only [manyS,id]
    rw [show ks.getD j 0=ks[j] by simp [List.getD,hlt]]
   refine ih _ i false _ τ1 _ (hkd _ hm).1 (hkd _ hm).2 hij S fS (fun f1 τ2 S2=>?_) fun q=>pan_onr (h2 fun k=>q (k.of_le (by rw [htk];exact (hall _ _).trans (leS_put ..))))
   simp only [ibin_up hlt (by omega),RR]
   have e1:manyS (fun k B=>mkC cs f k i false B) id (ks.take (j+1)) B=mkC cs f (ks.getD j 0) i false (manyS (fun k B=>mkC cs f k i false B) id (ks.take j) B):=by
    rw [List.take_succ_eq_append_getElem hlt,many_app,show ks.getD j 0=ks[j] by simp [List.getD,hlt]]
    rfl
   exact hR' hlt _ _ (.refl _) (by rw [e1];exact ⟨S2,f1⟩)
  ·have g:¬(j:Int)<(ks.length:Int):=by omega
   obtain rfl:j=ks.length:=by omega
   rw [List.take_length] at S fS hij
   have es:ibin .sub (iv (ks.length:Int)) (.val (.int .i64 1))=some (iv ((ks.length:Int) - 1)):=ibin_sub (by omega) (by omega)
   have eb:∀q:Int,bld [(.val (.int .i64 0)),(.val (.int .i64 0)),(.val (.int .i64 0)),(.val (.int .i64 0)),(.val (.int .i64 0)),(.val (.string ⟨#[]⟩)),(.val (.slice none 0 0))] [(0,1),(1,1),(2,1),(3,1),(4,1),(5,1),(6,1)] [(0,iv q),(1,iv ((ks.length:Int) - 1))]=some (.agg (encOpA (ocA q ((ks.length:Int) - 1)) nilS)):=fun q=>rfl
   cases e with
   |true=>
    simp only [g,jn,lenK,es,eb,RR]
    refine nil_op _ rfl rfl (c_impl_emit rfl S hij (fS.2 i hij) (fun q τ3 S3=>?_) fun q=>pan_onr (h2 fun k=>q ((fits_put fS hij).1 k)))
    simp only [RR]
    exact ret_here (h1 ((fits_put fS hij).2 q) τ3 S3)
   |false=>
    simp only [g,jn,lenK,es,eb,RR]
    refine nil_op _ rfl rfl (c_impl_emit rfl S hij (fS.2 i hij) (fun q τ3 S3=>?_) fun q=>pan_onr (h2 fun k=>q ((fits_put fS hij).1 k)))
    simp only [RR]
    exact ret_here (h1 ((fits_put fS hij).2 q) τ3 S3)
end
end Go.Proofs.YtbppopcpgcgkkaaGreatDoor.E
/- The calls that are put off: what they do. -/
namespace Go.Proofs.YtbppopcpgcgkkaaGreatDoor.E
open Go Go.RowKit
set_option maxRecDepth 100000
variable [L:Lam]
def ordK:Sx→Sx
 | .ord _ _ k=>k
 |x=>x
def isEnd:Sx→Bool
 | .rets []=>true
 |_=>false
theorem wf_c:WF 3 ([.var 0,.var 1,.var 2,.cst (.bool true)]++List.replicate 8 .any):=by
 intro s hs
 rcases List.mem_append.1 hs with hs|hs
 ·rcases List.mem_cons.1 hs with rfl|hs
  ·exact (show 0<3 by omega)
  rcases List.mem_cons.1 hs with rfl|hs
  ·exact (show 1<3 by omega)
  rcases List.mem_cons.1 hs with rfl|hs
  ·exact (show 2<3 by omega)
  obtain rfl:=List.mem_singleton.1 hs
  exact True.intro
 ·obtain rfl:=List.eq_of_mem_replicate hs
  exact True.intro
theorem ta0_56 (w:World):Sem.run TP (Instr.typeAssert Value.nilIface 20 97 true) w= .ok (.tuple #[.agg #[.int .i64 0],.bool false]) w:=rfl
theorem ta1_56 (c:Int) (w:World):Sem.run TP (Instr.typeAssert (Value.iface 97 (.agg #[.int .i64 c])) 20 97 true) w= .ok (.tuple #[.agg #[.int .i64 c],.bool true]) w:=rfl
theorem al_56 (w:World):Sem.run TP (zeroValue 97) w= .ok (.agg #[.int .i64 0]) w:=rfl
set_option maxHeartbeats 1000000 in
theorem idle_56 (v2 v3:Value) (w:World):CallsDIn (FR none) 0 TP 56 #[v2,v3] .returning w fun e u' w'=>(∃t,e= .returned t)∧u'= .returning∧∃o,w'=w.alloc o:=by
 refine callsDIn_of_wpSIn Tryz.func56 rfl trivial fun c₀ cs hu=>?_
 apply wpSIn_seq
 apply wpSIn_region
 simp [wpOpsSIn,go_sem,recoverD,hu,Tryz.ntmps56,Exit.thenS,ta0_56,al_56]
 apply wpSIn_seq
 apply wpSIn_region
 simp [wpOpsSIn,go_sem,Exit.thenS]
 refine wpSIn_cond (t:=false) (by simp [Act.eval,Array.replicate]) ?_
 simp only [Bool.false_eq_true,if_false]
 refine wpSIn_of_wpIn rfl (wpIn_skip ?_)
 cases c₀
 simp_all [bodyPostS,results,Tryz.results56]
 exact ⟨_,rfl⟩
set_option maxHeartbeats 1000000 in
theorem caught_56 (κ:Kap) (σ:AH) (w:World) (c:Int) (φa φb:Nat) (x y:AV) (v2 v3:Value) (hr:Rel κ σ w) (h2:VR κ (.ptr φa 0 0 0) v2) (h3:VR κ (.ptr φb 0 0 0) v3) (hne:φa≠φb) (ha:σ φa=some ⟨0,1,[[x]]⟩) (hb:σ φb=some ⟨0,1,[[y]]⟩):
  CallsDIn (FR none) 0 TP 56 #[v2,v3] (.panicking [{v:= .iface 97 (.agg #[.int .i64 c]),recovered:=false}]) w fun e u' w'=>(∃t,e= .returned t)∧settle u'= .returning∧
   ∃κ',Stp κ σ w κ' ((σ.set φa ⟨0,1,[[.val (.slice none 0 0)]]⟩).set φb ⟨0,1,[[.val (.int .i64 c)]]⟩) w':=by
 refine callsDIn_of_wpSIn Tryz.func56 rfl trivial fun c₀ cs hu=>?_
 apply wpSIn_seq
 apply wpSIn_region
 simp [wpOpsSIn,go_sem,recoverD,hu,Tryz.ntmps56,Exit.thenS,ta1_56,al_56]
 obtain ⟨φ5,h50,h51⟩:=hr.newId
 obtain ⟨κ1,hs1,hv5⟩:=Stp.newVar hr h51 97 (xs:=[.val (.int .i64 c)]) (vs:=[.int .i64 c]) (VRs.cons (.val _) (.nil _))
 have n5a:φa≠φ5:=by rintro rfl;rw [ha] at h50;cases h50
 have n5b:φb≠φ5:=by rintro rfl;rw [hb] at h50;cases h50
 generalize htm:(#[v2,v3]++_:Array Value)=tm
 have htt:tm=#[v2,v3,.pointer (some ⟨w.heap.size,0,none⟩),.bool true,.tuple #[.agg #[.int .i64 c],.bool true],.iface 97 (.agg #[.int .i64 c]),.tuple #[.agg #[.int .i64 c],.bool true],.agg #[.int .i64 c],.bool true,undef,undef,undef]:=by rw [←htm];simp [Array.replicate,List.replicate]
 have he:EnvR κ1 ([.ptr φa 0 0 0,.ptr φb 0 0 0,.ptr φ5 0 0 0,.val (.bool true)]++List.replicate 8 .any) tm:=by
  have ht:=htt
  rw [ht]
  exact .ofList (VRs.cons (h2.mono hs1.ext) (VRs.cons (h3.mono hs1.ext) (VRs.cons hv5 (VRs.cons (.val _) (VRs.cons (.any _) (VRs.cons (.any _) (VRs.cons (.any _) (VRs.cons (.any _) (VRs.cons (.any _) (VRs.cons (.any _) (VRs.cons (.any _) (VRs.cons (.any _) (.nil _)))))))))))))
 apply wpSIn_seq
 apply wpSIn_region
 simp only [Array.size,List.length_cons,List.length_nil]
 simp only [List.range,List.range.loop,wpOpsSIn]
 simp [go_sem,Exit.thenS,Region.wanted]
 generalize htm2:tm.setIfInBounds 9 _=tm2
 have he2:EnvR κ1 (([.ptr φa 0 0 0,.ptr φb 0 0 0,.ptr φ5 0 0 0,.val (.bool true)]++List.replicate 8 .any:List AV).set 9 .any) tm2:=by rw [←htm2];exact he.set 9 (.any _)
 refine wpSIn_cond (t:=true) (by simp only [Act.eval,←htm2,htt];rfl) ?_
 rw [if_pos rfl]
 refine wpSIn_of_wpIn rfl ?_
 have hmap:(([.var 0,.var 1,.var 2,.cst (.bool true)]++List.replicate 8 .any:List SV).set 9 .any).map (dv [.ptr φ5 0 0 0,.ptr φb 0 0 0,.ptr φa 0 0 0])=([.ptr φa 0 0 0,.ptr φb 0 0 0,.ptr φ5 0 0 0,.val (.bool true)]++List.replicate 8 .any:List AV).set 9 .any:=rfl
 rw [←hmap] at he2
 have hden:den TP TT (fun e σ'=>e= .ret (.tup [])∧AH.Sub ((σ.set φa ⟨0,1,[[.val (.slice none 0 0)]]⟩).set φb ⟨0,1,[[.val (.int .i64 c)]]⟩) σ') (ordK x56) [.ptr φ5 0 0 0,.ptr φb 0 0 0,.ptr φa 0 0 0] [] (σ.set φ5 ⟨0,1,[[.val (.int .i64 c)]]⟩):=by
  unfold x56 ordK
  simp only [den,di,List.getD_cons_zero,List.getD_cons_succ]
  refine (?_:og (fldA 0 (.ptr φ5 0 0 0)) fun v=>og (lod v (σ.set φ5 ⟨0,1,[[.val (.int .i64 c)]]⟩)) fun v1=>sto 1 (.ptr φa 0 0 0) (.val (.slice none 0 0)) (σ.set φ5 ⟨0,1,[[.val (.int .i64 c)]]⟩) fun σ1=>(lod v σ1=some v1∧True)∧sto 1 (.ptr φb 0 0 0) v1 σ1 fun σ2=>True∧aret (.tup []) σ2 fun e σ'=>e= .ret (.tup [])∧AH.Sub ((σ.set φa ⟨0,1,[[.val (.slice none 0 0)]]⟩).set φb ⟨0,1,[[.val (.int .i64 c)]]⟩) σ')
  have l0:lod (.ptr φ5 0 0 0) (σ.set φ5 ⟨0,1,[[.val (.int .i64 c)]]⟩)=some (.val (.int .i64 c)):=lod_at (AH.set_same ..) rfl rfl
  simp only [RR,l0]
  refine sto_fld (cs:=[x]) (by rw [AH.set_ne' n5a];exact ha) rfl (by decide) rfl rfl ?_
  refine ⟨⟨lod_at (F:=⟨0,1,[[.val (.int .i64 c)]]⟩) (by rw [AH.set_ne' (Ne.symm n5a)];exact AH.set_same ..) rfl rfl,trivial⟩,?_⟩
  refine sto_fld (cs:=[y]) (by rw [AH.set_ne' (Ne.symm hne),AH.set_ne' n5b];exact hb) rfl (by decide) rfl rfl ?_
  refine ⟨trivial,aret_sub (.refl _) ⟨rfl,fun ψ F hF=>?_⟩⟩
  by_cases cb:ψ=φb
  ·subst cb;rw [AH.set_same] at hF ⊢;exact hF
  ·rw [AH.set_ne' cb] at hF ⊢
   by_cases ca:ψ=φa
   ·subst ca;rw [AH.set_same] at hF ⊢;exact hF
   ·rw [AH.set_ne' ca] at hF ⊢
    rw [AH.set_ne' (by rintro rfl;rw [h50] at hF;cases hF)];exact hF
 refine cw_ok TT_ok (C:=[0,1,2,3]) (ancs:=[0,1,0,7]) (T:=TT) (K:=fun _ σ'=>∃σ'',Imp (.tup []) σ' (.tup []) σ''∧AH.Sub ((σ.set φa ⟨0,1,[[.val (.slice none 0 0)]]⟩).set φb ⟨0,1,[[.val (.int .i64 c)]]⟩) σ'') (Kp:=fun _ _=>False) (by kernel_rfl) hs1.rel he2 rfl ?_ (fun _ _ _ _ _ _ _ h=>h.elim) (okCw_ok (R:=fun e σ'=>e= .ret (.tup [])∧AH.Sub ((σ.set φa ⟨0,1,[[.val (.slice none 0 0)]]⟩).set φb ⟨0,1,[[.val (.int .i64 c)]]⟩) σ') (ks:=[]) (K:=fun _ _ x=>isEnd x) ?_ ?_ [0,1,2,3] [] _ _ ⟨[.ptr φ5 0 0 0,.ptr φb 0 0 0,.ptr φa 0 0 0],(([.var 0,.var 1,.var 2,.cst (.bool true)]++List.replicate 8 .any:List SV).set 9 .any),ordK x56,by kernel_rfl,wf_c.set (s:= .any) 9 True.intro,rfl,hden⟩)
 ·rintro κ' t' σ' a' w' ⟨σ'',hi,hsub⟩ hs he' hd'
  obtain ⟨κ2,k1,_⟩:=hi κ' w' _ hs.rel (.tup (vs:=[]) rfl fun i hi=>by cases hi)
  exact ⟨hd',_,rfl,.tuple #[],by simp [results,Tryz.results56],⟨_,rfl⟩,rfl,κ2,(hs1.trans (hs.trans k1)).trans (Stp.sub k1.rel hsub)⟩
 ·rintro a σ' ⟨ρ',t',x',g1,g2,rfl,g3⟩
  replace g1:isEnd x'=true:=g1
  unfold isEnd at g1
  split at g1
  case h_2=>cases g1
  obtain ⟨v',σ'',hi,hv,hsub⟩:=g3
  obtain rfl:v'= .tup []:=by injection hv
  exact ⟨σ'',hi,hsub⟩
 ·rintro v σ' ⟨v',σ'',_,h,_⟩
  cases h
theorem catch_56:Catch TP 56 97:=⟨⟨_,Tryz.func56,rfl,rfl⟩,idle_56,caught_56⟩
theorem ta0_92 (w:World):Sem.run TP (Instr.typeAssert Value.nilIface 20 97 true) w= .ok (.tuple #[.agg #[.int .i64 0],.bool false]) w:=rfl
theorem ta1_92 (c:Int) (w:World):Sem.run TP (Instr.typeAssert (Value.iface 97 (.agg #[.int .i64 c])) 20 97 true) w= .ok (.tuple #[.agg #[.int .i64 c],.bool true]) w:=rfl
theorem al_92 (w:World):Sem.run TP (zeroValue 97) w= .ok (.agg #[.int .i64 0]) w:=rfl
set_option maxHeartbeats 1000000 in
theorem idle_92 (v2 v3:Value) (w:World):CallsDIn (FR none) 0 TP 92 #[v2,v3] .returning w fun e u' w'=>(∃t,e= .returned t)∧u'= .returning∧∃o,w'=w.alloc o:=by
 refine callsDIn_of_wpSIn Tryz.func92 rfl trivial fun c₀ cs hu=>?_
 apply wpSIn_seq
 apply wpSIn_region
 simp [wpOpsSIn,go_sem,recoverD,hu,Tryz.ntmps92,Exit.thenS,ta0_92,al_92]
 apply wpSIn_seq
 apply wpSIn_region
 simp [wpOpsSIn,go_sem,Exit.thenS]
 refine wpSIn_cond (t:=false) (by simp [Act.eval,Array.replicate]) ?_
 simp only [Bool.false_eq_true,if_false]
 refine wpSIn_of_wpIn rfl (wpIn_skip ?_)
 cases c₀
 simp_all [bodyPostS,results,Tryz.results92]
 exact ⟨_,rfl⟩
set_option maxHeartbeats 1000000 in
theorem caught_92 (κ:Kap) (σ:AH) (w:World) (c:Int) (φa φb:Nat) (x y:AV) (v2 v3:Value) (hr:Rel κ σ w) (h2:VR κ (.ptr φa 0 0 0) v2) (h3:VR κ (.ptr φb 0 0 0) v3) (hne:φa≠φb) (ha:σ φa=some ⟨0,1,[[x]]⟩) (hb:σ φb=some ⟨0,1,[[y]]⟩):
  CallsDIn (FR none) 0 TP 92 #[v2,v3] (.panicking [{v:= .iface 97 (.agg #[.int .i64 c]),recovered:=false}]) w fun e u' w'=>(∃t,e= .returned t)∧settle u'= .returning∧
   ∃κ',Stp κ σ w κ' ((σ.set φa ⟨0,1,[[.val (.slice none 0 0)]]⟩).set φb ⟨0,1,[[.val (.int .i64 c)]]⟩) w':=by
 refine callsDIn_of_wpSIn Tryz.func92 rfl trivial fun c₀ cs hu=>?_
 apply wpSIn_seq
 apply wpSIn_region
 simp [wpOpsSIn,go_sem,recoverD,hu,Tryz.ntmps92,Exit.thenS,ta1_92,al_92]
 obtain ⟨φ5,h50,h51⟩:=hr.newId
 obtain ⟨κ1,hs1,hv5⟩:=Stp.newVar hr h51 97 (xs:=[.val (.int .i64 c)]) (vs:=[.int .i64 c]) (VRs.cons (.val _) (.nil _))
 have n5a:φa≠φ5:=by rintro rfl;rw [ha] at h50;cases h50
 have n5b:φb≠φ5:=by rintro rfl;rw [hb] at h50;cases h50
 generalize htm:(#[v2,v3]++_:Array Value)=tm
 have htt:tm=#[v2,v3,.pointer (some ⟨w.heap.size,0,none⟩),.bool true,.tuple #[.agg #[.int .i64 c],.bool true],.iface 97 (.agg #[.int .i64 c]),.tuple #[.agg #[.int .i64 c],.bool true],.agg #[.int .i64 c],.bool true,undef,undef,undef]:=by rw [←htm];simp [Array.replicate,List.replicate]
 have he:EnvR κ1 ([.ptr φa 0 0 0,.ptr φb 0 0 0,.ptr φ5 0 0 0,.val (.bool true)]++List.replicate 8 .any) tm:=by
  have ht:=htt
  rw [ht]
  exact .ofList (VRs.cons (h2.mono hs1.ext) (VRs.cons (h3.mono hs1.ext) (VRs.cons hv5 (VRs.cons (.val _) (VRs.cons (.any _) (VRs.cons (.any _) (VRs.cons (.any _) (VRs.cons (.any _) (VRs.cons (.any _) (VRs.cons (.any _) (VRs.cons (.any _) (VRs.cons (.any _) (.nil _)))))))))))))
 apply wpSIn_seq
 apply wpSIn_region
 simp only [Array.size,List.length_cons,List.length_nil]
 simp only [List.range,List.range.loop,wpOpsSIn]
 simp [go_sem,Exit.thenS,Region.wanted]
 generalize htm2:tm.setIfInBounds 9 _=tm2
 have he2:EnvR κ1 (([.ptr φa 0 0 0,.ptr φb 0 0 0,.ptr φ5 0 0 0,.val (.bool true)]++List.replicate 8 .any:List AV).set 9 .any) tm2:=by rw [←htm2];exact he.set 9 (.any _)
 refine wpSIn_cond (t:=true) (by simp only [Act.eval,←htm2,htt];rfl) ?_
 rw [if_pos rfl]
 refine wpSIn_of_wpIn rfl ?_
 have hmap:(([.var 0,.var 1,.var 2,.cst (.bool true)]++List.replicate 8 .any:List SV).set 9 .any).map (dv [.ptr φ5 0 0 0,.ptr φb 0 0 0,.ptr φa 0 0 0])=([.ptr φa 0 0 0,.ptr φb 0 0 0,.ptr φ5 0 0 0,.val (.bool true)]++List.replicate 8 .any:List AV).set 9 .any:=rfl
 rw [←hmap] at he2
 have hden:den TP TT (fun e σ'=>e= .ret (.tup [])∧AH.Sub ((σ.set φa ⟨0,1,[[.val (.slice none 0 0)]]⟩).set φb ⟨0,1,[[.val (.int .i64 c)]]⟩) σ') (ordK x92) [.ptr φ5 0 0 0,.ptr φb 0 0 0,.ptr φa 0 0 0] [] (σ.set φ5 ⟨0,1,[[.val (.int .i64 c)]]⟩):=by
  unfold x92 ordK
  simp only [den,di,List.getD_cons_zero,List.getD_cons_succ]
  refine (?_:og (fldA 0 (.ptr φ5 0 0 0)) fun v=>og (lod v (σ.set φ5 ⟨0,1,[[.val (.int .i64 c)]]⟩)) fun v1=>sto 1 (.ptr φa 0 0 0) (.val (.slice none 0 0)) (σ.set φ5 ⟨0,1,[[.val (.int .i64 c)]]⟩) fun σ1=>(lod v σ1=some v1∧True)∧sto 1 (.ptr φb 0 0 0) v1 σ1 fun σ2=>True∧aret (.tup []) σ2 fun e σ'=>e= .ret (.tup [])∧AH.Sub ((σ.set φa ⟨0,1,[[.val (.slice none 0 0)]]⟩).set φb ⟨0,1,[[.val (.int .i64 c)]]⟩) σ')
  have l0:lod (.ptr φ5 0 0 0) (σ.set φ5 ⟨0,1,[[.val (.int .i64 c)]]⟩)=some (.val (.int .i64 c)):=lod_at (AH.set_same ..) rfl rfl
  simp only [RR,l0]
  refine sto_fld (cs:=[x]) (by rw [AH.set_ne' n5a];exact ha) rfl (by decide) rfl rfl ?_
  refine ⟨⟨lod_at (F:=⟨0,1,[[.val (.int .i64 c)]]⟩) (by rw [AH.set_ne' (Ne.symm n5a)];exact AH.set_same ..) rfl rfl,trivial⟩,?_⟩
  refine sto_fld (cs:=[y]) (by rw [AH.set_ne' (Ne.symm hne),AH.set_ne' n5b];exact hb) rfl (by decide) rfl rfl ?_
  refine ⟨trivial,aret_sub (.refl _) ⟨rfl,fun ψ F hF=>?_⟩⟩
  by_cases cb:ψ=φb
  ·subst cb;rw [AH.set_same] at hF ⊢;exact hF
  ·rw [AH.set_ne' cb] at hF ⊢
   by_cases ca:ψ=φa
   ·subst ca;rw [AH.set_same] at hF ⊢;exact hF
   ·rw [AH.set_ne' ca] at hF ⊢
    rw [AH.set_ne' (by rintro rfl;rw [h50] at hF;cases hF)];exact hF
 refine cw_ok TT_ok (C:=[0,1,2,3]) (ancs:=[0,1,0,7]) (T:=TT) (K:=fun _ σ'=>∃σ'',Imp (.tup []) σ' (.tup []) σ''∧AH.Sub ((σ.set φa ⟨0,1,[[.val (.slice none 0 0)]]⟩).set φb ⟨0,1,[[.val (.int .i64 c)]]⟩) σ'') (Kp:=fun _ _=>False) (by kernel_rfl) hs1.rel he2 rfl ?_ (fun _ _ _ _ _ _ _ h=>h.elim) (okCw_ok (R:=fun e σ'=>e= .ret (.tup [])∧AH.Sub ((σ.set φa ⟨0,1,[[.val (.slice none 0 0)]]⟩).set φb ⟨0,1,[[.val (.int .i64 c)]]⟩) σ') (ks:=[]) (K:=fun _ _ x=>isEnd x) ?_ ?_ [0,1,2,3] [] _ _ ⟨[.ptr φ5 0 0 0,.ptr φb 0 0 0,.ptr φa 0 0 0],(([.var 0,.var 1,.var 2,.cst (.bool true)]++List.replicate 8 .any:List SV).set 9 .any),ordK x92,by kernel_rfl,wf_c.set (s:= .any) 9 True.intro,rfl,hden⟩)
 ·rintro κ' t' σ' a' w' ⟨σ'',hi,hsub⟩ hs he' hd'
  obtain ⟨κ2,k1,_⟩:=hi κ' w' _ hs.rel (.tup (vs:=[]) rfl fun i hi=>by cases hi)
  exact ⟨hd',_,rfl,.tuple #[],by simp [results,Tryz.results92],⟨_,rfl⟩,rfl,κ2,(hs1.trans (hs.trans k1)).trans (Stp.sub k1.rel hsub)⟩
 ·rintro a σ' ⟨ρ',t',x',g1,g2,rfl,g3⟩
  replace g1:isEnd x'=true:=g1
  unfold isEnd at g1
  split at g1
  case h_2=>cases g1
  obtain ⟨v',σ'',hi,hv,hsub⟩:=g3
  obtain rfl:v'= .tup []:=by injection hv
  exact ⟨σ'',hi,hsub⟩
 ·rintro v σ' ⟨v',σ'',_,h,_⟩
  cases h
theorem catch_92:Catch TP 92 97:=⟨⟨_,Tryz.func92,rfl,rfl⟩,idle_92,caught_92⟩
end Go.Proofs.YtbppopcpgcgkkaaGreatDoor.E
/- Cores that are made to code: the program's kids of cores, and all of it. -/
namespace Go.Proofs.YtbppopcpgcgkkaaGreatDoor.E
open Go Go.RowKit
set_option maxRecDepth 100000
def kidsTo (cs:List Cor) (i x:Nat):List Nat:=(List.range i).filter fun j=>decide ((corAt cs j).parent=(x:Int))
theorem kidsTo_succ (cs:List Cor) (i x:Nat):kidsTo cs (i+1) x=kidsTo cs i x++(if (corAt cs i).parent=(x:Int) then [i] else []):=by
 unfold kidsTo
 rw [List.range_succ,List.filter_append]
 congr 1
 by_cases c:(corAt cs i).parent=(x:Int)<;>simp [c]
theorem kidsTo_le (cs:List Cor) (i x:Nat):(kidsTo cs i x).length≤i:=by
 unfold kidsTo
 exact Nat.le_trans (List.length_filter_le _ _) (by simp)
theorem map_modify {X:Type} (n p:Nat) (f g:Nat→X) (h:X→X) (hp:∀q,q<n→g q=if p=q then h (f q) else f q):((List.range n).map f).modify p h=(List.range n).map g:=by
 apply List.ext_getElem (by simp)
 intro k h1 h2
 have hk:k<n:=by simpa using h2
 simp only [List.getElem_modify,List.getElem_map,List.getElem_range,hp k hk]
variable [L:Lam]
variable {σ τ τ':AH} {R:AEnd→AH→Prop}
theorem abox_new {x:AV} {xs:List AV} {k:AV→AH→Prop} (hx:acells x=some xs) (h:∀φ,σ φ=none→k (.ptr φ 0 0 0) (σ.set φ ⟨0,xs.length,[xs]⟩)):abox x σ k:=by
 unfold abox;rw [hx];exact h
abbrev rowK (_:List Nat) (a:AV):List AV:=[a]
abbrev innK (l:List Nat):List (List AV):=l.map fun k:Nat=>[iv (k:Int)]
theorem c_impl_kids {cs:List Cor} (hl:cs.length≤1000000) (hp:∀i,i<cs.length→ -1≤(corAt cs i).parent∧(corAt cs i).parent<i) (h:R (.ret (roKK cs)) σ):acall TP fn_impl_kids [roC cs] σ R:=by
 refine s_impl_kids_ok ?_
 unfold s_impl_kids
 simp only [len_ro,RR]
 refine mk_LLi (by omega) (by omega) (by omega) fun φ hφ=>?_
 simp only [Int.toNat_natCast]
 have h0:N2 rowK 1 innK 1 σ (σ.set φ ⟨0,1,List.replicate cs.length [nilS]⟩) (.own φ 0 0 cs.length) (List.replicate cs.length ([],nilS)):=by
  refine ⟨.inr ⟨φ,0,by simp,by rw [AH.set_same];simp⟩,fun p hp=>?_,?_,fun ψ hψ=>?_,.set (.refl σ) _ hφ⟩
  ·obtain rfl:=List.eq_of_mem_replicate hp;exact nilB
  ·have:l2F (List.replicate cs.length (([]:List Nat),nilS))=[]:=by
    unfold l2F
    rw [List.flatMap_eq_nil_iff]
    intro p hp;obtain rfl:=List.eq_of_mem_replicate hp;rfl
   rw [this];simp [famL]
  ·have:l2F (List.replicate cs.length (([]:List Nat),nilS))=[]:=by
    unfold l2F
    rw [List.flatMap_eq_nil_iff]
    intro p hp;obtain rfl:=List.eq_of_mem_replicate hp;rfl
   rw [this] at hψ
   simp [famL] at hψ
   subst hψ;exact hφ
 refine lp_rel cs.length (fun i x τ=>∃bs,x=(.own φ 0 0 cs.length,roC cs,iv (cs.length:Int),iv (i:Int),())∧N2 rowK 1 innK 1 σ τ (.own φ 0 0 cs.length) bs∧bs.map (·.1)=(List.range cs.length).map (kidsTo cs i)) ⟨_,rfl,h0,?_⟩ ?_
 ·apply List.ext_getElem (by simp)
  intro k h1 h2
  simp [kidsTo]
 rintro i _ τ hi ⟨bs,rfl,hN,hbs⟩ R' hR'
 have hbl:bs.length=cs.length:=by have:=congrArg List.length hbs;simpa using this
 by_cases hlt:i<cs.length
 ·have g:(i:Int)<(cs.length:Int):=by omega
  simp only [g,idx_ro hlt len_encCor,corAt_eq hlt,lodA_all (len_encCor _),RR]
  refine new_encCor rfl ?_
  have l1:∀τ,lod (.rop (encCor (corAt cs i)) 1) τ=some (iv (corAt cs i).parent):=fun _=>rfl
  simp only [l1,jn,RR]
  obtain ⟨p1,p2⟩:=hp i hlt
  by_cases c0:0≤(corAt cs i).parent
  ·simp only [c0,RR]
   obtain ⟨p,hpp⟩:∃p:Nat,(corAt cs i).parent=(p:Int):=⟨(corAt cs i).parent.toNat,by omega⟩
   rw [hpp]
   have hpl:p<bs.length:=by omega
   obtain ⟨A,q,C,rfl,hA⟩:=split_at' hpl
   obtain ⟨φ',st',e',hF⟩:=hN.own (by simp)
   obtain ⟨rfl,rfl,_⟩:φ=φ'∧0=st'∧True:=by injection e' with a b;exact ⟨a,b,trivial⟩
   rw [hbl] at e'
   have ix:∀τ1:AH,τ1 φ=some ⟨0,1,(A++q::C).map fun p=>rowK p.1 p.2⟩→idx 1 (.own φ 0 0 cs.length) (iv (p:Int)) τ1=some (.ptr φ 0 p 0):=fun τ1 hF1=>by
    have:=idx_own (st:=0) (off:=0) hF1 (show p<cs.length by omega)
    rwa [Nat.zero_add] at this
   have el:lod (.ptr φ 0 p 0) τ=some q.2:=lod_at hF rfl (by subst hA;simp [List.getD])
   simp only [ix τ hF,el,RR]
   rw [lit1 (sz:=1) (row:=[iv (i:Int)]) rfl rfl (by omega)]
   simp only [RR]
   have hq1:q.1=kidsTo cs i p:=by
    have:=congrArg (fun l=>l[p]?) hbs
    subst hA
    simp at this
    have h2:A.length<cs.length:=by omega
    simpa [h2] using this
   have hb:Buf τ 1 q.2 (innK q.1):=hN.ins q (by simp)
   have hql:q.1.length≤i:=by rw [hq1];exact kidsTo_le cs i p
   have hφφ:φ∉famL q.2:=fun c=>(nodup_app.1 hN.nd).2.2 φ (by simp [famL]) (l2F_mem (by simp) c)
   refine buf_app hb (xs:=[[iv (i:Int)]]) rfl (by intro c hc;obtain rfl:=List.mem_singleton.1 hc;rfl) (by intro c hc y hy;obtain rfl:=List.mem_singleton.1 hc;obtain rfl:=List.mem_singleton.1 hy;rfl) (by simp;omega) fun w' τ1 hB hK hfam=>?_
   have hF1:τ1 φ=some ⟨0,1,(A++q::C).map fun p=>rowK p.1 p.2⟩:=by rw [hK φ hφφ (by rw [hF];simp)];exact hF
   refine ⟨⟨trivial,trivial⟩,?_⟩
   simp only [ix τ1 hF1,RR]
   have hB':Buf τ1 1 w' (innK (q.1++[i])):=by simpa [innK] using hB
   have hle:(A++q::C).length=cs.length:=hbl
   rw [←hle,←hA]
   refine (hle▸hN:N2 rowK 1 innK 1 σ τ (.own φ 0 0 (A++q::C).length) (A++q::C)).repl (x':=q.1++[i]) rfl hB' (by omega) rfl hK hfam fun τ2 hN2 _=>?_
   simp only [ibin_up hlt (by omega),RR,true_and]
   rw [hle] at hN2 ⊢
   refine hR' _ _ _ hlt (.refl _) ⟨_,rfl,hN2,?_⟩
   have e1:=modify_at (A.map (·.1)) (C.map (·.1)) q.1 (fun l:List Nat=>l++[i])
   rw [List.map_append,List.map_cons,←e1,List.length_map,←List.map_cons (f:=(·.1)) (a:=q),←List.map_append,hbs]
   refine map_modify _ _ _ _ _ fun x hx=>?_
   rw [kidsTo_succ,hpp,hA]
   by_cases c:p=x
   ·subst c;simp
   ·have:¬(p:Int)=(x:Int):=by omega
    simp [c,this]
  ·simp only [c0,ibin_up hlt (by omega),RR]
   refine hR' _ _ _ hlt (.refl _) ⟨bs,rfl,hN,?_⟩
   rw [hbs]
   refine List.map_congr_left fun x _=>?_
   rw [kidsTo_succ,if_neg (by omega),List.append_nil]
 ·have g:¬(i:Int)<(cs.length:Int):=by omega
  obtain rfl:i=cs.length:=by omega
  simp only [g,RR]
  have hz:=hN.fz (fun _ _=>rfl) (fun x c hc=>by obtain ⟨o,_,rfl⟩:=List.mem_map.1 hc;rfl) (fun _ _ _=>trivial) (fun x a b j hf=>by
   match j with
   |0=>exact hf
   |j+1=>exact .same _)
  refine aret_freeze hN.sub hz ?_
  have e:(bs.map fun p=>rowK p.1 (.ro (innK p.1)))=(allK cs).map encK:=by
   have e2:(bs.map fun p=>rowK p.1 (.ro (innK p.1)))=(bs.map (·.1)).map encK:=by simp [encK]
   rw [e2,hbs];rfl
  rw [e];exact h
def toBk (B:St):List Blk:=B.map fun p=>⟨p.1,p.2⟩
def fin0 (cs:List Cor):St:=mkC cs cs.length 0 0 true [(0,[])]
set_option maxHeartbeats 1000000 in
theorem c_impl_compiled {cs:List Cor} (hw:WfC cs) (hbd:∀i,(corAt cs i).data.length≤1048576) (h1:fits (fin0 cs)→∀v B τ,cont B=toBk (fin0 cs)→NewB σ τ v B→R (.ret (.tup [v,iv 0])) τ)
  (h2:¬fits (fin0 cs)→∀τ,AH.Sub σ τ→R (.ret (.tup [nilS,iv 2])) τ):acall TP fn_impl_compiled [roC cs] σ R:=by
 refine s_impl_compiled_ok (tF:=ty_RiE) catch_56 fun φa φb hφa hφb=>?_
 unfold s_impl_compiled
 have hs1:AH.Sub σ ((σ.set φa ⟨0,1,[[.val (.slice none 0 0)]]⟩).set φb ⟨0,1,[[.val (.int .i64 0)]]⟩):=(AH.Sub.set (.refl σ) _ hφa).trans (.set (.refl _) _ hφb)
 have hne:φa≠φb:=by rintro rfl;rw [AH.set_same] at hφb;cases hφb
 have hFa:((σ.set φa ⟨0,1,[[.val (.slice none 0 0)]]⟩).set φb ⟨0,1,[[.val (.int .i64 0)]]⟩) φa=some ⟨0,1,[[.val (.slice none 0 0)]]⟩:=by rw [AH.set_ne' hne,AH.set_same]
 have hFb:((σ.set φa ⟨0,1,[[.val (.slice none 0 0)]]⟩).set φb ⟨0,1,[[.val (.int .i64 0)]]⟩) φb=some ⟨0,1,[[.val (.int .i64 0)]]⟩:=AH.set_same ..
 generalize (σ.set φa ⟨0,1,[[.val (.slice none 0 0)]]⟩).set φb ⟨0,1,[[.val (.int .i64 0)]]⟩=σ1 at*
 have hl:=hw.len
 refine c_impl_kids (by omega) (fun i hi=>?_) ?_
 ·rcases Nat.eq_zero_or_pos i with c|c
  ·subst c;rw [hw.top];omega
  ·have:=hw.par i c hi;omega
 have eb:bld [(.val (.slice none 0 0)),(.val (.slice none 0 0)),(.val (.slice none 0 0))] [(0,1),(1,1),(2,1)] [(0,roC cs),(1,roKK cs)]=some (.agg [roC cs,roKK cs,nilS]):=rfl
 simp only [eb,RR]
 refine abox_new rfl fun φm hφm=>?_
 have hS0:CSt (preI cs) σ1 (σ1.set φm ⟨0,3,[[roC cs,roKK cs,nilS]]⟩) φm []:=⟨⟨nilS,[],AH.set_same ..,N2.nil (.set (.refl _) _ hφm),rfl,by simp [famL,l2F]⟩,hφm⟩
 have hpan:¬fits (fin0 cs)→PanTo (preI cs) σ1 φm (RD φa φb ty_RiE R):=fun c τ' B' S'=>⟨2,_,_,rfl,S'.sub _ _ hFa,S'.sub _ _ hFb,h2 c _ fun ψ F hF=>by
  rw [AH.set_ne' (by rintro rfl;rw [AH.set_none] at hφb;rw [hφb.2] at hF;cases hF),AH.set_ne' (by rintro rfl;rw [hφa] at hF;cases hF)]
  exact S'.sub _ _ (hs1 _ _ hF)⟩
 refine c_impl_block rfl hS0 (by simp) (fun _ τ1 S1=>?_) (fun c=>absurd (by simp) c)
 simp only [RR]
 refine core_all hw cs.length 0 0 true [(0,[])] τ1 _ (by omega) (by omega) (by simp) S1 ⟨by simp,fun i hi=>by simp at hi;subst hi;simp [lenS']⟩ (fun fD τ2 S2=>?_) fun c=>pan_onr (hpan c)
 change fits (fin0 cs) at fD
 change CSt (preI cs) σ1 τ2 φm (fin0 cs) at S2
 simp only [RR]
 refine ⟨_,σ1,S2.sub,S2.fz rfl,?_⟩
 have e2:∀τ,lod (.rop (preI cs++[roBk (toBk (fin0 cs))]) 2) τ=some (roBk (toBk (fin0 cs))):=fun _=>rfl
 simp only [e2,RR]
 have hAll:AllO (fun o=>o.data.length≤1048576) (fin0 cs):=mkC_all ⟨fun o _ h=>by rw [h];simp,fun k i=>by simp [ocN],fun i=>hbd i,fun o a h=>h⟩ _ _ _ _ _ (fun p hp q hq=>by simp at hp;subst hp;cases hq)
 refine c_impl_copiedCode (by have:=fD.1;simp only [toBk,List.length_map];omega) (fun b hb=>?_) fun v B τ3 hcB hN=>?_
 ·obtain ⟨p,hp,rfl⟩:=List.mem_map.1 hb
  refine ⟨?_,fun o ho=>hAll p hp o ho⟩
  obtain ⟨k,hk,rfl⟩:=List.mem_iff_getElem.1 hp
  have:=fD.2 k hk
  unfold lenS' at this
  rw [show (fin0 cs).getD k (0,[])=(fin0 cs)[k] by simp [List.getD,hk]] at this
  show (fin0 cs)[k].2.length≤_
  omega
 simp only [RR]
 have hφaF:φa∉blksF v B:=fun c=>by have:=hN.fr φa c;rw [hFa] at this;cases this
 have hφbF:φb∉blksF v B:=fun c=>by have:=hN.fr φb c;rw [hFb] at this;cases this
 refine sto_fld (cs:=[.val (.slice none 0 0)]) (hN.sub _ _ hFa) rfl (by decide) (acells_one hN.one) hN.one ?_
 refine sto_fld (cs:=[.val (.int .i64 0)]) (by rw [AH.set_ne' (Ne.symm hne)];exact hN.sub _ _ hFb) rfl (by decide) rfl rfl ?_
 have la:lod (.ptr φa 0 0 0) ((τ3.set φa ⟨0,1,[[v]]⟩).set φb ⟨0,1,[[.val (.int .i64 0)]]⟩)=some v:=lod_at (i:=0) (by rw [AH.set_ne' hne];exact AH.set_same ..) rfl rfl
 have lb:lod (.ptr φb 0 0 0) ((τ3.set φa ⟨0,1,[[v]]⟩).set φb ⟨0,1,[[.val (.int .i64 0)]]⟩)=some (.val (.int .i64 0)):=lod_at (i:=0) (AH.set_same ..) rfl rfl
 show og (lod (.ptr φa 0 0 0) ((τ3.set φa ⟨0,1,[[v]]⟩).set φb ⟨0,1,[[.val (.int .i64 0)]]⟩)) _
 rw [la]
 show og (lod (.ptr φb 0 0 0) ((τ3.set φa ⟨0,1,[[v]]⟩).set φb ⟨0,1,[[.val (.int .i64 0)]]⟩)) _
 rw [lb]
 refine ret_here (h1 fD v B _ hcB ⟨hN.own.keep fun ψ hψ=>?_,hN.nd,fun ψ hψ=>hs1.none (hN.fr ψ hψ),fun ψ F hF=>?_⟩)
 ·rw [AH.set_ne' (by rintro rfl;exact hφbF hψ),AH.set_ne' (by rintro rfl;exact hφaF hψ)]
 ·rw [AH.set_ne' (by rintro rfl;rw [AH.set_none] at hφb;rw [hφb.2] at hF;cases hF),AH.set_ne' (by rintro rfl;rw [hφa] at hF;cases hF)]
  exact hN.sub _ _ (hs1 _ _ hF)
end Go.Proofs.YtbppopcpgcgkkaaGreatDoor.E
/- Cores that are made to code: the reference's way. -/
namespace Go.Proofs.YtbppopcpgcgkkaaGreatDoor.E
open Go Go.RowKit
set_option maxRecDepth 100000
variable [L:Lam]
variable {σ τ τ':AH} {R:AEnd→AH→Prop}
theorem push_row {sz:Nat} {a x:AV} {es:List (List AV)} {z row:List AV} {k:AV→AH→Prop} (h:Buf τ sz a es) (he:afillS sz [z] [(0,x)]=some [row]) (hs:sz≤1000) (hr:row.length=sz) (ho:∀y,y∈row→y.one=true) (hn:es.length+1≤4294967296)
  (hk:∀a' τ',Buf τ' sz a' (es++[row])→Kp (famL a) τ τ'→(∀ψ,ψ∈famL a'→ψ∈famL a∨τ ψ=none)→k a' τ'):bsl sz z 1 [(0,x)] τ fun v τ=>E.app sz a v τ k:=by
 refine bsl1 he (by omega) fun ψ hψ=>?_
 have hs1:AH.Sub τ (τ.set ψ ⟨0,sz,[row]⟩):= .set (.refl τ) _ hψ
 refine buf_app ((Kp.of_sub (F:=[]) hs1).buf h fun _ _ c=>by cases c) ael1 (by intro c hc;obtain rfl:=List.mem_singleton.1 hc;exact hr) (by intro c hc;obtain rfl:=List.mem_singleton.1 hc;exact ho) (by simpa using hn) fun a' τ' hB hK hfam=>hk a' τ' hB (fun χ hχ hn=>?_) fun χ hχ=>?_
 ·rw [hK χ hχ (by rw [AH.set_ne' (by rintro rfl;exact hn hψ)];exact hn),AH.set_ne' (by rintro rfl;exact hn hψ)]
 ·rcases hfam χ hχ with c|c
  ·exact .inl c
  ·exact .inr (hs1.none c)
theorem c_spec_l4Kids {cs:List Cor} {x:Nat} (hl:cs.length≤1000000) (h:R (.ret (roK (kidsC cs x))) σ):acall TP fn_spec_l4Kids [roC cs,iv (x:Int)] σ R:=by
 refine s_spec_l4Kids_ok ?_
 unfold s_spec_l4Kids
 refine bsl0 ?_
 refine lp_rel cs.length (fun i y τ=>∃u,y=(roC cs,iv (x:Int),u,iv (i:Int),())∧Buf τ 1 u (innK (kidsTo cs i x))∧AH.Sub σ τ∧∀ψ,ψ∈famL u→σ ψ=none) ⟨.emp,rfl,.inl ⟨.inr rfl,rfl⟩,.refl σ,fun ψ c=>by cases c⟩ ?_
 rintro i _ τ hi ⟨u,rfl,hB,hs,hf⟩ R' hR'
 simp only [len_ro,RR]
 by_cases hlt:i<cs.length
 ·have g:(i:Int)<(cs.length:Int):=by omega
  have l1:∀τ,lod (.rop (encCor (corAt cs i)) 1) τ=some (iv (corAt cs i).parent):=fun _=>rfl
  simp only [g,idx_ro hlt len_encCor,corAt_eq hlt,l1,jn,RR]
  by_cases c:(corAt cs i).parent=(x:Int)
  ·simp only [c,RR]
   refine push_row (row:=[iv (i:Int)]) hB rfl (by omega) rfl (fun y hy=>by obtain rfl:=List.mem_singleton.1 hy;rfl) (by have:=kidsTo_le cs i x;simp;omega) fun u' τ' hB' hK hfam=>?_
   simp only [ibin_up hlt (by omega),RR]
   refine hR' _ _ _ hlt (.refl _) ⟨u',rfl,?_,hK.sub hs hf,fun ψ hψ=>(hfam ψ hψ).elim (hf ψ) fun d=>hs.none d⟩
   rw [kidsTo_succ,if_pos c]
   simpa [innK] using hB'
  ·simp only [c,ibin_up hlt (by omega),RR]
   refine hR' _ _ _ hlt (.refl _) ⟨u,rfl,?_,hs,hf⟩
   rw [kidsTo_succ,if_neg c,List.append_nil];exact hB
 ·have g:¬(i:Int)<(cs.length:Int):=by omega
  obtain rfl:i=cs.length:=by omega
  simp only [g,RR]
  exact aret_freeze hs (fz_row hB hf rfl (by intro c hc;obtain ⟨o,_,rfl⟩:=List.mem_map.1 hc;rfl) fun _ _ _ _=> .same _) h
theorem bld_dat {a:AV} {es:List (List AV)} {k:Int} {ds:List Dat} (h:Buf τ 4 a es):bld [(.val (.int .i64 0)),(.val (.int .i64 0)),(.val (.int .i64 0)),(.val (.int .i64 0)),(.val (.int .i64 0)),(.val (.string ⟨#[]⟩)),(.val (.slice none 0 0))] [(0,1),(1,1),(2,1),(3,1),(4,1),(5,1),(6,1)] [(0,iv k),(6,a)]=some (.agg (encOpA (ocD k ds) a)):=by
 rcases h with ⟨rfl|rfl,_⟩|⟨φ,st,rfl,_⟩<;>rfl
theorem visK_at {cs:List Cor} {f j:Nat} {l:List Nat} (h:j<l.length):visK cs f l=visK cs f (l.take j)+((vis cs f l[j]).length+visK cs f (l.drop (j+1))):=by
 have h1:=visK_app cs f (l.take j) (l.drop j)
 rw [List.take_append_drop] at h1
 rw [h1,List.drop_eq_getElem_cons h]
 simp only [visK,List.map_cons,List.sum_cons]
section
variable {φm:Nat} {B:St} {cs:List Cor}
def MakeC (cs:List Cor) (f:Nat) (σ:AH) (φm:Nat):Prop:=∀(x i:Nat) (e:Bool) (B:St) (τ:AH) (R:AEnd→AH→Prop),x<cs.length→cs.length≤f+x→i<B.length→CSt [roC cs] σ τ φm B→totS B+4*(vis cs f x).length≤1000→
 (∀τ',CSt [roC cs] σ τ' φm (mkC cs f x i e B)→R (.ret (.tup [])) τ')→acall TP fn_spec_l9Make [.ptr φm 0 0 0,iv (x:Int),iv (i:Int),bv e] τ R
theorem lt_len {B:St} {N:Nat} (h:totS B≤N) (i:Nat):lenS' B i≤N:=Nat.le_trans (lenS_tot B i) h
set_option maxHeartbeats 400000 in
theorem c_spec_l9If {f:Nat} (hw:WfC cs) (hC:MakeC cs f σ φm) {k1 k2 k3 i:Nat} {e:Bool} (hx:∀k,k∈[k1,k2,k3]→k<cs.length∧cs.length≤f+k) (h:CSt [roC cs] σ τ φm B) (hi:i<B.length) (ht:totS B+4*(1+((vis cs f k1).length+((vis cs f k2).length+(vis cs f k3).length)))≤1000) {B1 B2 B3 B4 B5 D:St}
  (d1:B1=mkC cs f k1 i false B) (d2:B2=mkC cs f k2 i e (putS B1 i (oc0 6))) (d3:B3=if e then B2 else putS B2 i (oc0 5)) (d4:B4=setS B3 i (lenS' B1 i) (lenS' B3 i:Int)) (d5:B5=mkC cs f k3 i e B4) (hD:D=if e then B5 else setS B5 i (lenS' B2 i) (lenS' B5 i:Int))
  (h1:∀τ',CSt [roC cs] σ τ' φm D→R (.ret (.tup [])) τ'):acall TP fn_spec_l9If [.ptr φm 0 0 0,roK [k1,k2,k3],iv (i:Int),bv e] τ R:=by
 have l1:leS B B1:=by rw [d1];exact mkC_le ..
 have l2:leS (putS B1 i (oc0 6)) B2:=by rw [d2];exact mkC_le ..
 have l3:leS B2 B3:=by rw [d3];cases e<;>first|exact leS_put _ _ _|exact leS.refl _
 have l4:leS B3 B4:=by rw [d4];exact leS_set ..
 have l5:leS B4 B5:=by rw [d5];exact mkC_le ..
 have i1:i<B1.length:=Nat.lt_of_lt_of_le hi l1.1
 have i1':i<(putS B1 i (oc0 6)).length:=by rw [len_put];exact i1
 have i2:i<B2.length:=Nat.lt_of_lt_of_le i1' l2.1
 have i3:i<B3.length:=Nat.lt_of_lt_of_le i2 l3.1
 have i4:i<B4.length:=Nat.lt_of_lt_of_le i3 l4.1
 have i5:i<B5.length:=Nat.lt_of_lt_of_le i4 l5.1
 have t1:=mkC_tot hw f k1 i false B (hx k1 (by simp)).1 (hx k1 (by simp)).2
 rw [←d1] at t1
 have t2:=tot_put B1 i (oc0 6)
 have t3:=mkC_tot hw f k2 i e (putS B1 i (oc0 6)) (hx k2 (by simp)).1 (hx k2 (by simp)).2
 rw [←d2] at t3
 have t4:totS B3≤totS B2+1:=by rw [d3];cases e<;>first|exact tot_put _ _ _|exact Nat.le_succ _
 have t5:totS B4≤totS B3:=by rw [d4];exact tot_set ..
 have n1:lenS' B1 i<lenS' B3 i:=by
  have:=l2.2 i i1'
  rw [lenS_put,if_pos ⟨rfl,i1⟩] at this
  have:=l3.2 i i2
  omega
 have x0:∀τ,idx 1 (roK [k1,k2,k3]) (.val (.int .i64 0)) τ=some (.rop [iv (k1:Int)] 0):=fun τ=>idx_K (j:=0) (by simp)
 have x1:∀τ,idx 1 (roK [k1,k2,k3]) (.val (.int .i64 1)) τ=some (.rop [iv (k2:Int)] 0):=fun τ=>idx_K (j:=1) (by simp)
 have x2:∀τ,idx 1 (roK [k1,k2,k3]) (.val (.int .i64 2)) τ=some (.rop [iv (k3:Int)] 0):=fun τ=>idx_K (j:=2) (by simp)
 have eb6:bld [(.val (.int .i64 0)),(.val (.int .i64 0)),(.val (.int .i64 0)),(.val (.int .i64 0)),(.val (.int .i64 0)),(.val (.string ⟨#[]⟩)),(.val (.slice none 0 0))] [(0,1),(1,1),(2,1),(3,1),(4,1),(5,1),(6,1)] [(0,(.val (.int .i64 6)))]=some (.agg [iv 6,iv 0,iv 0,iv 0,iv 0,str ⟨#[]⟩,nilS]):=rfl
 have eb5:bld [(.val (.int .i64 0)),(.val (.int .i64 0)),(.val (.int .i64 0)),(.val (.int .i64 0)),(.val (.int .i64 0)),(.val (.string ⟨#[]⟩)),(.val (.slice none 0 0))] [(0,1),(1,1),(2,1),(3,1),(4,1),(5,1),(6,1)] [(0,(.val (.int .i64 5)))]=some (.agg [iv 5,iv 0,iv 0,iv 0,iv 0,str ⟨#[]⟩,nilS]):=rfl
 refine s_spec_l9If_ok ?_
 unfold s_spec_l9If
 simp only [x0,lod_1,RR]
 refine hC k1 i false B τ _ (hx k1 (by simp)).1 (hx k1 (by simp)).2 hi h (by omega) fun τ1 S1=>?_
 rw [←d1] at S1
 simp only [eb6,RR]
 refine nil_op (oc0 6) rfl rfl ?_
 refine c_spec_l9Put rfl S1 i1 (lt_len (N:=1000000) (by omega) i) fun τ2 S2=>?_
 simp only [x1,lod_1,RR]
 refine hC k2 i e _ τ2 _ (hx k2 (by simp)).1 (hx k2 (by simp)).2 i1' S2 (by omega) fun τ3 S3=>?_
 rw [←d2] at S3
 simp only [jn,RR]
 have fin:∀(τ:AH) (u:Int),CSt [roC cs] σ τ φm B3→(e=false→u=(lenS' B2 i:Int))→(e=true→u= -1)→
   og (anil (.ptr φm 0 0 0)) fun v34=>og (fldA 1 v34) fun v35=>og (lod v35 τ) fun v36=>og (idx 2 v36 (iv (i:Int)) τ) fun v38=>og (fldA 1 v38) fun v39=>og (lod v39 τ) fun v40=>
   og (anil (.ptr φm 0 0 0)) fun v43=>og (fldA 1 v43) fun v44=>og (lod v44 τ) fun v45=>og (idx 2 v45 (iv (i:Int)) τ) fun v47=>og (fldA 1 v47) fun v48=>og (lod v48 τ) fun v49=>og (lenS v49) fun v50=>
   og (idx 7 v40 (iv (lenS' B1 i:Int)) τ) fun v51=>og (fldA 1 v51) fun v52=>sto 1 v52 v50 τ fun σ=>
   (True)∧
   og (idx 1 (roK [k1,k2,k3]) (.val (.int .i64 2)) σ) fun v55=>og (lod v55 σ) fun v56=>
   acall TP fn_spec_l9Make [.ptr φm 0 0 0,v56,iv (i:Int),bv e] σ (onr (fun _ σ=>
   og (ibin .geq (iv u) (.val (.int .i64 0))) fun v61=>
   apick v61 (
    og (anil (.ptr φm 0 0 0)) fun v63=>og (fldA 1 v63) fun v64=>og (lod v64 σ) fun v65=>og (idx 2 v65 (iv (i:Int)) σ) fun v67=>og (fldA 1 v67) fun v68=>og (lod v68 σ) fun v69=>
    og (anil (.ptr φm 0 0 0)) fun v72=>og (fldA 1 v72) fun v73=>og (lod v73 σ) fun v74=>og (idx 2 v74 (iv (i:Int)) σ) fun v76=>og (fldA 1 v76) fun v77=>og (lod v77 σ) fun v78=>og (lenS v78) fun v79=>
    og (idx 7 v69 (iv u) σ) fun v80=>og (fldA 1 v80) fun v81=>sto 1 v81 v79 σ fun σ=>
    (True)∧
    aret (.tup []) σ R) (
    aret (.tup []) σ R)) (fun v σ=>apan v σ R)):=by
  intro τ u S hu hu2
  obtain ⟨v,φ,st,w,e1,e2,e3,e4,_,e6⟩:=S.open i3
  replace e1:lod (.ptr φm 0 0 1) τ=some v:=e1
  obtain ⟨φw,stw,g1,g2⟩:=e6 (lenS' B1 i) n1
  simp only [e1,e2,e3,e4,g1,RR]
  refine g2 _ _ fun τ4 S4=>?_
  rw [←d4] at S4
  simp only [x2,lod_1,RR,true_and]
  refine hC k3 i e B4 τ4 _ (hx k3 (by simp)).1 (hx k3 (by simp)).2 i4 S4 (by omega) fun τ5 S5=>?_
  rw [←d5] at S5
  cases e with
  |true=>
   rw [if_pos rfl] at hD
   obtain rfl:=hu2 rfl
   have g:¬(0:Int)≤ -1:=by omega
   simp only [g,RR]
   rw [hD] at h1
   exact ret_here (h1 τ5 S5)
  |false=>
   rw [if_neg (by decide)] at hD d3
   obtain rfl:=hu rfl
   have n2:lenS' B2 i<lenS' B5 i:=by
    have a1:=l4.2 i i3
    have a2:=l5.2 i i4
    have a3:lenS' B3 i=lenS' B2 i+1:=by rw [d3,lenS_put,if_pos ⟨rfl,i2⟩]
    omega
   have g:(0:Int)≤(lenS' B2 i:Int):=by omega
   obtain ⟨v',φ',st',w',q1,q2,q3,q4,_,q6⟩:=S5.open i5
   replace q1:lod (.ptr φm 0 0 1) τ5=some v':=q1
   obtain ⟨φw',stw',g1',g2'⟩:=q6 (lenS' B2 i) n2
   simp only [g,q1,q2,q3,q4,g1',RR]
   refine g2' _ _ fun τ6 S6=>?_
   rw [←hD] at S6
   exact ret_here (h1 τ6 S6)
 cases e with
 |true=>
  rw [if_pos rfl] at d3
  subst d3
  have hf:=fin τ3 (-1) S3 (fun c=>by cases c) fun _=>rfl
  simp only [RR] at hf ⊢
  exact hf
 |false=>
  rw [if_neg (by decide)] at d3
  simp only [eb5,RR]
  refine nil_op (oc0 5) rfl rfl ?_
  refine c_spec_l9Put rfl S3 i2 (lt_len (N:=1000000) (by omega) i) fun τ4 S4=>?_
  rw [←d3] at S4
  have hf:=fin τ4 _ S4 (fun _=>rfl) fun c=>by cases c
  simp only [RR] at hf ⊢
  exact hf
set_option maxHeartbeats 1000000 in
theorem make_all (hw:WfC cs) (hbd:∀i,(corAt cs i).data.length≤1048576):∀f,MakeC cs f σ φm:=by
 intro f
 induction f with
 |zero=>intro x i e B τ R hx hf;omega
 |succ f ih=>
  intro x i e B τ R hx hfx hi h ht h1
  have hkd:∀k,k∈kidsC cs x→k<cs.length∧cs.length≤f+k:=fun k hk=>by have:=hw.kid hk;omega
  have hkk:=hw.kids x hx
  have hkind:=hw.kind x hx
  have htl:∀k,k∈kidsC cs x→∀i e B,totS (mkC cs f k i e B)+1≤totS B+4*(vis cs f k).length:=fun k hk i e B=>mkC_tot hw f k i e B (hkd k hk).1 (hkd k hk).2
  rw [vis_len] at ht
  have hbx:=hbd x
  have ex:∀τ,idx 6 (roC cs) (iv (x:Int)) τ=some (.rop (encCor (corAt cs x)) 0):=fun τ=>by rw [←corAt_eq hx];exact idx_ro hx len_encCor
  have p0:∀{τ} {B},CSt [roC cs] σ τ φm B→lod (.ptr φm 0 0 0) τ=some (roC cs):=fun h=>h.fix rfl
  refine s_spec_l9Make_ok ?_
  unfold s_spec_l9Make
  simp only [p0 h,ex,RR]
  refine c_spec_l4Kids (by have:=hw.len;omega) ?_
  have l0:∀τ,lod (.rop (encCor (corAt cs x)) 0) τ=some (iv (corAt cs x).kind):=fun _=>rfl
  have l2:∀τ,lod (.rop (encCor (corAt cs x)) 2) τ=some (iv (corAt cs x).a):=fun _=>rfl
  have l3:∀τ,lod (.rop (encCor (corAt cs x)) 3) τ=some (iv (corAt cs x).b):=fun _=>rfl
  have l4:∀τ,lod (.rop (encCor (corAt cs x)) 4) τ=some (str (corAt cs x).name):=fun _=>rfl
  have l5:∀τ,lod (.rop (encCor (corAt cs x)) 5) τ=some (roD (corAt cs x).data):=fun _=>rfl
  simp only [l0,l2,l3,l4,l5,jn,RR]
  rw [mkC] at h1
  dsimp only at h1
  generalize hks:kidsC cs x=ks at*
  generalize hc:corAt cs x=c at*
  have one:∀(o:OpD) (τ:AH),CSt [roC cs] σ τ φm B→(∀τ',CSt [roC cs] σ τ' φm (endS (putS B i o) i e)→R (.ret (.tup [])) τ')→
    acall TP fn_spec_l9Put [.ptr φm 0 0 0,iv (i:Int),.agg (encOp o)] τ (onr (fun _ σ=>
    acall TP fn_spec_l9End [.ptr φm 0 0 0,iv (i:Int),bv e] σ (onr (fun _ σ=>
    aret (.tup []) σ R) (fun v σ=>apan v σ R))) (fun v σ=>apan v σ R)):=by
   intro o τ h g1
   refine c_spec_l9Put rfl h hi (lt_len (N:=1000000) (by omega) i) fun τ' S=>?_
   simp only [RR]
   refine c_spec_l9End rfl S (by rw [len_put];exact hi) (lt_len (N:=1000000) (by have:=tot_put B i o;omega) i) fun τ2 S2=>?_
   simp only [RR]
   exact ret_here (g1 τ2 S2)
  by_cases c1:c.kind=1
  ·rw [if_pos c1] at h1
   simp only [c1,RR]
   refine bsl0 ?_
   refine buf_app (es:=[]) (.inl ⟨.inr rfl,rfl⟩) (xs:=c.data.map encDat) rfl (by intro c hc;obtain ⟨x,_,rfl⟩:=List.mem_map.1 hc;rfl) (by intro c hc y hy;obtain ⟨x,_,rfl⟩:=List.mem_map.1 hc;exact one_encDat x y hy) (by simp;omega) fun a τ1 hB hK hfam=>?_
   rw [List.nil_append] at hB
   have hf1:∀ψ,ψ∈famL a→τ ψ=none:=fun ψ hψ=>(hfam ψ hψ).elim (fun c=>by cases c) id
   simp only [bld_dat (k:=1) (ds:=c.data) hB,RR]
   exact frz_op (hK.sub (.refl τ) fun ψ c=>by cases c) (fz_data hB hf1) (one _ τ h h1)
  rw [if_neg c1] at h1
  by_cases c2:c.kind=2
  ·rw [if_pos c2] at h1
   have eb:bld [(.val (.int .i64 0)),(.val (.int .i64 0)),(.val (.int .i64 0)),(.val (.int .i64 0)),(.val (.int .i64 0)),(.val (.string ⟨#[]⟩)),(.val (.slice none 0 0))] [(0,1),(1,1),(2,1),(3,1),(4,1),(5,1),(6,1)] [(0,(.val (.int .i64 2))),(1,iv c.a),(2,iv c.b)]=some (.agg (encOpA (ocAB 2 c.a c.b) nilS)):=rfl
   simp only [c2,eb,Int.reduceEq,RR,true_and]
   exact nil_op _ rfl rfl (one _ τ h h1)
  rw [if_neg c2] at h1
  by_cases c3:c.kind=3
  ·rw [if_pos c3] at h1
   have eb:bld [(.val (.int .i64 0)),(.val (.int .i64 0)),(.val (.int .i64 0)),(.val (.int .i64 0)),(.val (.int .i64 0)),(.val (.string ⟨#[]⟩)),(.val (.slice none 0 0))] [(0,1),(1,1),(2,1),(3,1),(4,1),(5,1),(6,1)] [(0,(.val (.int .i64 3))),(5,str c.name)]=some (.agg (encOpA (ocN 3 c.name) nilS)):=rfl
   simp only [c3,eb,Int.reduceEq,RR]
   exact nil_op _ rfl rfl (one _ τ h h1)
  rw [if_neg c3] at h1
  have z0:∀{k:Nat} {r:List Nat} τ,idx 1 (roK (k::r)) (.val (.int .i64 0)) τ=some (.rop [iv (k:Int)] 0):=fun {k r} τ=>by have:=idx_K (σ:=τ) (ks:=k::r) (j:=0) (by simp);simpa using this
  by_cases c5:c.kind=5
  ·rw [if_pos c5] at h1
   unfold hasK at hkk
   rw [if_neg (by omega),if_pos (.inl c5)] at hkk
   obtain ⟨k,rfl⟩:∃k,ks=[k]:=by
    match ks,hkk with
    |[k],_=>exact ⟨k,rfl⟩
   have ev:visK cs f [k]=(vis cs f k).length:=by simp [visK]
   rw [ev] at ht
   have eb:bld [(.val (.int .i64 0)),(.val (.int .i64 0)),(.val (.int .i64 0)),(.val (.int .i64 0)),(.val (.int .i64 0)),(.val (.string ⟨#[]⟩)),(.val (.slice none 0 0))] [(0,1),(1,1),(2,1),(3,1),(4,1),(5,1),(6,1)] [(0,(.val (.int .i64 4))),(1,iv (B.length:Int))]=some (.agg (encOpA (ocA 4 (B.length:Int)) nilS)):=rfl
   have eb2:bld [(.val (.int .i64 0)),(.val (.slice none 0 0))] [(0,1),(1,1)] [(0,iv c.a)]=some (.agg [iv c.a,nilS]):=rfl
   obtain ⟨v,e1,e2⟩:=h.len
   have e1':=e1
   replace e1:lod (.ptr φm 0 0 1) τ=some v:=e1
   have hBl:=len_tot B
   simp only [c5,e1,eb2,Int.reduceEq,RR]
   rw [lit1 (sz:=2) (row:=[iv c.a,nilS]) rfl rfl (by omega)]
   simp only [RR]
   refine h.push (v:=v) (a:=c.a) e1' rfl (by omega) fun v' τ1 k1=>?_
   refine ⟨trivial,k1 _ fun τ2 S2 g2 g3=>?_⟩
   replace g2:lod (.ptr φm 0 0 1) τ2=some v':=g2
   have es:ibin .sub (iv ((B.length+1:Nat):Int)) (.val (.int .i64 1))=some (iv (B.length:Int)):=by
    rw [ibin_sub (by omega) (by omega)]
    congr 3;omega
   simp only [g2,g3,es,z0,lod_1,RR,true_and]
   have hk:=hkd k (by simp)
   have hi1:i<(B++[(c.a,[])]).length:=by simp;omega
   have tp:=tot_push B c.a
   refine ih k B.length true _ τ2 _ hk.1 hk.2 (by simp) S2 (by omega) fun τ3 S3=>?_
   have t3:=htl k (by simp) B.length true (B++[(c.a,[])])
   have hi3:i<(mkC cs f k B.length true (B++[(c.a,[])])).length:=Nat.lt_of_lt_of_le hi1 (mkC_le ..).1
   simp only [eb,RR]
   refine nil_op _ rfl rfl (c_spec_l9Put rfl S3 hi3 (lt_len (N:=1000000) (by omega) i) fun τ4 S4=>?_)
   simp only [RR]
   refine c_spec_l9End rfl S4 (by rw [len_put];exact hi3) (lt_len (N:=1000000) (by have:=tot_put (mkC cs f k B.length true (B++[(c.a,[])])) i (ocA 4 (B.length:Int));omega) i) fun τ5 S5=>?_
   simp only [List.getD_cons_zero] at h1
   rw [mkC_put cs f k B.length true (B++[(c.a,[])]) (by omega) hi1] at h1
   simp only [RR]
   exact ret_here (h1 τ5 S5)
  rw [if_neg c5] at h1
  by_cases c78:c.kind=7∨c.kind=8
  ·rw [if_pos c78] at h1
   unfold hasK at hkk
   rw [if_neg (by omega),if_pos (by omega)] at hkk
   obtain ⟨k,rfl⟩:∃k,ks=[k]:=by
    match ks,hkk with
    |[k],_=>exact ⟨k,rfl⟩
   have ev:visK cs f [k]=(vis cs f k).length:=by simp [visK]
   rw [ev] at ht
   simp only [List.getD_cons_zero] at h1
   have hk:=hkd k (by simp)
   have t1:=htl k (by simp) i false B
   have hi1:i<(mkC cs f k i false B).length:=Nat.lt_of_lt_of_le hi (mkC_le ..).1
   have eb:bld [(.val (.int .i64 0)),(.val (.int .i64 0)),(.val (.int .i64 0)),(.val (.int .i64 0)),(.val (.int .i64 0)),(.val (.string ⟨#[]⟩)),(.val (.slice none 0 0))] [(0,1),(1,1),(2,1),(3,1),(4,1),(5,1),(6,1)] [(0,iv (c.kind - 7+8)),(5,str c.name)]=some (.agg (encOpA (ocN (c.kind - 7+8) c.name) nilS)):=rfl
   have go:acall TP fn_spec_l9Make [.ptr φm 0 0 0,iv (k:Int),iv (i:Int),bv false] τ (onr (fun _ σ=>
     acall TP fn_spec_l9Put [.ptr φm 0 0 0,iv (i:Int),.agg (encOpA (ocN (c.kind - 7+8) c.name) nilS)] σ (onr (fun _ σ=>
     acall TP fn_spec_l9End [.ptr φm 0 0 0,iv (i:Int),bv e] σ (onr (fun _ σ=>
     aret (.tup []) σ R) (fun v σ=>apan v σ R))) (fun v σ=>apan v σ R))) (fun v σ=>apan v σ R)):=by
    refine ih k i false B τ _ hk.1 hk.2 hi h (by omega) fun τ1 S1=>?_
    simp only [RR]
    refine nil_op _ rfl rfl (c_spec_l9Put rfl S1 hi1 (lt_len (N:=1000000) (by omega) i) fun τ2 S2=>?_)
    simp only [RR]
    refine c_spec_l9End rfl S2 (by rw [len_put];exact hi1) (lt_len (N:=1000000) (by have:=tot_put (mkC cs f k i false B) i (ocN (c.kind - 7+8) c.name);omega) i) fun τ3 S3=>?_
    simp only [RR]
    exact ret_here (h1 τ3 S3)
   rcases c78 with c7|c8
   ·simp only [c7,z0,lod_1,Int.reduceEq,Int.reduceSub,Int.reduceAdd,RR] at eb go ⊢
    simp only [eb,RR]
    exact go
   ·simp only [c8,z0,lod_1,Int.reduceEq,Int.reduceSub,Int.reduceAdd,RR] at eb go ⊢
    simp only [eb,RR]
    exact go
  rw [if_neg c78] at h1
  have c7:¬c.kind=7:=fun k=>c78 (.inl k)
  have c8:¬c.kind=8:=fun k=>c78 (.inr k)
  by_cases c4:c.kind=4
  ·rw [if_pos c4] at h1
   unfold hasK at hkk
   rw [if_pos c4] at hkk
   obtain ⟨k1,k2,k3,rfl⟩:∃k1 k2 k3,ks=[k1,k2,k3]:=by
    match ks,hkk with
    |[k1,k2,k3],_=>exact ⟨k1,k2,k3,rfl⟩
   simp only [List.getD_cons_zero,List.getD_cons_succ] at h1
   have ev:visK cs f [k1,k2,k3]=(vis cs f k1).length+((vis cs f k2).length+(vis cs f k3).length):=by simp [visK]
   rw [ev] at ht
   simp only [c4,Int.reduceEq,RR]
   refine c_spec_l9If hw ih hkd h hi ht rfl rfl rfl rfl rfl rfl fun τ' S=>?_
   simp only [RR]
   exact ret_here (h1 τ' S)
  rw [if_neg c4] at h1
  have hkl:ks.length≤160:=by
   have:=hw.len.2
   rw [←hks]
   unfold kidsC
   exact Nat.le_trans (List.length_filter_le _ _) (by simpa using this)
  by_cases c6:c.kind=6
  ·rw [if_pos c6] at h1
   unfold hasK at hkk
   rw [if_neg c4,if_neg (by omega),if_pos c6] at hkk
   have hne:ks≠[]:=by intro c;rw [c] at hkk;simp at hkk
   have hsp:=getD_last hne
   have hmem:∀k,k∈ks.dropLast→k∈ks:=fun k hm=>by rw [←hsp];exact List.mem_append_left _ hm
   have hlm:ks.getLastD 0∈ks:=by
    have:ks.getLastD 0∈ks.dropLast++[ks.getLastD 0]:=List.mem_append_right _ (List.mem_singleton.2 rfl)
    rwa [hsp] at this
   have hdl:ks.dropLast.length=ks.length - 1:=List.length_dropLast
   have eb:bld [(.val (.int .i64 0)),(.val (.int .i64 0)),(.val (.int .i64 0)),(.val (.int .i64 0)),(.val (.int .i64 0)),(.val (.string ⟨#[]⟩)),(.val (.slice none 0 0))] [(0,1),(1,1),(2,1),(3,1),(4,1),(5,1),(6,1)] [(0,(.val (.int .i64 7)))]=some (.agg (encOpA (oc0 7) nilS)):=rfl
   have evs:visK cs f ks=visK cs f ks.dropLast+(vis cs f (ks.getLastD 0)).length:=by
    conv=>lhs;rw [←hsp]
    rw [visK_app];simp [visK]
   have hm:∀l:List Nat,(∀k,k∈l→k∈ks)→∀B,totS (manyS (fun k B=>mkC cs f k i false B) (fun B=>putS B i (oc0 7)) l B)≤totS B+4*visK cs f l:=by
    intro l
    induction l with
    |nil=>intro _ B;simp [manyS,visK]
    |cons k r ih2=>
     intro hl B
     have g1:=htl k (hl k (by simp)) i false B
     have g2:=tot_put (mkC cs f k i false B) i (oc0 7)
     have g3:=ih2 (fun k hk=>hl k (by simp [hk])) (putS (mkC cs f k i false B) i (oc0 7))
     have e:visK cs f (k::r)=(vis cs f k).length+visK cs f r:=by simp [visK]
     rw [manyS,e]
     omega
   simp only [c6,Int.reduceEq,RR]
   refine lp_for ks.dropLast.length (fun j=>(.ptr φm 0 0 0,iv (i:Int),bv e,roK ks,iv (j:Int),())) (fun j τ'=>CSt [roC cs] σ τ' φm (manyS (fun k B=>mkC cs f k i false B) (fun B=>putS B i (oc0 7)) (ks.dropLast.take j) B)) rfl h ?_
   rintro j τ1 hj S R' hR'
   have hall:∀l B,leS B (manyS (fun k B=>mkC cs f k i false B) (fun B=>putS B i (oc0 7)) l B):=leS_many (fun k B=>mkC_le ..) (fun B=>leS_put ..)
   have hij:i<(manyS (fun k B=>mkC cs f k i false B) (fun B=>putS B i (oc0 7)) (ks.dropLast.take j) B).length:=Nat.lt_of_lt_of_le hi (hall _ _).1
   have htj:=hm (ks.dropLast.take j) (fun k hk=>hmem k (List.mem_of_mem_take hk)) B
   have ea:ibin .add (iv (j:Int)) (.val (.int .i64 1))=some (iv ((j:Int)+1)):=ibin_add (by omega) (by omega)
   by_cases hlt:j<ks.dropLast.length
   ·have g:(j:Int)+1<(ks.length:Int):=by omega
    have hjk:j<ks.length:=by omega
    have hge:ks.getD j 0=ks.dropLast.getD j 0:=by
     conv=>lhs;rw [←hsp]
     simp [List.getD,List.getElem?_append_left hlt]
    have hm0:ks.dropLast.getD j 0∈ks:=hmem _ (by rw [getD_get hlt];exact List.getElem_mem hlt)
    have evj:visK cs f ks.dropLast=visK cs f (ks.dropLast.take j)+((vis cs f (ks.dropLast.getD j 0)).length+visK cs f (ks.dropLast.drop (j+1))):=by
     rw [getD_get hlt];exact visK_at hlt
    simp only [ea,lenK,g,idx_K hjk,hge,lod_1,RR]
    refine ih _ i false _ τ1 _ (hkd _ hm0).1 (hkd _ hm0).2 hij S (by omega) fun τ2 S2=>?_
    have hi1:i<(mkC cs f (ks.dropLast.getD j 0) i false (manyS (fun k B=>mkC cs f k i false B) (fun B=>putS B i (oc0 7)) (ks.dropLast.take j) B)).length:=Nat.lt_of_lt_of_le hij (mkC_le ..).1
    have t2:=htl _ hm0 i false (manyS (fun k B=>mkC cs f k i false B) (fun B=>putS B i (oc0 7)) (ks.dropLast.take j) B)
    simp only [eb,RR]
    refine nil_op _ rfl rfl (c_spec_l9Put rfl S2 hi1 (lt_len (N:=1000000) (by omega) i) fun τ3 S3=>?_)
    simp only [ea,RR]
    have e1:manyS (fun k B=>mkC cs f k i false B) (fun B=>putS B i (oc0 7)) (ks.dropLast.take (j+1)) B=putS (mkC cs f (ks.dropLast.getD j 0) i false (manyS (fun k B=>mkC cs f k i false B) (fun B=>putS B i (oc0 7)) (ks.dropLast.take j) B)) i (oc0 7):=by
     rw [List.take_succ_eq_append_getElem hlt,many_app,getD_get hlt]
     rfl
    exact hR' hlt _ _ (.refl _) (by rw [e1];exact S3)
   ·have g:¬(j:Int)+1<(ks.length:Int):=by omega
    obtain rfl:j=ks.dropLast.length:=by omega
    rw [List.take_length] at S hij htj
    have hlast:ks.getD (ks.length - 1) 0=ks.getLastD 0:=by
     rw [List.getLastD_eq_getLast?,List.getLast?_eq_getElem?];rfl
    have es:ibin .sub (iv (ks.length:Int)) (.val (.int .i64 1))=some (iv ((ks.length:Int) - 1)):=ibin_sub (by omega) (by omega)
    have ix:idx 1 (roK ks) (iv ((ks.length:Int) - 1)) τ1=some (.rop [iv ((ks.getLastD 0:Nat):Int)] 0):=by
     have:=idx_K (σ:=τ1) (ks:=ks) (j:=ks.length - 1) (by omega)
     rw [hlast,show ((ks.length - 1:Nat):Int)=(ks.length:Int) - 1 by omega] at this
     exact this
    simp only [ea,lenK,g,es,ix,lod_1,RR]
    refine ih _ i e _ τ1 _ (hkd _ hlm).1 (hkd _ hlm).2 hij S (by omega) fun τ2 S2=>?_
    simp only [RR]
    exact ret_here (h1 τ2 S2)
  rw [if_neg c6] at h1
  have c9:c.kind=9:=by omega
  have hm:∀l:List Nat,(∀k,k∈l→k∈ks)→∀B,totS (manyS (fun k B=>mkC cs f k i false B) id l B)≤totS B+4*visK cs f l:=by
   intro l
   induction l with
   |nil=>intro _ B;simp [manyS,visK]
   |cons k r ih2=>
    intro hl B
    have g1:=htl k (hl k (by simp)) i false B
    have g3:=ih2 (fun k hk=>hl k (by simp [hk])) (mkC cs f k i false B)
    have e:visK cs f (k::r)=(vis cs f k).length+visK cs f r:=by simp [visK]
    rw [manyS,e]
    simp only [id]
    omega
  simp only [c9,Int.reduceEq,RR]
  refine lp_for ks.length (fun j=>(.ptr φm 0 0 0,iv (i:Int),bv e,roK ks,iv (j:Int),())) (fun j τ'=>CSt [roC cs] σ τ' φm (manyS (fun k B=>mkC cs f k i false B) id (ks.take j) B)) rfl h ?_
  rintro j τ1 hj S R' hR'
  have hall:∀l B,leS B (manyS (fun k B=>mkC cs f k i false B) id l B):=leS_many (fun k B=>mkC_le ..) (fun B=> .refl B)
  have hij:i<(manyS (fun k B=>mkC cs f k i false B) id (ks.take j) B).length:=Nat.lt_of_lt_of_le hi (hall _ _).1
  have htj:=hm (ks.take j) (fun k hk=>List.mem_of_mem_take hk) B
  by_cases hlt:j<ks.length
  ·have g:(j:Int)<(ks.length:Int):=by omega
   have hm0:ks.getD j 0∈ks:=by rw [getD_get hlt];exact List.getElem_mem hlt
   have evj:visK cs f ks=visK cs f (ks.take j)+((vis cs f (ks.getD j 0)).length+visK cs f (ks.drop (j+1))):=by
    rw [getD_get hlt];exact visK_at hlt
   simp only [lenK,g,idx_K hlt,lod_1,RR]
   refine ih _ i false _ τ1 _ (hkd _ hm0).1 (hkd _ hm0).2 hij S (by omega) fun τ2 S2=>?_
   simp only [ibin_up hlt (by omega),RR]
   have e1:manyS (fun k B=>mkC cs f k i false B) id (ks.take (j+1)) B=mkC cs f (ks.getD j 0) i false (manyS (fun k B=>mkC cs f k i false B) id (ks.take j) B):=by
    rw [List.take_succ_eq_append_getElem hlt,many_app,getD_get hlt]
    rfl
   exact hR' hlt _ _ (.refl _) (by rw [e1];exact S2)
  ·have g:¬(j:Int)<(ks.length:Int):=by omega
   obtain rfl:j=ks.length:=by omega
   rw [List.take_length] at S hij htj
   have es:ibin .sub (iv (ks.length:Int)) (.val (.int .i64 1))=some (iv ((ks.length:Int) - 1)):=ibin_sub (by omega) (by omega)
   have eb:∀q:Int,bld [(.val (.int .i64 0)),(.val (.int .i64 0)),(.val (.int .i64 0)),(.val (.int .i64 0)),(.val (.int .i64 0)),(.val (.string ⟨#[]⟩)),(.val (.slice none 0 0))] [(0,1),(1,1),(2,1),(3,1),(4,1),(5,1),(6,1)] [(0,iv q),(1,iv ((ks.length:Int) - 1))]=some (.agg (encOpA (ocA q ((ks.length:Int) - 1)) nilS)):=fun q=>rfl
   cases e with
   |true=>
    simp only [g,jn,lenK,es,eb,RR]
    refine nil_op _ rfl rfl (c_spec_l9Put rfl S hij (lt_len (N:=1000000) (by omega) i) fun τ3 S3=>?_)
    simp only [RR]
    exact ret_here (h1 τ3 S3)
   |false=>
    simp only [g,jn,lenK,es,eb,RR]
    refine nil_op _ rfl rfl (c_spec_l9Put rfl S hij (lt_len (N:=1000000) (by omega) i) fun τ3 S3=>?_)
    simp only [RR]
    exact ret_here (h1 τ3 S3)
def fitB (B:St):Bool:=decide (B.length≤60)&&decide (∀k,k<B.length→lenS' B k≤200)
theorem fitB_iff {B:St}:fitB B=true↔fits B:=by simp [fitB,fits]
set_option maxHeartbeats 1000000 in
theorem c_spec_l9Code (hw:WfC cs) (hbd:∀i,(corAt cs i).data.length≤1048576) (h:R (.ret (.tup [roBk (toBk (fin0 cs)),bv (fitB (fin0 cs))])) σ):acall TP fn_spec_l9Code [roC cs] σ R:=by
 refine s_spec_l9Code_ok ?_
 unfold s_spec_l9Code
 have eb0:bld [(.val (.int .i64 0)),(.val (.slice none 0 0))] [(0,1),(1,1)] []=some (.agg [iv 0,nilS]):=rfl
 simp only [eb0,RR]
 refine bsl1 (row:=[iv 0,nilS]) rfl (by omega) fun φb hφb=>?_
 have eb1:bld [(.val (.slice none 0 0)),(.val (.slice none 0 0))] [(0,1),(1,1)] [(0,roC cs),(1,.own φb 0 0 1)]=some (.agg [roC cs,.own φb 0 0 1]):=rfl
 simp only [eb1,RR]
 intro φm hφm
 have hne:φm≠φb:=by rintro rfl;rw [AH.set_same] at hφm;cases hφm
 refine sto_own (es:=[[nilS,nilS]]) (cs:=[roC cs,.own φb 0 0 1]) (by rw [AH.set_same];rfl) (by simp) rfl rfl rfl (by intro y hy;simp only [List.mem_cons,List.not_mem_nil,or_false] at hy;rcases hy with rfl|rfl<;>rfl) ?_
 simp only [List.set_cons_zero,AH.set_set]
 rw [AH.set_none] at hφm
 have hS0:CSt [roC cs] σ ((σ.set φb ⟨0,2,[[iv 0,nilS]]⟩).set φm ⟨0,2,[[roC cs,.own φb 0 0 1]]⟩) φm [(0,[])]:=by
  refine ⟨⟨.own φb 0 0 1,[((0,[]),nilS)],AH.set_same ..,⟨.inr ⟨φb,0,rfl,by rw [AH.set_ne' (Ne.symm hne),AH.set_same];rfl⟩,fun p hp=>?_,by simp [famL,l2F],fun ψ hψ=>?_,fun ψ F hF=>?_⟩,rfl,by simp [famL,l2F,hne]⟩,hφm.2⟩
  ·obtain rfl:=List.mem_singleton.1 hp;exact nilB
  ·have:ψ=φb:=by simpa [famL,l2F] using hψ
   subst this;exact hφb
  ·rw [AH.set_ne' (by rintro rfl;rw [hφm.2] at hF;cases hF),AH.set_ne' (by rintro rfl;rw [hφb] at hF;cases hF)];exact hF
 have hl:=hw.len
 have hv:=vis_bound hw cs.length 0 (by omega)
 refine make_all hw hbd cs.length 0 0 true [(0,[])] _ _ (by omega) (by omega) (by simp) hS0 (by simp [totS];omega) fun τ2 S2=>?_
 change CSt [roC cs] σ τ2 φm (fin0 cs) at S2
 have htf:=mkC_tot hw cs.length 0 0 true [(0,[])] (by omega) (by omega)
 change totS (fin0 cs)+1≤_ at htf
 have htf2:totS (fin0 cs)≤1000:=by simp [totS] at htf ⊢;omega
 simp only [RR]
 refine ⟨_,σ,S2.sub,S2.fz (fs:=[roC cs]++[roBk (toBk (fin0 cs))]) rfl,?_⟩
 have e2:∀τ,lod (.rop ([roC cs]++[roBk (toBk (fin0 cs))]) 1) τ=some (roBk (toBk (fin0 cs))):=fun _=>rfl
 have hBl:=len_tot (fin0 cs)
 have htl:(toBk (fin0 cs)).length=(fin0 cs).length:=by simp [toBk]
 simp only [e2,len_ro,RR]
 refine lp_read (fin0 cs).length (fun i=>(AV.rop ([roC cs]++[roBk (toBk (fin0 cs))]) 0,bv (decide ((fin0 cs).length≤60)&&decide (∀k,k<i→lenS' (fin0 cs) k≤200)),iv (i:Int),())) ?_ ?_
 ·have:decide (((toBk (fin0 cs)).length:Int)≤60)=decide ((fin0 cs).length≤60):=by rw [htl];congr 1;apply propext;omega
  rw [this]
  simp
  rfl
 intro i hi R' hR'
 simp only [e2,len_ro,htl,RR]
 by_cases hlt:i<(fin0 cs).length
 ·have g:(i:Int)<((fin0 cs).length:Int):=by omega
  have hlt2:i<(toBk (fin0 cs)).length:=by omega
  have eg:(toBk (fin0 cs))[i].ops.length=lenS' (fin0 cs) i:=by simp [toBk,lenS',List.getD,hlt]
  have ix:=fun τ=>idx_ro (σ:=τ) hlt2 len_encBlk
  have lo:∀τ,lod (.rop (encBlk (toBk (fin0 cs))[i]) 1) τ=some (roO (toBk (fin0 cs))[i].ops):=fun _=>rfl
  have hn:=hR' hlt σ (.refl σ)
  have hd:decide (∀k,k<i+1→lenS' (fin0 cs) k≤200)=(decide (∀k,k<i→lenS' (fin0 cs) k≤200)&&decide (((toBk (fin0 cs))[i].ops.length:Int)≤200)):=by
   rw [eg,←Bool.decide_and]
   congr 1
   apply propext
   constructor
   ·intro h;exact ⟨fun k hk=>h k (by omega),by have:=h i (by omega);omega⟩
   ·rintro ⟨h,h2⟩ k hk
    by_cases c:k<i
    ·exact h k c
    ·obtain rfl:k=i:=by omega
     omega
  rw [hd,←Bool.and_assoc] at hn
  generalize (decide ((fin0 cs).length≤60)&&decide (∀k,k<i→lenS' (fin0 cs) k≤200))=b at hn ⊢
  cases b with
  |true=>
   rw [Bool.true_and] at hn
   simp only [g,e2,ix,lo,len_ro,ibin_up hlt (by omega),RR]
   exact hn
  |false=>
   rw [Bool.false_and] at hn
   simp only [g,ibin_up hlt (by omega),RR]
   exact hn
 ·have g:¬(i:Int)<((fin0 cs).length:Int):=by omega
  obtain rfl:i=(fin0 cs).length:=by omega
  simp only [g,RR]
  exact ret_here h
end
end Go.Proofs.YtbppopcpgcgkkaaGreatDoor.E
/- Cores: their faults. -/
namespace Go.Proofs.YtbppopcpgcgkkaaGreatDoor.E
open Go Go.RowKit
set_option maxRecDepth 100000
variable [L:Lam]
variable {σ τ τ':AH} {R:AEnd→AH→Prop}
def kws:List ByteArray:=[⟨#[113,117,111,116,101]⟩,⟨#[105,102]⟩,⟨#[108,97,109,98,100,97]⟩,⟨#[108,101,116]⟩,⟨#[98,101,103,105,110]⟩,⟨#[100,101,102,105,110,101]⟩,⟨#[115,101,116,33]⟩]
def inL (l:List ByteArray) (s:ByteArray):Bool:=l.any fun t=>decide (s=t)
def kwB (s:ByteArray):Bool:=inL kws s
def idxS:List ByteArray→ByteArray→Nat→Int
 |[],_,_=> -1
 |t::r,s,k=>if s=t then (k:Int) else idxS r s (k+1)
theorem idxS_in (s:ByteArray):∀(l:List ByteArray) (k:Nat),decide (0≤idxS l s k)=inL l s:=by
 intro l
 induction l with
 |nil=>intro k;rfl
 |cons t r ih=>
  intro k
  rw [idxS]
  by_cases c:s=t
  ·rw [if_pos c];simp [inL,c]
  ·rw [if_neg c,ih];simp [inL,c]
abbrev roS (l:List ByteArray):AV:= .ro (l.map fun s=>[str s])
theorem idx_S {l:List ByteArray} {j:Nat} (h:j<l.length):idx 1 (roS l) (iv (j:Int)) σ=some (.rop [str l[j]] 0):=idx_ro (enc:=fun s=>[str s]) h (sz:=1) fun _=>rfl
theorem lenSS {l:List ByteArray}:lenS (roS l)=some (iv (l.length:Int)):=by simp [lenS]
theorem c_slices_Index {l:List ByteArray} {s:ByteArray} (hl:l.length≤1000000) (h:R (.ret (iv (idxS l s 0))) σ):acall TP fn_slices_Index [roS l,str s] σ R:=by
 refine s_slices_Index_ok ?_
 unfold s_slices_Index
 simp only [lenSS,RR]
 refine lp_same l.length (fun i=>(roS l,str s,iv (l.length:Int),iv (i:Int),())) (fun i=>idxS l s 0=idxS (l.drop i) s i) rfl (by simp) ?_
 intro i hi hj R' hR'
 by_cases hlt:i<l.length
 ·have g:(i:Int)<(l.length:Int):=by omega
  rw [List.drop_eq_getElem_cons hlt,idxS] at hj
  simp only [g,idx_S hlt,lod_1,sbin_eql',RR]
  by_cases c:s=l[i]
  ·rw [if_pos c] at hj
   rw [hj] at h
   have cd:decide (s=l[i])=true:=by simp [c]
   simp only [cd,RR]
   exact ret_here h
  ·rw [if_neg c] at hj
   have cd:decide (s=l[i])=false:=by simp [c]
   simp only [cd,ibin_up hlt (by omega),RR]
   exact hR' hlt hj _ (.refl σ)
 ·have g:¬(i:Int)<(l.length:Int):=by omega
  obtain rfl:i=l.length:=by omega
  rw [List.drop_length,idxS] at hj
  rw [hj] at h
  simp only [g,RR]
  exact ret_here h
theorem c_slices_Contains {l:List ByteArray} {s:ByteArray} (hl:l.length≤1000000) (h:R (.ret (bv (inL l s))) σ):acall TP fn_slices_Contains [roS l,str s] σ R:=by
 refine s_slices_Contains_ok ?_
 unfold s_slices_Contains
 refine c_slices_Index hl ?_
 simp only [RR,idxS_in]
 exact ret_here h
theorem bsl_new {sz n:Nat} {z:List AV} {ps:List (Nat × AV)} {es:List (List AV)} {k:AV→AH→Prop} (he:afillS sz (List.replicate n z) ps=some es) (hb:n*sz≤16777216) (hn:n≠0) (h:∀φ,σ φ=none→k (.own φ 0 0 n) (σ.set φ ⟨0,sz,es⟩)):bsl sz z n ps σ k:=by
 unfold bsl
 rw [he]
 exact ⟨hb,by rw [if_neg hn];exact h⟩
theorem c_impl_IsKeyword {s:ByteArray} (h:R (.ret (bv (kwB s))) σ):acall TP fn_impl_IsKeyword [str s] σ R:=by
 refine s_impl_IsKeyword_ok ?_
 unfold s_impl_IsKeyword
 refine bsl_new (es:=kws.map fun s=>[str s]) rfl (by decide) (by decide) fun φ hφ=>?_
 refine acall_frz (σ0:=σ) (args':=[roS kws,str s]) (.set (.refl σ) _ hφ) rfl (fun i hi=>?_) ?_
 ·match i,hi with
  |0,_=>
   refine .own (AH.set_same ..) hφ rfl (by decide) rfl (fun i hi=>?_) (fun i j hi hj=>by rw [Nat.zero_add];exact .same _)
   have hi':i<kws.length:=hi
   simp [List.getD,hi']
  |1,_=>exact .same _
 refine c_slices_Contains (by decide) ?_
 simp only [RR]
 exact ret_here h
theorem c_spec_IsKeyword {s:ByteArray} (h:R (.ret (bv (kwB s))) σ):acall TP fn_spec_IsKeyword [str s] σ R:=by
 refine s_spec_IsKeyword_ok ?_
 unfold s_spec_IsKeyword
 refine bsl_frz (es:=kws.map fun s=>[str s]) rfl (by decide) rfl (by intro c hc;obtain ⟨x,_,rfl⟩:=List.mem_map.1 hc;rfl) ?_
 refine lp_same kws.length (fun i=>(str s,roS kws,iv (i:Int),())) (fun i=>inL kws s=inL (kws.drop i) s) rfl (by simp) ?_
 intro i hi hj R' hR'
 simp only [lenSS,RR]
 by_cases hlt:i<kws.length
 ·have g:(i:Int)<(kws.length:Int):=by omega
  rw [List.drop_eq_getElem_cons hlt] at hj
  have hj2:inL kws s=(decide (s=kws[i])||inL (kws.drop (i+1)) s):=hj
  have hkl:kws.length=7:=rfl
  simp only [g,idx_S hlt,lod_1,sbin_eql',RR]
  by_cases c:kws[i]=s
  ·have cd:decide (kws[i]=s)=true:=by simp [c]
   simp only [cd,RR]
   rw [show decide (s=kws[i])=true by simp [c],Bool.true_or] at hj2
   unfold kwB at h
   rw [hj2] at h
   exact ret_here h
  ·have cd:decide (kws[i]=s)=false:=by simp [c]
   simp only [cd,ibin_up hlt (by omega),RR]
   rw [show decide (s=kws[i])=false by simp;exact fun e=>c e.symm,Bool.false_or] at hj2
   exact hR' hlt hj2 _ (.refl σ)
 ·have g:¬(i:Int)<(kws.length:Int):=by omega
  obtain rfl:i=kws.length:=by omega
  rw [List.drop_length] at hj
  unfold kwB at h
  rw [hj] at h
  simp only [g,RR]
  exact ret_here h
end Go.Proofs.YtbppopcpgcgkkaaGreatDoor.E
/- Forms that are expanded to cores: the plain law. No program in sight. -/
namespace Go.Proofs.YtbppopcpgcgkkaaGreatDoor.E
open Go Go.RowKit
def kidsD (ds:List Dat) (x:Nat):List Nat:=(List.range ds.length).filter fun i=>decide ((dat ds i).parent=(x:Int))
def deepN (ds:List Dat) (i:Nat):Nat:=deepW (par ds) (i:Int)
def subG (ds:List Dat) (x:Nat):Nat→Nat→List Dat
 |0,_=>[]
 |f+1,i=>if i<ds.length∧(i=x∨deepN ds x<deepN ds i) then {dat ds i with parent:=if i=x then -1 else (dat ds i).parent - x}::subG ds x f (i+1) else []
def subD (ds:List Dat) (x:Nat):List Dat:=subG ds x (ds.length - x) x
theorem subG_le (ds:List Dat) (x:Nat):∀f i,(subG ds x f i).length≤f:=by
 intro f
 induction f with
 |zero=>intro i;simp [subG]
 |succ f ih=>
  intro i
  rw [subG]
  split
  ·have:=ih (i+1);simp;omega
  ·simp
theorem subD_le (ds:List Dat) (x:Nat):(subD ds x).length≤ds.length:=Nat.le_trans (subG_le ..) (Nat.sub_le ..)
def konC (p:Int) (d:List Dat):Cor:=⟨1,p,0,0,⟨#[]⟩,d⟩
def locC (p:Int) (a b:Nat):Cor:=⟨2,p,(a:Int),(b:Int),⟨#[]⟩,[]⟩
def nodC (k p:Int) (a:Nat):Cor:=⟨k,p,(a:Int),0,⟨#[]⟩,[]⟩
def nmdC (k p:Int) (s:ByteArray):Cor:=⟨k,p,0,0,s,[]⟩
abbrev Sco:=List (List ByteArray)
def posL:List ByteArray→ByteArray→Option Nat
 |[],_=>none
 |t::r,s=>if t=s then some 0 else (posL r s).map (·+1)
def findE:Sco→ByteArray→Option (Nat × Nat)
 |[],_=>none
 |ns::r,s=>match posL ns s with
  |some b=>some (0,b)
  |none=>(findE r s).map fun p=>(p.1+1,p.2)
abbrev Ex:=List Cor × Int
def allE (g:Nat→List Cor→Ex):List Nat→List Cor→Ex
 |[],C=>(C,0)
 |k::r,C=>if (g k C).2≠0 then g k C else allE g r (g k C).1
def badP (ds:List Dat) (x:Nat) (ns:List ByteArray):Bool:=decide ((dat ds x).kind≠3)||kwB (dat ds x).name||inL ns (dat ds x).name
def namesE (ds:List Dat):List Nat→List ByteArray→Option (List ByteArray)
 |[],ns=>some ns
 |k::r,ns=>if badP ds k ns then none else namesE ds r (ns++[(dat ds k).name])
def letsE (ds:List Dat):List Nat→List ByteArray→List Nat→Option (List ByteArray × List Nat)
 |[],ns,vs=>some (ns,vs)
 |k::r,ns,vs=>if (kidsD ds k).length≠2 then none else if badP ds ((kidsD ds k).getD 0 0) ns then none else letsE ds r (ns++[(dat ds ((kidsD ds k).getD 0 0)).name]) (vs++[(kidsD ds k).getD 1 0])
abbrev Gx:=Nat→Int→Sco→List Cor→Ex
def lamE (ds:List Dat) (g:Gx) (ks:List Nat) (p:Int) (sc:Sco) (C:List Cor):Ex:=
 if ks.length≠3∨(dat ds (ks.getD 1 0)).kind≠4 then (C,1)
 else match namesE ds (kidsD ds (ks.getD 1 0)) [] with
  |none=>(C,1)
  |some ns=>if 3<ns.length then (C,2) else g (ks.getD 2 0) (C.length:Int) (ns::sc) (C++[nodC 5 p ns.length])
def letE (ds:List Dat) (g:Gx) (ks:List Nat) (p:Int) (sc:Sco) (C:List Cor):Ex:=
 if ks.length≠3∨(dat ds (ks.getD 1 0)).kind≠4 then (C,1)
 else match letsE ds (kidsD ds (ks.getD 1 0)) [] [] with
  |none=>(C,1)
  |some (ns,vs)=>if 3<ns.length then (C,2)
   else if (g (ks.getD 2 0) ((C.length+1:Nat):Int) (ns::sc) (C++[nodC 9 p 0]++[nodC 5 (C.length:Int) ns.length])).2≠0 then g (ks.getD 2 0) ((C.length+1:Nat):Int) (ns::sc) (C++[nodC 9 p 0]++[nodC 5 (C.length:Int) ns.length])
   else allE (fun k C'=>g k (C.length:Int) sc C') vs (g (ks.getD 2 0) ((C.length+1:Nat):Int) (ns::sc) (C++[nodC 9 p 0]++[nodC 5 (C.length:Int) ns.length])).1
def asgE (ds:List Dat) (g:Gx) (ks:List Nat) (p:Int) (sc:Sco) (C:List Cor) (kind:Int):Ex:=
 if ks.length≠3∨(kind=8∧p≠ -1) then (C,1)
 else if badP ds (ks.getD 1 0) [] then (C,1)
 else if (findE sc (dat ds (ks.getD 1 0)).name).isSome then (C,1)
 else g (ks.getD 2 0) (C.length:Int) sc (C++[nmdC kind p (dat ds (ks.getD 1 0)).name])
def formE (ds:List Dat) (g:Gx) (w:ByteArray) (ks:List Nat) (p:Int) (sc:Sco) (C:List Cor):Ex:=
 if w=⟨#[113,117,111,116,101]⟩ then (if ks.length≠2 then (C,1) else (C++[konC p (subD ds (ks.getD 1 0))],0))
 else if w=⟨#[105,102]⟩ then (if ks.length≠4 then (C,1) else allE (fun k C'=>g k (C.length:Int) sc C') (ks.drop 1) (C++[nodC 4 p 0]))
 else if w=⟨#[98,101,103,105,110]⟩ then (if ks.length<2 then (C,1) else allE (fun k C'=>g k (C.length:Int) sc C') (ks.drop 1) (C++[nodC 6 p 0]))
 else if w=⟨#[108,97,109,98,100,97]⟩ then lamE ds g ks p sc C
 else if w=⟨#[108,101,116]⟩ then letE ds g ks p sc C
 else if w=⟨#[100,101,102,105,110,101]⟩ then asgE ds g ks p sc C 8
 else asgE ds g ks p sc C 7
def expE (ds:List Dat):Nat→Gx
 |0,_,_,_,C=>(C,1)
 |f+1,x,p,sc,C=>
  if (dat ds x).kind=1∨(dat ds x).kind=2 then (C++[konC p (subD ds x)],0)
  else if (dat ds x).kind=3 then
   (if kwB (dat ds x).name then (C,1)
   else match findE sc (dat ds x).name with
    |some (a,b)=>(C++[locC p a b],0)
    |none=>(C++[nmdC 3 p (dat ds x).name],0))
  else if (kidsD ds x).length=0 then (C,1)
  else if (dat ds ((kidsD ds x).getD 0 0)).kind=3∧kwB (dat ds ((kidsD ds x).getD 0 0)).name=true then formE ds (expE ds f) (dat ds ((kidsD ds x).getD 0 0)).name (kidsD ds x) p sc C
  else if 4<(kidsD ds x).length then (C,2)
  else allE (fun k C'=>expE ds f k (C.length:Int) sc C') (kidsD ds x) (C++[nodC 9 p 0])
def expR (ds:List Dat):Ex:=
 if dataF ds≠0 then ([],dataF ds)
 else if (expE ds ds.length 0 (-1) [] []).2≠0 then ([],(expE ds ds.length 0 (-1) [] []).2)
 else if 160<(expE ds ds.length 0 (-1) [] []).1.length then ([],2)
 else ((expE ds ds.length 0 (-1) [] []).1,0)
def cntC (S:List Cor) (q:Int):Nat:=(S.filter fun c=>decide (c.parent=q)).length
theorem cnt_app (S T:List Cor) (q:Int):cntC (S++T) q=cntC S q+cntC T q:=by simp [cntC]
theorem cnt_cons (c:Cor) (S:List Cor) (q:Int):cntC (c::S) q=(if c.parent=q then 1 else 0)+cntC S q:=by
 unfold cntC
 rw [List.filter_cons]
 split
 ·rename_i h;rw [if_pos (by simpa using h)];simp;omega
 ·rename_i h;rw [if_neg (by simpa using h)];omega
theorem corAt_mem {S:List Cor} {c:Cor} (h:c∈S):∃i,i<S.length∧corAt S i=c:=by
 obtain ⟨i,hi,rfl⟩:=List.getElem_of_mem h
 exact ⟨i,hi,by simp [corAt,List.getD,hi]⟩
theorem cnt_zero {S:List Cor} {q:Int} (h:∀i,i<S.length→(corAt S i).parent≠q):cntC S q=0:=by
 unfold cntC
 rw [List.length_eq_zero_iff,List.filter_eq_nil_iff]
 intro c hc
 obtain ⟨i,hi,rfl⟩:=corAt_mem hc
 simpa using h i hi
theorem corAt_left {S T:List Cor} {i:Nat} (h:i<S.length):corAt (S++T) i=corAt S i:=by simp [corAt,List.getD,List.getElem?_append_left h]
theorem corAt_right {S T:List Cor} {i:Nat} (h:S.length≤i):corAt (S++T) i=corAt T (i - S.length):=by simp [corAt,List.getD,List.getElem?_append_right h]
structure Seg (n:Nat) (p:Int) (S:List Cor) (k:Nat):Prop where
 lt:p<n
 par:∀i,i<S.length→(corAt S i).parent=p∨((n:Int)≤(corAt S i).parent∧(corAt S i).parent<(n:Int)+i)
 cnt:cntC S p=k
 kid:∀i,i<S.length→hasK (corAt S i).kind (cntC S ((n+i:Nat):Int))
 kind:∀i,i<S.length→1≤(corAt S i).kind∧(corAt S i).kind≤9
 data:∀i,i<S.length→(corAt S i).data.length≤80
theorem Seg.nil {n:Nat} {p:Int} (h:p<n):Seg n p [] 0:=⟨h,(fun i h=>by simp at h),rfl,(fun i h=>by simp at h),(fun i h=>by simp at h),fun i h=>by simp at h⟩
theorem Seg.cat {n k l:Nat} {p:Int} {S T:List Cor} (h:Seg n p S k) (g:Seg (n+S.length) p T l):Seg n p (S++T) (k+l):=by
 have hlt:=h.lt
 refine ⟨h.lt,fun i hi=>?_,by rw [cnt_app,h.cnt,g.cnt],fun i hi=>?_,fun i hi=>?_,fun i hi=>?_⟩
 ·by_cases c:i<S.length
  ·rw [corAt_left c];exact h.par i c
  ·rw [corAt_right (by omega)]
   have:=g.par (i - S.length) (by rw [List.length_append] at hi;omega)
   omega
 ·by_cases c:i<S.length
  ·rw [corAt_left c,cnt_app,cnt_zero (S:=T),Nat.add_zero]
   ·exact h.kid i c
   ·intro j hj
    have:=g.par j hj
    omega
  ·rw [corAt_right (by omega),cnt_app,cnt_zero (S:=S),Nat.zero_add]
   ·have:=g.kid (i - S.length) (by rw [List.length_append] at hi;omega)
    rwa [show n+S.length+(i - S.length)=n+i by omega] at this
   ·intro j hj
    have:=h.par j hj
    omega
 ·by_cases c:i<S.length
  ·rw [corAt_left c];exact h.kind i c
  ·rw [corAt_right (by omega)];exact g.kind _ (by rw [List.length_append] at hi;omega)
 ·by_cases c:i<S.length
  ·rw [corAt_left c];exact h.data i c
  ·rw [corAt_right (by omega)];exact g.data _ (by rw [List.length_append] at hi;omega)
theorem Seg.node {n k:Nat} {p:Int} {c:Cor} {S:List Cor} (h:Seg (n+1) (n:Int) S k) (hp:p<n) (hc:c.parent=p) (hk:hasK c.kind k) (hr:1≤c.kind∧c.kind≤9) (hd:c.data.length≤80):Seg n p (c::S) 1:=by
 have e0:corAt (c::S) 0=c:=rfl
 have e1:∀i,corAt (c::S) (i+1)=corAt S i:=fun i=>by simp [corAt]
 refine ⟨hp,fun i hi=>?_,?_,fun i hi=>?_,fun i hi=>?_,fun i hi=>?_⟩
 ·cases i with
  |zero=>rw [e0];exact .inl hc
  |succ i=>
   rw [e1]
   have:=h.par i (by simpa using hi)
   omega
 ·rw [cnt_cons,if_pos hc,cnt_zero]
  intro i hi
  have:=h.par i hi
  omega
 ·cases i with
  |zero=>
   rw [e0,cnt_cons,if_neg (by omega),Nat.zero_add,Nat.add_zero,h.cnt];exact hk
  |succ i=>
   rw [e1,cnt_cons,if_neg (by omega),Nat.zero_add]
   have:=h.kid i (by simpa using hi)
   rwa [show n+1+i=n+(i+1) by omega] at this
 ·cases i with
  |zero=>exact hr
  |succ i=>rw [e1];exact h.kind i (by simpa using hi)
 ·cases i with
  |zero=>exact hd
  |succ i=>rw [e1];exact h.data i (by simpa using hi)
def Grows (r:Ex) (C:List Cor) (p:Int) (k:Nat):Prop:=r.2=0→∃S,r.1=C++S∧Seg C.length p S k
theorem all_grows {p:Int} {g:Nat→List Cor→Ex} (hg:∀k C,p<(C.length:Int)→Grows (g k C) C p 1):∀ks C,p<(C.length:Int)→Grows (allE g ks C) C p ks.length:=by
 intro ks
 induction ks with
 |nil=>intro C hp _;exact ⟨[],by simp [allE],.nil hp⟩
 |cons k r ih=>
  intro C hp h
  rw [allE] at h ⊢
  by_cases c:(g k C).2=0
  ·rw [if_neg (by simpa using c)] at h ⊢
   obtain ⟨S,e,hs⟩:=hg k C hp c
   rw [e] at h ⊢
   obtain ⟨T,e2,ht⟩:=ih (C++S) (by simp;omega) h
   refine ⟨S++T,by rw [e2,List.append_assoc],?_⟩
   rw [List.length_append] at ht
   have:=hs.cat ht
   rwa [List.length_cons,Nat.add_comm r.length 1]
  ·rw [if_pos (by simpa using c)] at h
   exact absurd h c
theorem one_grows {C:List Cor} {p:Int} {c:Cor} (hp:p<(C.length:Int)) (hc:c.parent=p) (hk:hasK c.kind 0) (hr:1≤c.kind∧c.kind≤9) (hd:c.data.length≤80):Grows (C++[c],0) C p 1:=
 fun _=>⟨[c],rfl,(Seg.nil (n:=C.length+1) (p:=(C.length:Int)) (by omega)).node hp hc hk hr hd⟩
theorem node_grows {C:List Cor} {p:Int} {c:Cor} {r:Ex} {k:Nat} (h:Grows r (C++[c]) (C.length:Int) k) (hp:p<(C.length:Int)) (hc:c.parent=p) (hk:r.2=0→hasK c.kind k) (hr:1≤c.kind∧c.kind≤9) (hd:c.data.length≤80):Grows r C p 1:=by
 intro h0
 obtain ⟨S,e,hs⟩:=h h0
 rw [List.length_append] at hs
 exact ⟨c::S,by rw [e,List.append_assoc];rfl,hs.node hp hc (hk h0) hr hd⟩
theorem no_grows {C D:List Cor} {p:Int} {k:Nat} {e:Int} (h:e≠0):Grows (D,e) C p k:=fun h0=>absurd h0 h
section
variable {ds:List Dat}
abbrev GrowsG (g:Gx):Prop:=∀x p sc C,p<(C.length:Int)→Grows (g x p sc C) C p 1
theorem lam_grows {g:Gx} (hg:GrowsG g) {ks:List Nat} {p:Int} {sc:Sco} {C:List Cor} (hp:p<(C.length:Int)):Grows (lamE ds g ks p sc C) C p 1:=by
 unfold lamE
 split
 ·exact no_grows (by decide)
 ·split
  ·exact no_grows (by decide)
  ·split
   ·exact no_grows (by decide)
   ·exact node_grows (hg _ _ _ _ (by simp;omega)) hp rfl (fun _=>by simp [hasK,nodC]) (by simp [nodC]) (by simp [nodC])
theorem let_grows {g:Gx} (hg:GrowsG g) {ks:List Nat} {p:Int} {sc:Sco} {C:List Cor} (hp:p<(C.length:Int)) (hl:∀ns vs,letsE ds (kidsD ds (ks.getD 1 0)) [] []=some (ns,vs)→vs.length=ns.length):Grows (letE ds g ks p sc C) C p 1:=by
 unfold letE
 split
 ·exact no_grows (by decide)
 ·split
  ·exact no_grows (by decide)
  ·rename_i ns vs e
   have hvl:=hl ns vs e
   split
   ·exact no_grows (by decide)
   ·rename_i h3
    refine node_grows (c:=nodC 9 p 0) (k:=vs.length+1) ?_ hp rfl (fun _=>?_) (by simp [nodC]) (by simp [nodC])
    ·have hb:Grows (g (ks.getD 2 0) ((C.length+1:Nat):Int) (ns::sc) (C++[nodC 9 p 0]++[nodC 5 (C.length:Int) ns.length])) (C++[nodC 9 p 0]) (C.length:Int) 1:=by
      refine node_grows (c:=nodC 5 (C.length:Int) ns.length) (k:=1) ?_ (by simp;omega) rfl (fun _=>by simp [hasK,nodC]) (by simp [nodC]) (by simp [nodC])
      have:=hg (ks.getD 2 0) ((C.length+1:Nat):Int) (ns::sc) (C++[nodC 9 p 0]++[nodC 5 (C.length:Int) ns.length]) (by simp)
      simpa using this
     generalize g (ks.getD 2 0) ((C.length+1:Nat):Int) (ns::sc) (C++[nodC 9 p 0]++[nodC 5 (C.length:Int) ns.length])=r at hb ⊢
     split
     ·rename_i hne;exact fun h0=>absurd h0 hne
     ·rename_i hne
      obtain ⟨S,e1,hs⟩:=hb (by simpa using hne)
      intro h0
      rw [e1] at h0 ⊢
      obtain ⟨T,e2,ht⟩:=all_grows (p:=(C.length:Int)) (g:=fun k C'=>g k (C.length:Int) sc C') (fun k C' h=>hg _ _ _ _ h) vs (C++[nodC 9 p 0]++S) (by simp;omega) h0
      refine ⟨S++T,by rw [e2,List.append_assoc],?_⟩
      rw [List.length_append] at ht
      have:=hs.cat ht
      rwa [Nat.add_comm 1] at this
    ·rw [hvl];simp [hasK,nodC];omega
theorem asg_grows {g:Gx} (hg:GrowsG g) {ks:List Nat} {p kind:Int} {sc:Sco} {C:List Cor} (hp:p<(C.length:Int)) (hk:kind=7∨kind=8):Grows (asgE ds g ks p sc C kind) C p 1:=by
 unfold asgE
 split
 ·exact no_grows (by decide)
 ·split
  ·exact no_grows (by decide)
  ·split
   ·exact no_grows (by decide)
   ·exact node_grows (hg _ _ _ _ (by simp;omega)) hp rfl (fun _=>by rcases hk with rfl|rfl<;>simp [hasK,nmdC]) (by rcases hk with rfl|rfl<;>simp [nmdC]) (by simp [nmdC])
theorem lets_len:∀(l:List Nat) (ns:List ByteArray) (vs:List Nat) (ns':List ByteArray) (vs':List Nat),ns.length=vs.length→letsE ds l ns vs=some (ns',vs')→vs'.length=ns'.length:=by
 intro l
 induction l with
 |nil=>intro ns vs ns' vs' h e;simp only [letsE,Option.some.injEq,Prod.mk.injEq] at e;rw [←e.1,←e.2,h]
 |cons k r ih=>
  intro ns vs ns' vs' h e
  rw [letsE] at e
  split at e
  ·cases e
  ·split at e
   ·cases e
   ·exact ih _ _ _ _ (by simp [h]) e
theorem form_grows {g:Gx} (hl:ds.length≤80) (hg:GrowsG g) {w:ByteArray} {ks:List Nat} {p:Int} {sc:Sco} {C:List Cor} (hp:p<(C.length:Int)):Grows (formE ds g w ks p sc C) C p 1:=by
 unfold formE
 split
 ·split
  ·exact no_grows (by decide)
  ·exact one_grows hp rfl (by simp [hasK,konC]) (by simp [konC]) (Nat.le_trans (subD_le ..) hl)
 split
 ·split
  ·exact no_grows (by decide)
  ·rename_i h4
   exact node_grows (all_grows (fun k C' h=>hg _ _ _ _ h) _ _ (by simp;omega)) hp rfl (fun _=>by simp [hasK,nodC];omega) (by simp [nodC]) (by simp [nodC])
 split
 ·split
  ·exact no_grows (by decide)
  ·rename_i h4
   exact node_grows (all_grows (fun k C' h=>hg _ _ _ _ h) _ _ (by simp;omega)) hp rfl (fun _=>by simp [hasK,nodC];omega) (by simp [nodC]) (by simp [nodC])
 split
 ·exact lam_grows hg hp
 split
 ·exact let_grows hg hp fun ns vs e=>lets_len _ _ _ _ _ rfl e
 split
 ·exact asg_grows hg hp (.inr rfl)
 ·exact asg_grows hg hp (.inl rfl)
theorem exp_grows (hl:ds.length≤80):∀f,GrowsG (expE ds f):=by
 intro f
 induction f with
 |zero=>intro x p sc C _;exact no_grows (by decide)
 |succ f ih=>
  intro x p sc C hp
  rw [expE]
  split
  ·exact one_grows hp rfl (by simp [hasK,konC]) (by simp [konC]) (Nat.le_trans (subD_le ..) hl)
  split
  ·split
   ·exact no_grows (by decide)
   ·split
    ·exact one_grows hp rfl (by simp [hasK,locC]) (by simp [locC]) (by simp [locC])
    ·exact one_grows hp rfl (by simp [hasK,nmdC]) (by simp [nmdC]) (by simp [nmdC])
  split
  ·exact no_grows (by decide)
  rename_i hne
  split
  ·exact form_grows hl ih hp
  split
  ·exact no_grows (by decide)
  ·exact node_grows (all_grows (fun k C' h=>ih _ _ _ _ h) _ _ (by simp;omega)) hp rfl (fun _=>by simp [hasK,nodC];omega) (by simp [nodC]) (by simp [nodC])
theorem cnt_kids (S:List Cor) (q:Nat):(kidsC S q).length=cntC S (q:Int):=by
 unfold kidsC cntC
 have h:S=(List.range S.length).map (corAt S):=by
  apply List.ext_getElem (by simp)
  intro i h1 h2
  simp [corAt,List.getD,h1]
 conv=>rhs;rw [h]
 rw [List.filter_map,List.length_map]
 rfl
theorem dataF_len (h:dataF ds=0):1≤ds.length∧ds.length≤80:=by
 unfold dataF at h
 split at h
 ·rename_i c;simp only [inB,Bool.and_eq_true,decide_eq_true_iff] at c;omega
 ·cases h
theorem expR_wf (h:(expR ds).2=0):WfC (expR ds).1∧∀i,(corAt (expR ds).1 i).data.length≤80:=by
 unfold expR at h ⊢
 split at h
 ·rename_i c;exact absurd h c
 rename_i hd
 rw [if_neg hd]
 split at h
 ·rename_i c;exact absurd h c
 rename_i he
 rw [if_neg he]
 split at h
 ·cases h
 rename_i hm
 rw [if_neg hm]
 obtain ⟨S,e,hs⟩:=exp_grows (dataF_len (by simpa using hd)).2 ds.length 0 (-1) [] [] (by simp) (by simpa using he)
 rw [List.nil_append] at e
 rw [e] at hm ⊢
 have hlt:=hs.lt
 have hne:S≠[]:=by rintro rfl;have:=hs.cnt;simp [cntC] at this
 have hp0:0<S.length:=List.length_pos_iff.2 hne
 have h0:(corAt S 0).parent= -1:=by have:=hs.par 0 hp0;simp only [List.length_nil] at this;omega
 refine ⟨⟨⟨hp0,by simpa using hm⟩,hs.kind,h0,fun i hi hl=>?_,fun i hi=>?_⟩,fun i=>?_⟩
 ·have hi':=hs.par i hl
  simp only [List.length_nil] at hi'
  rcases hi' with c|c
  ·exfalso
   have hc:=hs.cnt
   obtain ⟨c0,r,rfl⟩:∃c0 r,S=c0::r:=by
    match S,hne with
    |c0::r,_=>exact ⟨c0,r,rfl⟩
   rw [cnt_cons,if_pos (show c0.parent= -1 from h0)] at hc
   have hz:cntC r (-1)=0:=by omega
   have hm:corAt (c0::r) i∈r:=by
    obtain ⟨j,rfl⟩:∃j,i=j+1:=⟨i - 1,by omega⟩
    have hj:j<r.length:=by simpa using hl
    have:corAt (c0::r) (j+1)=r[j]:=by simp [corAt,List.getD,hj]
    rw [this];exact List.getElem_mem hj
   unfold cntC at hz
   rw [List.length_eq_zero_iff,List.filter_eq_nil_iff] at hz
   exact hz _ hm (by simpa using c)
  ·omega
 ·rw [cnt_kids]
  have:=hs.kid i hi
  simpa using this
 ·by_cases c:i<S.length
  ·exact hs.data i c
  ·unfold corAt
   simp [List.getD,List.getElem?_eq_none (Nat.le_of_not_lt c)]
   exact Nat.zero_le _
end
end Go.Proofs.YtbppopcpgcgkkaaGreatDoor.E
/- Forms that are expanded to cores: how many cores. No program in sight. -/
namespace Go.Proofs.YtbppopcpgcgkkaaGreatDoor.E
open Go Go.RowKit
def fakC (ds:List Dat):List Cor:=(List.range ds.length).map fun i=>nodC (if kidsD ds i=[] then 3 else 6) (dat ds i).parent 0
section
variable {ds:List Dat} [L:Lam]
theorem fak_len:(fakC ds).length=ds.length:=by simp [fakC]
theorem fak_at {i:Nat} (h:i<ds.length):corAt (fakC ds) i=nodC (if kidsD ds i=[] then 3 else 6) (dat ds i).parent 0:=by simp [corAt,fakC,List.getD,h]
theorem fak_kids (x:Nat):kidsC (fakC ds) x=kidsD ds x:=by
 unfold kidsC
 rw [fak_len]
 unfold kidsD
 refine List.filter_congr fun i hi=>?_
 rw [fak_at (List.mem_range.1 hi)]
 rfl
theorem datF_par2 {i:Nat} (h:datF ds i=0):(i=0→(dat ds i).parent= -1)∧(0<i→0≤(dat ds i).parent∧(dat ds i).parent<i)∧1≤(dat ds i).kind∧(dat ds i).kind≤4:=by
 unfold datF at h
 split at h
 ·cases h
 rename_i hb
 have hk:1≤(dat ds i).kind∧(dat ds i).kind≤4:=by
  simp only [bareB,inB,Bool.and_eq_true,decide_eq_true_iff,Bool.not_eq_false] at hb
  exact hb.1.1
 split at h
 ·rename_i hk;exact absurd h hk
 split at h
 ·rename_i h0
  split at h
  ·cases h
  ·rename_i h1;exact ⟨fun _=>by simpa using h1,fun c=>by omega,hk⟩
 ·rename_i h0
  split at h
  ·cases h
  ·rename_i h1
   simp only [inB,Bool.and_eq_true,decide_eq_true_iff,Bool.not_eq_false] at h1
   exact ⟨fun c=>absurd c h0,fun _=>by omega,hk⟩
structure DOk (ds:List Dat):Prop where
 len:1≤ds.length∧ds.length≤80
 top:(dat ds 0).parent= -1
 par:∀i,0<i→i<ds.length→0≤(dat ds i).parent∧(dat ds i).parent<i
 kind:∀i,i<ds.length→1≤(dat ds i).kind∧(dat ds i).kind≤4
 pars:∀i,i≤ds.length→Pars ds i
theorem DOk.of (h:dataF ds=0):DOk ds:=by
 have hl:=dataF_len h
 have hz:∀j,j<ds.length→datF ds j=0:=by
  unfold dataF at h
  split at h
  ·intro j hj;exact firstF_zero _ _ h j (Nat.zero_le _) (by omega)
  ·cases h
 exact ⟨hl,(datF_par2 (hz 0 (by omega))).1 rfl,fun i hi hl=>(datF_par2 (hz i hl)).2.1 hi,fun i hl=>(datF_par2 (hz i hl)).2.2,fun i hi=>pars_of fun j hj=>hz j (by omega)⟩
theorem mem_kidsD {x k:Nat}:k∈kidsD ds x↔k<ds.length∧(dat ds k).parent=(x:Int):=by simp [kidsD]
theorem DOk.kid (h:DOk ds) {x k:Nat} (hk:k∈kidsD ds x):x<k∧k<ds.length:=by
 obtain ⟨h1,h2⟩:=mem_kidsD.1 hk
 have h0:0<k:=by
  rcases Nat.eq_zero_or_pos k with c|c
  ·subst c;rw [h.top] at h2;omega
  ·exact c
 have:=h.par k h0 h1
 omega
theorem DOk.fak (h:DOk ds):WfC (fakC ds):=by
 have hl:=h.len
 refine ⟨by rw [fak_len];omega,fun i hi=>?_,?_,fun i h0 hi=>?_,fun i hi=>?_⟩
 ·rw [fak_len] at hi
  rw [fak_at hi]
  simp only [nodC]
  split<;>omega
 ·rw [fak_at (by omega)];exact h.top
 ·rw [fak_len] at hi
  rw [fak_at hi];exact h.par i h0 hi
 ·rw [fak_len] at hi
  rw [fak_at hi,fak_kids]
  simp only [nodC]
  split
  ·rename_i c;rw [c];simp [hasK]
  ·rename_i c
   have:=List.length_pos_iff.2 c
   simp [hasK];omega
theorem flat_congr {X Y:Type} {f g:X→List Y}:∀l:List X,(∀x,x∈l→f x=g x)→l.flatMap f=l.flatMap g:=by
 intro l
 induction l with
 |nil=>intro _;rfl
 |cons x r ih=>intro h;rw [List.flatMap_cons,List.flatMap_cons,h x (by simp),ih fun y hy=>h y (by simp [hy])]
theorem vis_stab {cs:List Cor} (hw:WfC cs):∀f x,x<cs.length→cs.length≤f+x→vis cs (f+1) x=vis cs f x:=by
 intro f
 induction f with
 |zero=>intro x h1 h2;omega
 |succ f ih=>
  intro x h1 h2
  rw [vis]
  conv=>rhs;rw [vis]
  rw [flat_congr (kidsC cs x) fun k hk=>ih k (hw.kid hk).2 (by have:=hw.kid hk;omega)]
def nv (ds:List Dat) (x:Nat):Nat:=(vis (fakC ds) ds.length x).length
def nvK (ds:List Dat) (ks:List Nat):Nat:=(ks.map (nv ds)).sum
theorem nvK_cons (k:Nat) (r:List Nat):nvK ds (k::r)=nv ds k+nvK ds r:=by simp [nvK]
theorem nvK_app (a b:List Nat):nvK ds (a++b)=nvK ds a+nvK ds b:=by simp [nvK]
theorem nv_eq (h:DOk ds) {x:Nat} (hx:x<ds.length):nv ds x=1+nvK ds (kidsD ds x):=by
 have hl:=h.len
 obtain ⟨n,hn⟩:∃n,ds.length=n+1:=⟨ds.length - 1,by omega⟩
 unfold nv
 rw [hn,vis_len,fak_kids]
 congr 1
 unfold visK nvK nv
 congr 1
 refine List.map_congr_left fun k hk=>?_
 have:=h.kid hk
 rw [hn,vis_stab h.fak n k (by rw [fak_len];omega) (by rw [fak_len];omega)]
theorem nv_bound (h:DOk ds) {x:Nat} (hx:x<ds.length):nv ds x≤160:=vis_bound h.fak _ _ (by rw [fak_len];exact hx)
theorem nvK_mem {ks:List Nat} {j:Nat} (h:j<ks.length):nvK ds ks=nvK ds (ks.take j)+(nv ds (ks.getD j 0)+nvK ds (ks.drop (j+1))):=by
 have e:ks.getD j 0=ks[j]:=by simp [List.getD,h]
 rw [e]
 have h1:=nvK_app (ds:=ds) (ks.take j) (ks.drop j)
 rw [List.take_append_drop,List.drop_eq_getElem_cons h,nvK_cons] at h1
 exact h1
theorem nvK_one {ks:List Nat} {j:Nat} (h:j<ks.length):nv ds (ks.getD j 0)≤nvK ds ks:=by rw [nvK_mem h];omega
theorem nvK_drop (ks:List Nat) (j:Nat):nvK ds (ks.drop j)≤nvK ds ks:=by
 have h1:=nvK_app (ds:=ds) (ks.take j) (ks.drop j)
 rw [List.take_append_drop] at h1
 omega
theorem getD_mem {ks:List Nat} {j:Nat} (h:j<ks.length):ks.getD j 0∈ks:=by
 have e:ks.getD j 0=ks[j]:=by simp [List.getD,h]
 rw [e];exact List.getElem_mem h
theorem lets_nv (h:DOk ds):∀(l:List Nat) (ns:List ByteArray) (vs:List Nat) (ns':List ByteArray) (vs':List Nat),(∀k,k∈l→k<ds.length)→letsE ds l ns vs=some (ns',vs')→nvK ds vs'≤nvK ds vs+nvK ds l∧∀v,v∈vs'→v∈vs∨(v<ds.length∧∃k,k∈l∧k<v):=by
 intro l
 induction l with
 |nil=>
  intro ns vs ns' vs' _ e
  simp only [letsE,Option.some.injEq,Prod.mk.injEq] at e
  rw [←e.2]
  exact ⟨by omega,fun v hv=> .inl hv⟩
 |cons k r ih=>
  intro ns vs ns' vs' hl e
  rw [letsE] at e
  split at e
  ·cases e
  ·rename_i h2
   split at e
   ·cases e
   ·have h2':(kidsD ds k).length=2:=by omega
    obtain ⟨g1,g2⟩:=ih _ _ _ _ (fun q hq=>hl q (by simp [hq])) e
    have hk:=hl k (by simp)
    have hm:=getD_mem (ks:=kidsD ds k) (j:=1) (by omega)
    have ho:=nvK_one (ds:=ds) (ks:=kidsD ds k) (j:=1) (by omega)
    have he:=nv_eq h hk
    rw [nvK_app,nvK_cons] at g1
    have e0:nvK ds []=0:=rfl
    refine ⟨by rw [nvK_cons];omega,fun v hv=>?_⟩
    rcases g2 v hv with c|⟨c,q,c2,c3⟩
    ·rcases List.mem_append.1 c with c|c
     ·exact .inl c
     ·obtain rfl:=List.mem_singleton.1 c
      exact .inr ⟨(h.kid hm).2,k,by simp,(h.kid hm).1⟩
    ·exact .inr ⟨c,q,by simp [c2],c3⟩
def Less (ds:List Dat) (g:Gx):Prop:=∀x p sc C,x<ds.length→(g x p sc C).1.length≤C.length+2*nv ds x
theorem all_less {g:Nat→List Cor→Ex}:∀(ks:List Nat) (C:List Cor),(∀k C,k∈ks→(g k C).1.length≤C.length+2*nv ds k)→(allE g ks C).1.length≤C.length+2*nvK ds ks:=by
 intro ks
 induction ks with
 |nil=>intro C _;simp [allE]
 |cons k r ih=>
  intro C h
  have h1:=h k C (by simp)
  rw [allE,nvK_cons]
  split
  ·omega
  ·have:=ih (g k C).1 fun q C hq=>h q C (by simp [hq])
   omega
theorem form_less (h:DOk ds) {g:Gx} (hg:Less ds g) {w:ByteArray} {x:Nat} {p:Int} {sc:Sco} {C:List Cor} (hx:x<ds.length):(formE ds g w (kidsD ds x) p sc C).1.length≤C.length+2*nv ds x:=by
 have he:=nv_eq h hx
 have hk:∀k,k∈kidsD ds x→k<ds.length:=fun k hk=>(h.kid hk).2
 have hal:∀c,(allE (fun k C'=>g k (C.length:Int) sc C') ((kidsD ds x).drop 1) (C++[c])).1.length≤C.length+2*nv ds x:=fun c=>by
  have h1:=all_less (ds:=ds) (g:=fun k C'=>g k (C.length:Int) sc C') ((kidsD ds x).drop 1) (C++[c]) fun k C' hm=>hg _ _ _ _ (hk k (List.mem_of_mem_drop hm))
  have h2:=nvK_drop (ds:=ds) (kidsD ds x) 1
  simp only [List.length_append,List.length_cons,List.length_nil] at h1
  omega
 unfold formE
 split
 ·split
  ·simp
  ·simp;omega
 split
 ·split
  ·simp
  ·exact hal _
 split
 ·split
  ·simp
  ·exact hal _
 split
 ·unfold lamE
  split
  ·simp
  ·rename_i h3
   have h3':(kidsD ds x).length=3:=by omega
   split
   ·simp
   ·split
    ·simp
    ·rename_i ns _ _
     have h1:=hg ((kidsD ds x).getD 2 0) (C.length:Int) (ns::sc) (C++[nodC 5 p ns.length]) (hk _ (getD_mem (by omega)))
     have h2:=nvK_one (ds:=ds) (ks:=kidsD ds x) (j:=2) (by omega)
     simp only [List.length_append,List.length_cons,List.length_nil] at h1
     omega
 split
 ·unfold letE
  split
  ·simp
  ·rename_i h3
   have h3':(kidsD ds x).length=3:=by omega
   split
   ·simp
   ·rename_i ns vs e
    split
    ·simp
    ·have h1:=hg ((kidsD ds x).getD 2 0) ((C.length+1:Nat):Int) (ns::sc) (C++[nodC 9 p 0]++[nodC 5 (C.length:Int) ns.length]) (hk _ (getD_mem (by omega)))
     have m1:=nvK_mem (ds:=ds) (ks:=kidsD ds x) (j:=1) (by omega)
     have m2:=nvK_one (ds:=ds) (ks:=(kidsD ds x).drop 2) (j:=0) (by rw [List.length_drop];omega)
     have e2:((kidsD ds x).drop 2).getD 0 0=(kidsD ds x).getD 2 0:=by simp [List.getD]
     rw [e2] at m2
     simp only [Nat.reduceAdd] at m1
     have hk1:=hk _ (getD_mem (ks:=kidsD ds x) (j:=1) (by omega))
     have he1:=nv_eq h hk1
     have ll:=lets_nv h _ _ _ _ _ (fun k hk=>(h.kid hk).2) e
     have e0:nvK ds []=0:=rfl
     simp only [List.length_append,List.length_cons,List.length_nil] at h1
     generalize g ((kidsD ds x).getD 2 0) ((C.length+1:Nat):Int) (ns::sc) (C++[nodC 9 p 0]++[nodC 5 (C.length:Int) ns.length])=r at h1 ⊢
     split
     ·omega
     ·have h4:=all_less (ds:=ds) (g:=fun k C'=>g k (C.length:Int) sc C') vs r.1 fun k C' hm=>hg _ _ _ _ (by
       rcases ll.2 k hm with c|c
       ·cases c
       ·exact c.1)
      omega
 have asg:∀kind,(asgE ds g (kidsD ds x) p sc C kind).1.length≤C.length+2*nv ds x:=fun kind=>by
  unfold asgE
  split
  ·simp
  ·rename_i h3
   have h3':(kidsD ds x).length=3:=by omega
   split
   ·simp
   ·split
    ·simp
    ·have h1:=hg ((kidsD ds x).getD 2 0) (C.length:Int) sc (C++[nmdC kind p (dat ds ((kidsD ds x).getD 1 0)).name]) (hk _ (getD_mem (by omega)))
     have h2:=nvK_one (ds:=ds) (ks:=kidsD ds x) (j:=2) (by omega)
     simp only [List.length_append,List.length_cons,List.length_nil] at h1
     omega
 split
 ·exact asg 8
 ·exact asg 7
theorem exp_less (h:DOk ds):∀f,Less ds (expE ds f):=by
 intro f
 induction f with
 |zero=>intro x p sc C _;simp [expE]
 |succ f ih=>
  intro x p sc C hx
  have he:=nv_eq h hx
  rw [expE]
  split
  ·simp;omega
  split
  ·split
   ·simp
   ·split
    ·simp;omega
    ·simp;omega
  split
  ·simp
  split
  ·exact form_less h ih hx
  split
  ·simp
  ·have h1:=all_less (ds:=ds) (g:=fun k C'=>expE ds f k (C.length:Int) sc C') (kidsD ds x) (C++[nodC 9 p 0]) fun k C' hm=>ih _ _ _ _ (h.kid hm).2
   simp only [List.length_append,List.length_cons,List.length_nil] at h1
   omega
abbrev Frs:=List (List ByteArray × Int)
inductive Chain (F:Frs):Int→Sco→Prop
 |nil:Chain F (-1) []
 |cons {i:Nat} {ns:List ByteArray} {out:Int} {sc:Sco}:F[i]? =some (ns,out)→out<(i:Int)→Chain F out sc→Chain F (i:Int) (ns::sc)
theorem Chain.app {F:Frs} {f:Int} {sc:Sco} (h:Chain F f sc) (X:Frs):Chain (F++X) f sc:=by
 induction h with
 |nil=>exact .nil
 |cons h1 h2 _ ih=>
  refine .cons ?_ h2 ih
  rw [List.getElem?_append_left (List.getElem?_eq_some_iff.1 h1).1];exact h1
theorem Chain.lt {F:Frs} {f:Int} {sc:Sco} (h:Chain F f sc): -1≤f∧f<F.length:=by
 cases h with
 |nil=>omega
 |cons h1 _ _=>have:=(List.getElem?_eq_some_iff.1 h1).1;omega
theorem Chain.new {F:Frs} {f:Int} {sc:Sco} (h:Chain F f sc) (ns:List ByteArray):Chain (F++[(ns,f)]) (F.length:Int) (ns::sc):=
 .cons (by simp) h.lt.2 (h.app _)
end
end Go.Proofs.YtbppopcpgcgkkaaGreatDoor.E

import Derived.Test.YtggnjjalfnhiiaaGreatDoorPM15
/- A cell of fields: lists that grow and shrink, and values that stay. -/
set_option linter.unusedSectionVars false
set_option linter.unusedSimpArgs false
set_option linter.unusedVariables false
namespace Go.Proofs.YtggnjjalfnhiiaaGreatDoor.E
open Go Go.RowKit
set_option maxRecDepth 100000
variable [L:Lam]
variable {σ τ τ':AH} {R:AEnd→AH→Prop}
def Bfj (τ:AH) (sz:Nat) (a:AV) (es:List (List AV)):Prop:=
 ((a= .val (.slice none 0 0)∨a= .emp)∧es=[])∨∃φ st jk,a= .own φ st 0 es.length∧τ φ=some ⟨st,sz,es++jk⟩
section
variable {sz:Nat} {a:AV} {es:List (List AV)}
theorem Bfj.nil:Bfj τ sz (.val (.slice none 0 0)) []:= .inl ⟨.inl rfl,rfl⟩
theorem Bfj.len (h:Bfj τ sz a es):lenS a=some (iv (es.length:Int)):=by
 rcases h with ⟨rfl|rfl,rfl⟩|⟨φ,st,jk,rfl,_⟩<;>rfl
theorem Bfj.keep (h:Bfj τ sz a es) (hk:∀ψ,ψ∈famL a→τ' ψ=τ ψ):Bfj τ' sz a es:=by
 rcases h with h|⟨φ,st,jk,rfl,hF⟩
 ·exact .inl h
 ·exact .inr ⟨φ,st,jk,rfl,by rw [hk φ (by simp [famL])];exact hF⟩
theorem Bfj.live (h:Bfj τ sz a es) {ψ:Nat} (hm:ψ∈famL a):∃F,τ ψ=some F:=by
 rcases h with ⟨rfl|rfl,rfl⟩|⟨φ,st,jk,rfl,hF⟩
 ·cases hm
 ·cases hm
 ·obtain rfl:ψ=φ:=by simpa [famL] using hm
  exact ⟨_,hF⟩
theorem Bfj.one (h:Bfj τ sz a es):a.one=true:=by
 rcases h with ⟨rfl|rfl,rfl⟩|⟨φ,st,jk,rfl,_⟩<;>rfl
theorem Bfj.at (h:Bfj τ sz a es) {i:Nat} (hi:i<es.length):∃φ st,idx sz a (iv (i:Int)) τ=some (.ptr φ st i 0)∧∀off c,es[i][off]? =some c→lod (.ptr φ st i off) τ=some c:=by
 rcases h with ⟨_,rfl⟩|⟨φ,st,jk,rfl,hF⟩
 ·simp at hi
 ·refine ⟨φ,st,?_,fun off c hc=>Qz hF rfl ?_⟩
  ·have:=Jf (st:=st) (off:=0) hF hi
   rwa [Nat.zero_add] at this
  ·simp [List.getD,List.getElem?_append_left hi,List.getElem?_eq_getElem hi,hc]
theorem Bfj.app {x:AV} {xs:List (List AV)} {k:AV→AH→Prop} (h:Bfj τ sz a es) (hx:QF τ x=some xs) (hs:∀c,c∈xs→c.length=sz) (ho:∀c,c∈xs→∀y,y∈c→y.one=true) (hn:es.length+xs.length≤4294967296)
  (hk:∀a' τ',Bfj τ' sz a' (es++xs)→Kp (famL a) τ τ'→(∀ψ,ψ∈famL a'→ψ∈famL a∨τ ψ=none)→k a' τ'):E.app sz a x τ k:=by
 unfold E.app
 rw [hx]
 refine ⟨hs,?_⟩
 rcases h with ⟨rfl|rfl,rfl⟩|⟨φ,st,jk,rfl,hF⟩
 ·simp only
  refine ⟨by simpa using hn,?_,?_⟩
  ·rintro rfl
   exact hk _ _ (.inl ⟨.inl rfl,rfl⟩) (Kp.refl _ _) (fun ψ h=> .inl h)
  ·intro hne φ hφ
   refine hk _ _ (.inr ⟨φ,0,[],by simp,by simp⟩) (Kp.of_sub (.set (.refl τ) _ hφ)) (fun ψ e=>?_)
   obtain rfl:ψ=φ:=by simpa [famL] using e
   exact .inr hφ
 ·simp only
  refine ⟨by simpa using hn,?_,?_⟩
  ·rintro rfl
   exact hk _ _ (.inl ⟨.inr rfl,rfl⟩) (Kp.refl _ _) (fun ψ h=> .inl h)
  ·intro hne φ hφ
   refine hk _ _ (.inr ⟨φ,0,[],by simp,by simp⟩) (Kp.of_sub (.set (.refl τ) _ hφ)) (fun ψ e=>?_)
   obtain rfl:ψ=φ:=by simpa [famL] using e
   exact .inr hφ
 ·simp only [hF]
  refine ⟨trivial,trivial,by simp,by simpa using hn,ho,?_⟩
  refine hk _ _ (.inr ⟨φ,if 0+es.length+xs.length≤(es++jk).length then st else st+1,(es++jk).drop (0+es.length+xs.length),by simp,?_⟩) (fun ψ h _=>AH.set_ne' (by rintro rfl;exact h (by simp [famL]))) (fun ψ e=>?_)
  ·rw [AH.set_same,Nat.zero_add,List.take_left' rfl]
  ·exact .inl (by simpa [famL] using e)
theorem Bfj.cut (h:Bfj τ sz a es) (hne:es≠[]) {m:Nat} (hm:m≤es.length):∃a',slc sz a none (some (iv (m:Int))) none τ=some a'∧Bfj τ sz a' (es.take m)∧famL a'=famL a:=by
 rcases h with ⟨_,rfl⟩|⟨φ,st,jk,rfl,hF⟩
 ·exact absurd rfl hne
 ·refine ⟨.own φ st 0 m,?_,.inr ⟨φ,st,es.drop m++jk,?_,?_⟩,rfl⟩
  ·have e1:abd none 0=some 0:=rfl
   have e2:abd (some (iv (m:Int))) es.length=some m:=by simp [abd]
   simp only [slc,hF,e1,e2]
   rw [if_pos ⟨Nat.zero_le _,hm,trivial,trivial⟩]
   simp
  ·rw [List.length_take,Nat.min_eq_left hm]
  ·rw [←List.append_assoc,List.take_append_drop];exact hF
theorem Bfj.fz (h:Bfj τ sz a es) (h0:∀ψ,ψ∈famL a→σ ψ=none) (hz:∀c,c∈es→c.length=sz):Fz σ τ a (.ro es):=by
 rcases h with ⟨rfl|rfl,rfl⟩|⟨φ,st,jk,rfl,hF⟩
 ·exact .nil
 ·exact .emp
 ·refine .own hF (h0 φ (by simp [famL])) rfl (by simp) rfl (fun i hi=>?_) fun i j hi hj=>?_
  ·rw [show es.getD i []=es[i] by simp [List.getD,List.getElem?_eq_getElem hi]]
   exact hz _ (List.getElem_mem hi)
  ·rw [Nat.zero_add,show (es++jk).getD i []=es.getD i [] by simp [List.getD,List.getElem?_append_left hi]]
   exact .same _
theorem Buf.bfj (h:Buf τ sz a es):Bfj τ sz a es:=by
 rcases h with h|⟨φ,st,rfl,hF⟩
 ·exact .inl h
 ·exact .inr ⟨φ,st,[],rfl,by simpa using hF⟩
end
inductive Fd where
 |fix (a:AV)
 |lst (sz:Nat) (es:List (List AV))
def FdOk (τ:AH):Fd→AV→Prop
 | .fix a,v=>v=a∧famL a=[]∧a.one=true
 | .lst sz es,v=>Bfj τ sz v es
theorem FdOk.keep {f:Fd} {v:AV} (h:FdOk τ f v) (hk:∀ψ,ψ∈famL v→τ' ψ=τ ψ):FdOk τ' f v:=by
 cases f with
 |fix a=>exact h
 |lst sz es=>exact Bfj.keep h hk
theorem FdOk.live {f:Fd} {v:AV} (h:FdOk τ f v) {ψ:Nat} (hm:ψ∈famL v):∃F,τ ψ=some F:=by
 cases f with
 |fix a=>obtain ⟨rfl,h2,_⟩:=h;rw [h2] at hm;cases hm
 |lst sz es=>exact Bfj.live h hm
theorem FdOk.one {f:Fd} {v:AV} (h:FdOk τ f v):v.one=true:=by
 cases f with
 |fix a=>obtain ⟨rfl,_,h3⟩:=h;exact h3
 |lst sz es=>exact Bfj.one h
structure MSt (σ τ:AH) (φm:Nat) (fd:List Fd):Prop where
 ex:∃vs:List AV,τ φm=some ⟨0,fd.length,[vs]⟩∧vs.length=fd.length∧(∀i f,fd[i]? =some f→FdOk τ f (vs.getD i .any))∧
  (∀i j ψ,i≠j→ψ∈famL (vs.getD i .any)→ψ∉famL (vs.getD j .any))∧∀i ψ,ψ∈famL (vs.getD i .any)→ψ≠φm∧σ ψ=none
 fr:σ φm=none
 sub:AH.Sub σ τ
section
variable {φm i:Nat} {fd:List Fd}
theorem QqG {vs:List AV} {i:Nat} (h:vs.length≤i):vs.getD i .any= .any:=by simp [List.getD,List.getElem?_eq_none h]
theorem MSt.live' {vs:List AV} (hl:vs.length=fd.length) (hf:∀i f,fd[i]? =some f→FdOk τ f (vs.getD i .any)) {i ψ:Nat} (hm:ψ∈famL (vs.getD i .any)):∃F,τ ψ=some F:=by
 rcases Nat.lt_or_ge i fd.length with c|c
 ·exact (hf i _ (List.getElem?_eq_getElem c)).live hm
 ·rw [QqG (by omega)] at hm;cases hm
theorem MSt.fld (h:MSt σ τ φm fd) {f:Fd} (hi:fd[i]? =some f):∃v,lod (.ptr φm 0 0 i) τ=some v∧FdOk τ f v:=by
 obtain ⟨vs,h1,h2,h3,_⟩:=h.ex
 have hlt:=(List.getElem?_eq_some_iff.1 hi).1
 refine ⟨vs.getD i .any,Qz h1 rfl ?_,h3 i f hi⟩
 have:i<vs.length:=by omega
 simp [List.getD,List.getElem?_eq_getElem this]
theorem MSt.fix (h:MSt σ τ φm fd) {a:AV} (hi:fd[i]? =some (.fix a)):lod (.ptr φm 0 0 i) τ=some a:=by
 obtain ⟨v,h1,rfl,_⟩:=h.fld hi
 exact h1
theorem MSt.lst (h:MSt σ τ φm fd) {sz:Nat} {es:List (List AV)} (hi:fd[i]? =some (.lst sz es)):∃v,lod (.ptr φm 0 0 i) τ=some v∧Bfj τ sz v es:=h.fld hi
theorem MSt.keep (h:MSt σ τ φm fd) {σ':AH} (hk:∀ψ,τ ψ≠none→(ψ=φm∨σ ψ=none)→σ' ψ=none∧τ' ψ=τ ψ) (hm:τ φm≠none→σ' φm=none∧τ' φm=τ φm) (hs:AH.Sub σ' τ'):MSt σ' τ' φm fd:=by
 obtain ⟨vs,h1,h2,h3,h4,h5⟩:=h.ex
 have hm':=hm (by rw [h1];simp)
 have hl:∀i ψ,ψ∈famL (vs.getD i .any)→σ' ψ=none∧τ' ψ=τ ψ:=fun i ψ hψ=>by
  obtain ⟨F,hF⟩:=MSt.live' h2 h3 hψ
  exact hk ψ (by rw [hF];simp) (.inr (h5 i ψ hψ).2)
 exact ⟨⟨vs,by rw [hm'.2];exact h1,h2,fun i f hf=>(h3 i f hf).keep fun ψ hψ=>(hl i ψ hψ).2,h4,fun i ψ hψ=>⟨(h5 i ψ hψ).1,(hl i ψ hψ).1⟩⟩,hm'.1,hs⟩
theorem MSt.grow (h:MSt σ τ φm fd) (hs:AH.Sub τ τ'):MSt σ τ' φm fd:=by
 have key:∀ψ,τ ψ≠none→τ' ψ=τ ψ:=fun ψ hn=>by
  cases e:τ ψ with
  |none=>exact absurd e hn
  |some F=>exact hs _ _ e
 refine h.keep (fun ψ hn hc=>⟨?_,key ψ hn⟩) (fun hn=>⟨h.fr,key _ hn⟩) (h.sub.trans hs)
 rcases hc with rfl|hc
 ·exact h.fr
 ·exact hc
theorem MSt.drop (h:MSt σ τ φm fd) {σ':AH} (hs:AH.Sub σ' σ):MSt σ' τ φm fd:=by
 refine h.keep (fun ψ hn hc=>⟨?_,rfl⟩) (fun hn=>⟨hs.none h.fr,rfl⟩) (hs.trans h.sub)
 rcases hc with rfl|hc
 ·exact hs.none h.fr
 ·exact hs.none hc
theorem MSt.set2 (h:MSt σ τ φm fd) {ψ:Nat} (Z:Fam) (hψ:τ ψ=none∨σ ψ≠none):MSt (σ.set ψ Z) (τ.set ψ Z) φm fd:=by
 obtain ⟨vs,h1,_⟩:=h.ex
 have hne:∀χ,τ χ≠none→(χ=φm∨σ χ=none)→χ≠ψ:=fun χ hn hc e=>by
  subst e
  rcases hψ with c|c
  ·exact hn c
  ·rcases hc with rfl|hc
   ·exact c h.fr
   ·exact c hc
 refine h.keep (fun χ hn hc=>?_) (fun hn=>?_) (AH.Sub.set_both h.sub ψ Z)
 ·have:=hne χ hn hc
  refine ⟨?_,AH.set_ne' this⟩
  rw [AH.set_ne' this]
  rcases hc with rfl|hc
  ·exact h.fr
  ·exact hc
 ·have:=hne φm hn (.inl rfl)
  exact ⟨by rw [AH.set_ne' this];exact h.fr,AH.set_ne' this⟩
theorem MSt.del2 (h:MSt σ τ φm fd) {ψ:Nat} (hψ:σ ψ≠none):MSt (σ.del ψ) (τ.del ψ) φm fd:=by
 have hne:∀χ,(χ=φm∨σ χ=none)→χ≠ψ:=fun χ hc e=>by
  subst e
  rcases hc with rfl|hc
  ·exact hψ h.fr
  ·exact hψ hc
 have hd:∀(α:AH) χ,χ≠ψ→(α.del ψ) χ=α χ:=fun α χ hc=>by simp [AH.del,hc]
 refine h.keep (fun χ hn hc=>?_) (fun hn=>?_) fun χ F hF=>?_
 ·have:=hne χ hc
  refine ⟨?_,hd _ _ this⟩
  rw [hd _ _ this]
  rcases hc with rfl|hc
  ·exact h.fr
  ·exact hc
 ·have:=hne φm (.inl rfl)
  exact ⟨by rw [hd _ _ this];exact h.fr,hd _ _ this⟩
 ·by_cases c:χ=ψ
  ·subst c;simp [AH.del] at hF
  ·rw [hd _ _ c] at hF ⊢;exact h.sub _ _ hF
theorem MSt.new {vs:List AV} {φ:Nat} (hφ:σ φ=none) (hl:vs.length=fd.length) (hf:∀i f,fd[i]? =some f→FdOk (σ.set φ ⟨0,fd.length,[vs]⟩) f (vs.getD i .any)) (h0:∀v,v∈vs→famL v=[]):MSt σ (σ.set φ ⟨0,fd.length,[vs]⟩) φ fd:=by
 have h0':∀i,famL (vs.getD i .any)=[]:=fun i=>by
  rcases Nat.lt_or_ge i vs.length with c|c
  ·rw [show vs.getD i .any=vs[i] by simp [List.getD,List.getElem?_eq_getElem c]];exact h0 _ (List.getElem_mem c)
  ·rw [QqG c];rfl
 exact ⟨⟨vs,AH.set_same ..,hl,hf,(fun i j ψ _ hψ=>by rw [h0'] at hψ;cases hψ),fun i ψ hψ=>by rw [h0'] at hψ;cases hψ⟩,hφ,.set (.refl σ) _ hφ⟩
theorem MSt.put {f f':Fd} {v v':AV} {τ1:AH} {k':AH→Prop} (h:MSt σ τ φm fd) (hi:fd[i]? =some f) (hv:lod (.ptr φm 0 0 i) τ=some v) (hf:FdOk τ1 f' v') (hK:Kp (famL v) τ τ1) (hfam:∀ψ,ψ∈famL v'→ψ∈famL v∨τ ψ=none)
  (hk:∀τ2,MSt σ τ2 φm (fd.set i f')→k' τ2):sto 1 (.ptr φm 0 0 i) v' τ1 k':=by
 obtain ⟨vs,h1,h2,h3,h4,h5⟩:=h.ex
 have hlt:=(List.getElem?_eq_some_iff.1 hi).1
 have hlv:i<vs.length:=by omega
 obtain rfl:v=vs.getD i .any:=by
  have:lod (.ptr φm 0 0 i) τ=some (vs.getD i .any):=Qz h1 rfl (by simp [List.getD,List.getElem?_eq_getElem hlv])
  rw [this] at hv;exact (Option.some.inj hv).symm
 have hm:φm∉famL (vs.getD i .any):=fun c=>(h5 i φm c).1 rfl
 have h1':τ1 φm=some ⟨0,fd.length,[vs]⟩:=by rw [hK φm hm (by rw [h1];simp)];exact h1
 refine Q0 (cs:=vs) h1' rfl (by omega) (JJ hf.one) hf.one (hk _ ?_)
 have e0:[vs].set 0 (vs.set i v')=[vs.set i v']:=rfl
 rw [e0]
 have gi:(vs.set i v').getD i .any=v':=by simp [List.getD,hlv]
 have gj:∀j,j≠i→(vs.set i v').getD j .any=vs.getD j .any:=fun j hj=>by simp [List.getD,List.getElem?_set_ne (Ne.symm hj)]
 have hmv:φm∉famL v':=fun c=>(hfam φm c).elim hm fun d=>by rw [h1] at d;cases d
 have tk:∀ψ,ψ≠φm→(τ1.set φm ⟨0,fd.length,[vs.set i v']⟩) ψ=τ1 ψ:=fun ψ hψ=>AH.set_ne' hψ
 have oth:∀j,j≠i→∀ψ,ψ∈famL (vs.getD j .any)→ψ∉famL (vs.getD i .any)∧ψ≠φm∧τ ψ≠none:=fun j hj ψ hψ=>by
  obtain ⟨F,hF⟩:=MSt.live' h2 h3 hψ
  exact ⟨h4 j i ψ hj hψ,(h5 j ψ hψ).1,by rw [hF];simp⟩
 refine ⟨⟨vs.set i v',by rw [AH.set_same];simp,by simpa using h2,fun j g hg=>?_,fun j l ψ hjl hψ=>?_,fun j ψ hψ=>?_⟩,h.fr,fun ψ F hF=>?_⟩
 ·by_cases c:j=i
  ·subst c
   rw [List.getElem?_set_self hlt] at hg
   obtain rfl:=Option.some.inj hg
   rw [gi]
   exact hf.keep fun ψ hψ=>tk ψ (by rintro rfl;exact hmv hψ)
  ·rw [List.getElem?_set_ne (Ne.symm c)] at hg
   rw [gj j c]
   refine (h3 j g hg).keep fun ψ hψ=>?_
   obtain ⟨o1,o2,o3⟩:=oth j c ψ hψ
   rw [tk ψ o2,hK ψ o1 o3]
 ·by_cases c:j=i
  ·subst c
   rw [gi] at hψ
   rw [gj l (Ne.symm hjl)]
   intro d
   obtain ⟨o1,o2,o3⟩:=oth l (Ne.symm hjl) ψ d
   exact (hfam ψ hψ).elim o1 o3
  ·rw [gj j c] at hψ
   obtain ⟨o1,o2,o3⟩:=oth j c ψ hψ
   by_cases c2:l=i
   ·subst c2
    rw [gi]
    intro d
    exact (hfam ψ d).elim o1 o3
   ·rw [gj l c2]
    exact h4 j l ψ hjl hψ
 ·by_cases c:j=i
  ·subst c
   rw [gi] at hψ
   refine ⟨by rintro rfl;exact hmv hψ,?_⟩
   rcases hfam ψ hψ with d|d
   ·exact (h5 j ψ d).2
   ·exact h.sub.none d
  ·rw [gj j c] at hψ
   exact h5 j ψ hψ
 ·have hne:ψ≠φm:=by rintro rfl;rw [h.fr] at hF;cases hF
  rw [tk ψ hne,hK ψ (fun c=>by rw [(h5 i ψ c).2] at hF;cases hF) (by rw [h.sub _ _ hF];simp)]
  exact h.sub _ _ hF
theorem MSt.app {sz:Nat} {es:List (List AV)} {row:List AV} {v x:AV} {k:AV→AH→Prop} (h:MSt σ τ φm fd) (hi:fd[i]? =some (.lst sz es)) (hv:lod (.ptr φm 0 0 i) τ=some v) (hx:QF τ x=some [row]) (hr:row.length=sz) (ho:∀y,y∈row→y.one=true) (hn:es.length+1≤4294967296)
  (hk:∀v' τ1,(∀k':AH→Prop,(∀τ2,MSt σ τ2 φm (fd.set i (.lst sz (es++[row])))→k' τ2)→sto 1 (.ptr φm 0 0 i) v' τ1 k')→k v' τ1):E.app sz v x τ k:=by
 obtain ⟨v2,e2,hb⟩:=h.lst hi
 rw [hv] at e2
 obtain rfl:=Option.some.inj e2
 refine hb.app hx (by intro c hc;obtain rfl:=List.mem_singleton.1 hc;exact hr) (by intro c hc;obtain rfl:=List.mem_singleton.1 hc;exact ho) (by simpa using hn) fun v' τ1 hB hK hfam=>?_
 exact hk v' τ1 fun k' hk'=>h.put hi hv (f':= .lst sz (es++[row])) hB hK hfam hk'
theorem MSt.cut {sz:Nat} {es:List (List AV)} {v:AV} (h:MSt σ τ φm fd) (hi:fd[i]? =some (.lst sz es)) (hv:lod (.ptr φm 0 0 i) τ=some v) (hne:es≠[]) {m:Nat} (hm:m≤es.length):
  ∃v',slc sz v none (some (iv (m:Int))) none τ=some v'∧∀k':AH→Prop,(∀τ2,MSt σ τ2 φm (fd.set i (.lst sz (es.take m)))→k' τ2)→sto 1 (.ptr φm 0 0 i) v' τ k':=by
 obtain ⟨v2,e2,hb⟩:=h.lst hi
 rw [hv] at e2
 obtain rfl:=Option.some.inj e2
 obtain ⟨v',h1,h2,h3⟩:=hb.cut hne hm
 exact ⟨v',h1,fun k' hk'=>h.put hi hv (f':= .lst sz (es.take m)) h2 (Kp.refl _ _) (fun ψ hψ=> .inl (h3▸hψ)) hk'⟩
theorem MSt.fzl {sz:Nat} {es:List (List AV)} {v:AV} (h:MSt σ τ φm fd) (hi:fd[i]? =some (.lst sz es)) (hv:lod (.ptr φm 0 0 i) τ=some v) (hz:∀c,c∈es→c.length=sz):Fz σ τ v (.ro es):=by
 obtain ⟨vs,h1,h2,h3,h4,h5⟩:=h.ex
 have hlt:=(List.getElem?_eq_some_iff.1 hi).1
 have hlv:i<vs.length:=by omega
 obtain rfl:v=vs.getD i .any:=by
  have:lod (.ptr φm 0 0 i) τ=some (vs.getD i .any):=Qz h1 rfl (by simp [List.getD,List.getElem?_eq_getElem hlv])
  rw [this] at hv;exact (Option.some.inj hv).symm
 exact Bfj.fz (h3 i _ hi) (fun ψ hψ=>(h5 i ψ hψ).2) hz
theorem MSt.app2 {sz:Nat} {es xs:List (List AV)} {a x:AV} {σ0:AH} {k:AV→AH→Prop} (h:MSt σ τ φm fd) (hs0:AH.Sub σ0 σ) (hB:Buf σ sz a es) (h0:∀ψ,ψ∈famL a→σ0 ψ=none) (hx:QF τ x=some xs) (hs:∀c,c∈xs→c.length=sz) (ho:∀c,c∈xs→∀y,y∈c→y.one=true) (hn:es.length+xs.length≤4294967296)
  (hk:∀a' σ' τ',MSt σ' τ' φm fd→AH.Sub σ0 σ'→Buf σ' sz a' (es++xs)→(∀ψ,ψ∈famL a'→σ0 ψ=none)→k a' τ'):E.app sz a x τ k:=by
 unfold E.app
 rw [hx]
 refine ⟨hs,?_⟩
 have new:∀φ,τ φ=none→k (.own φ 0 0 xs.length) (τ.set φ ⟨0,sz,xs⟩)∨es≠[]:=by
  intro φ hφ
  by_cases c:es=[]
  ·left
   subst c
   have hσ:σ φ=none:=h.sub.none hφ
   refine hk _ _ _ (h.set2 ⟨0,sz,xs⟩ (.inl hφ)) (.set hs0 _ (hs0.none hσ)) (.inr ⟨φ,0,by simp,by simp⟩) fun ψ hψ=>?_
   obtain rfl:ψ=φ:=by simpa [famL] using hψ
   exact hs0.none hσ
  ·exact .inr c
 rcases hB with ⟨rfl|rfl,rfl⟩|⟨φ,st,rfl,hF⟩
 ·simp only
  refine ⟨by simpa using hn,?_,fun _ φ hφ=>(new φ hφ).elim id fun c=>absurd rfl c⟩
  rintro rfl
  exact hk _ _ _ h hs0 (.inl ⟨.inl rfl,rfl⟩) h0
 ·simp only
  refine ⟨by simpa using hn,?_,fun _ φ hφ=>(new φ hφ).elim id fun c=>absurd rfl c⟩
  rintro rfl
  exact hk _ _ _ h hs0 (.inl ⟨.inr rfl,rfl⟩) h0
 ·simp only [h.sub _ _ hF]
  refine ⟨trivial,trivial,by simp,by simpa using hn,ho,?_⟩
  have hφ0:σ0 φ=none:=h0 φ (by simp [famL])
  refine hk _ _ _ (h.set2 _ (.inr (by rw [hF];simp))) (.set hs0 _ hφ0) (.inr ⟨φ,if 0+es.length+xs.length≤es.length then st else st+1,by simp,by simp⟩) fun ψ hψ=>?_
  obtain rfl:ψ=φ:=by simpa [famL] using hψ
  exact hφ0
end
end Go.Proofs.YtggnjjalfnhiiaaGreatDoor.E
/- Tokens of a text: the plain law, and the reference's way. -/
namespace Go.Proofs.YtggnjjalfnhiiaaGreatDoor.E
open Go Go.RowKit
set_option maxRecDepth 100000
def skp:Bool→List UInt8→Nat
 |_,[]=>0
 |true,c::r=>if c.toNat=10 then skp false r+1 else skp true r+1
 |false,c::r=>if c.toNat=59 then skp true r+1 else if c.toNat=32∨c.toNat=10 then skp false r+1 else 0
def Jb (c:UInt8):Int:=if c.toNat=40 then 1 else if c.toNat=41 then 2 else if c.toNat=39 then 3 else 0
def wrd:List UInt8→Nat
 |[]=>0
 |c::r=>if c.toNat=32∨c.toNat=10∨c.toNat=59∨Jb c≠0 then 0 else wrd r+1
theorem QtP:∀(l:List UInt8) (b:Bool),skp b l≤l.length:=by
 intro l
 induction l with
 |nil=>intro b;cases b<;>simp [skp]
 |cons c r ih=>
  intro b
  have h1:=ih true
  have h2:=ih false
  cases b<;>simp only [skp,List.length_cons]<;>(repeat' split)<;>omega
theorem QtQ:∀l:List UInt8,wrd l≤l.length:=by
 intro l
 induction l with
 |nil=>simp [wrd]
 |cons c r ih=>simp only [wrd,List.length_cons];split<;>omega
theorem Qvv {c:UInt8} {r:List UInt8} (h:c.toNat=32∨c.toNat=10∨c.toNat=59∨Jb c≠0):wrd (c::r)=0:=by rw [wrd,if_pos h]
theorem QqH {c:UInt8} {r:List UInt8} (h1:¬c.toNat=32) (h2:¬c.toNat=10) (h3:¬c.toNat=59) (h4:Jb c=0):wrd (c::r)=wrd r+1:=by
 rw [wrd,if_neg]
 rintro (a|a|a|a)
 ·exact h1 a
 ·exact h2 a
 ·exact h3 a
 ·exact a h4
structure Tok where
 kind:Int
 num:Int
 name:ByteArray
 deriving Inhabited
def Qw (x:Tok):List AV:=[iv x.kind,iv x.num,str x.name]
abbrev roT (xs:List Tok):AV:= .ro (xs.map Qw)
theorem QaW (x:Tok):(Qw x).length=3:=rfl
theorem Q5 (x:Tok):∀y,y∈Qw x→y.one=true:=by
 intro y hy
 simp only [Qw,List.mem_cons,List.not_mem_nil,or_false] at hy
 rcases hy with rfl|rfl|rfl<;>rfl
def Qah (l:List UInt8):Tok × Bool:=
 if Qbu l then (⟨4,parV l,⟨#[]⟩⟩,true) else if bs l=⟨#[35,116]⟩ then (⟨5,1,⟨#[]⟩⟩,true) else if bs l=⟨#[35,102]⟩ then (⟨5,0,⟨#[]⟩⟩,true) else (⟨6,0,bs l⟩,Qd3 (bs l))
def toks (t:List UInt8):Nat→Nat→List Tok→List Tok × Int × Nat
 |0,_,out=>(out,0,0)
 |f+1,at_,out=>match t.drop at_ with
  |[]=>(out,0,0)
  |c::r=>
   if Jb c≠0 then (if 120≤out.length then ([],2,at_) else toks t f (at_+1+skp false (t.drop (at_+1))) (out++[⟨Jb c,0,⟨#[]⟩⟩]))
   else if (Qah ((c::r).take (wrd (c::r)))).2=false then ([],5,at_)
   else if 120≤out.length then ([],2,at_)
   else toks t f (at_+wrd (c::r)+skp false (t.drop (at_+wrd (c::r)))) (out++[(Qah ((c::r).take (wrd (c::r)))).1])
def tokR (t:List UInt8):List Tok × Int × Nat:=if 400<t.length then ([],2,0) else toks t (t.length+1) (skp false t) []
variable [L:Lam]
variable {σ τ:AH} {R:AEnd→AH→Prop}
theorem UO {φ n:Nat} {zs cs:List AV} {w:AV} (hφ:σ φ=none) (hz:zs.length=n) (hc:cs.length=n) (h1:∀x,x∈cs→x.one=true) (h:R (.ret (.tup [.agg cs,w])) σ):
  sto n (.ptr φ 0 0 0) (.agg cs) (σ.set φ ⟨0,n,[zs]⟩) fun σ=>og (lodA n (.ptr φ 0 0 0) σ) fun r=>aret (.tup [r,w]) σ R:=by
 refine QG (es:=[zs]) (cs:=cs) (AH.set_same ..) (by simp) (by simpa using hz) rfl hc h1 ?_
 simp only [List.set_cons_zero,AH.set_set]
 have e:=UG (σ:=σ.set φ ⟨0,n,[cs]⟩) (φ:=φ) (st:=0) (i:=0) (n:=n) (cs:=cs) (AH.set_same ..) rfl rfl hc
 simp only [e,RR]
 exact U7 (.set (.refl σ) _ hφ) h
theorem QrQ {sz:Nat} {a x:AV} {es:List (List AV)} {z row:List AV} {k:AV→AH→Prop} (h:Buf τ sz a es) (he:Jy sz [z] [(0,x)]=some [row]) (hs:sz≤1000) (hr:row.length=sz) (ho:∀y,y∈row→y.one=true) (hn:es.length+1≤4294967296)
  (hk:∀a' τ',Buf τ' sz a' (es++[row])→Kp (famL a) τ τ'→(∀ψ,ψ∈famL a'→ψ∈famL a∨τ ψ=none)→k a' τ'):bsl sz z 1 [(0,x)] τ fun v τ=>E.app sz a v τ k:=by
 refine bsl1 he (by omega) fun ψ hψ=>?_
 have hs1:AH.Sub τ (τ.set ψ ⟨0,sz,[row]⟩):= .set (.refl τ) _ hψ
 refine Ud ((Kp.of_sub (F:=[]) hs1).buf h fun _ _ c=>by cases c) ael1 (by intro c hc;obtain rfl:=List.mem_singleton.1 hc;exact hr) (by intro c hc;obtain rfl:=List.mem_singleton.1 hc;exact ho) (by simpa using hn) fun a' τ' hB hK hfam=>hk a' τ' hB (fun χ hχ hn=>?_) fun χ hχ=>?_
 ·rw [hK χ hχ (by rw [AH.set_ne' (by rintro rfl;exact hn hψ)];exact hn),AH.set_ne' (by rintro rfl;exact hn hψ)]
 ·rcases hfam χ hχ with c|c
  ·exact .inl c
  ·exact .inr (hs1.none c)
theorem QqI (a b:Int):ibin .eql (u8v a) (u8v b)=some (bv (decide (a=b))):=(JF a b).2.2.2.2.1
theorem QbI (a b:Int):ibin .neq (u8v a) (u8v b)=some (bv (!decide (a=b))):=(JF a b).2.2.2.2.2
theorem QiU {c:UInt8} (h:R (.ret (iv (Jb c))) σ):acall TP QgY [u8v (c.toNat:Nat)] σ R:=by
 refine Ql8 ?_
 unfold QiN x208;dsimp only [den,dE,di,tupL,lTup,dwat,Qe,List.map,Option.map,den0,den1,den2,den3,den4]
 unfold Jb at h
 simp only [QqI,RR]
 by_cases c1:c.toNat=40
 ·have g:((c.toNat:Nat):Int)=40:=by omega
  rw [if_pos c1] at h
  simp only [g,RR];exact Qa h
 rw [if_neg c1] at h
 have g1:¬((c.toNat:Nat):Int)=40:=by omega
 by_cases c2:c.toNat=41
 ·have g:((c.toNat:Nat):Int)=41:=by omega
  rw [if_pos c2] at h
  simp only [g,RR,show ¬(41:Int)=40 by omega];exact Qa h
 rw [if_neg c2] at h
 have g2:¬((c.toNat:Nat):Int)=41:=by omega
 by_cases c3:c.toNat=39
 ·have g:((c.toNat:Nat):Int)=39:=by omega
  rw [if_pos c3] at h
  simp only [g,RR,show ¬(39:Int)=40 by omega,show ¬(39:Int)=41 by omega];exact Qa h
 rw [if_neg c3] at h
 have g3:¬((c.toNat:Nat):Int)=39:=by omega
 simp only [g1,g2,g3,RR];exact Qa h
theorem QiV {l:List UInt8} {p:Nat} (hp:p≤l.length) (hl:l.length≤1048576) (h:R (.ret (iv ((p+skp false (l.drop p):Nat):Int))) σ):acall TP QgX [str (bs l),iv (p:Int)] σ R:=by
 refine Ql7 ?_
 unfold QiM x207;dsimp only [den,dE,di,tupL,lTup,dwat,Qe,List.map,Option.map,den0,den1,den2,den3,den4]
 refine QH (fun n x τ=>∃q:Nat,x=(str (bs l),iv (q:Int),())∧τ=σ∧l.length - q=n∧q≤l.length∧q+skp false (l.drop q)=p+skp false (l.drop p)) (l.length - p) ⟨p,rfl,rfl,rfl,hp,rfl⟩ ?_
 rintro n x τ ⟨q,rfl,rfl,rfl,hq,e⟩ R' hR'
 simp only [Qo,RR]
 by_cases c:q<l.length
 ·have g:(q:Int)<(l.length:Int):=by omega
  have dc:=List.drop_eq_getElem_cons c
  rw [dc] at e
  have up:=Qj c (show l.length≤9223372036854775807 by omega)
  simp only [g,Q2 c,QqI,QbI,RR]
  by_cases c1:l[q].toNat=59
  ·have g1:((l[q].toNat:Nat):Int)=59:=by omega
   simp only [g1,RR]
   simp only [skp,c1,if_true] at e
   refine QH (fun n x τ'=>∃r:Nat,x=(str (bs l),iv (r:Int),())∧τ'=τ∧l.length - r=n∧r≤l.length∧q≤r∧r+skp true (l.drop r)=p+skp false (l.drop p)) (l.length - q) ⟨q,rfl,rfl,rfl,hq,Nat.le_refl _,?_⟩ ?_
   ·rw [dc];simp only [skp,c1,show ¬(59:Nat)=10 by omega,if_false];omega
   rintro n x τ' ⟨r,rfl,rfl,rfl,hr,hqr,e2⟩ R2 hR2
   simp only [Qo,RR]
   by_cases c2:r<l.length
   ·have g2:(r:Int)<(l.length:Int):=by omega
    have dr:=List.drop_eq_getElem_cons c2
    rw [dr] at e2
    have up2:=Qj c2 (show l.length≤9223372036854775807 by omega)
    simp only [g2,Q2 c2,QbI,RR]
    by_cases c3:l[r].toNat=10
    ·have g3:((l[r].toNat:Nat):Int)=10:=by omega
     simp only [g3,RR]
     simp only [skp,c3,if_true] at e2
     have hne:q≠r:=by rintro rfl;omega
     refine hR' _ _ (l.length - r) τ' (by omega) (.refl _) ⟨r,rfl,rfl,rfl,hr,?_⟩
     rw [dr];simp only [skp,c3,show ¬(10:Nat)=59 by omega,if_false,or_true,if_true];omega
    ·have g3:¬((l[r].toNat:Nat):Int)=10:=by omega
     simp only [g3,up2,RR]
     simp only [skp,c3,if_false] at e2
     exact hR2 _ _ (l.length - (r+1)) τ' (by omega) (.refl _) ⟨r+1,rfl,rfl,rfl,c2,by omega,by omega⟩
   ·have g2:¬(r:Int)<(l.length:Int):=by omega
    have hrl:r=l.length:=by omega
    subst hrl
    simp only [g2,RR]
    simp only [List.drop_length,skp] at e2
    refine hR' _ _ (l.length - l.length) τ' (by omega) (.refl _) ⟨l.length,rfl,rfl,rfl,hr,?_⟩
    simp only [List.drop_length,skp];omega
  ·have g1:¬((l[q].toNat:Nat):Int)=59:=by omega
   simp only [g1,RR]
   by_cases c2:l[q].toNat=32
   ·have g2:((l[q].toNat:Nat):Int)=32:=by omega
    simp only [g2,up,RR]
    simp only [skp,c2,show ¬(32:Nat)=59 by omega,if_false,true_or,if_true] at e
    exact hR' _ _ (l.length - (q+1)) τ (by omega) (.refl _) ⟨q+1,rfl,rfl,rfl,c,by omega⟩
   have g2:¬((l[q].toNat:Nat):Int)=32:=by omega
   by_cases c3:l[q].toNat=10
   ·have g3:((l[q].toNat:Nat):Int)=10:=by omega
    simp only [g2,Q2 c,QbI,g3,show ¬(10:Int)=32 by omega,up,RR]
    simp only [skp,c3,show ¬(10:Nat)=59 by omega,if_false,or_true,if_true] at e
    exact hR' _ _ (l.length - (q+1)) τ (by omega) (.refl _) ⟨q+1,rfl,rfl,rfl,c,by omega⟩
   have g3:¬((l[q].toNat:Nat):Int)=10:=by omega
   simp only [g2,Q2 c,QbI,g3,RR]
   simp only [skp,c1,c2,c3,if_false,or_self] at e
   rw [←e] at h
   exact Qa (by simpa using h)
 ·have g:¬(q:Int)<(l.length:Int):=by omega
  have hql:q=l.length:=by omega
  subst hql
  simp only [g,RR]
  simp only [List.drop_length,skp] at e
  rw [←e] at h
  exact Qa (by simpa using h)
theorem QqJ {l:List UInt8} {p:Nat} (hp:p≤l.length) (hl:l.length≤1048576) (h:R (.ret (iv ((p+wrd (l.drop p):Nat):Int))) σ):acall TP Qir [str (bs l),iv (p:Int)] σ R:=by
 refine Qm8 ?_
 unfold QjU x209;dsimp only [den,dE,di,tupL,lTup,dwat,Qe,List.map,Option.map,den0,den1,den2,den3,den4]
 refine QH (fun n x τ=>∃q:Nat,x=(str (bs l),iv (q:Int),())∧τ=σ∧l.length - q=n∧q≤l.length∧q+wrd (l.drop q)=p+wrd (l.drop p)) (l.length - p) ⟨p,rfl,rfl,rfl,hp,rfl⟩ ?_
 rintro n x τ ⟨q,rfl,rfl,rfl,hq,e⟩ R' hR'
 refine UC (P:=fun x τ'=>τ'=τ∧∃b,x=(str (bs l),iv (q:Int),bv b,())∧(b=true→q<l.length∧wrd (l.drop q)=wrd (l.drop (q+1))+1)∧(b=false→wrd (l.drop q)=0)) ?_ ?_
 ·rintro x τ' ⟨rfl,b,rfl,h1,h0⟩
  cases b with
  |true=>
   obtain ⟨h1,h2⟩:=h1 rfl
   simp only [Qj h1 (show l.length≤9223372036854775807 by omega),RR]
   exact hR' _ _ (l.length - (q+1)) τ' (by omega) (.refl _) ⟨q+1,rfl,rfl,rfl,h1,by omega⟩
  |false=>
   rw [h0 rfl] at e
   rw [←e] at h
   simp only [RR]
   exact Qa h
 intro k hk
 by_cases c:q<l.length
 ·have g:(q:Int)<(l.length:Int):=by omega
  have dc:=List.drop_eq_getElem_cons c
  have stop:(l[q].toNat=32∨l[q].toNat=10∨l[q].toNat=59∨Jb l[q]≠0)→k (str (bs l),iv (q:Int),bv false,()) τ:=fun hc=>
   hk _ _ ⟨rfl,false,rfl,(fun x=>by cases x),fun _=>by rw [dc];exact Qvv hc⟩
  simp only [Qo,g,Q2 c,QbI,RR]
  by_cases c1:l[q].toNat=32
  ·have g1:((l[q].toNat:Nat):Int)=32:=by omega
   simp only [g1,RR];exact stop (.inl c1)
  have g1:¬((l[q].toNat:Nat):Int)=32:=by omega
  simp only [g1,Q2 c,QbI,RR]
  by_cases c2:l[q].toNat=10
  ·have g2:((l[q].toNat:Nat):Int)=10:=by omega
   simp only [g2,RR];exact stop (.inr (.inl c2))
  have g2:¬((l[q].toNat:Nat):Int)=10:=by omega
  simp only [g2,Q2 c,QbI,RR]
  by_cases c3:l[q].toNat=59
  ·have g3:((l[q].toNat:Nat):Int)=59:=by omega
   simp only [g3,RR];exact stop (.inr (.inr (.inl c3)))
  have g3:¬((l[q].toNat:Nat):Int)=59:=by omega
  simp only [g3,Q2 c,RR]
  refine QiU ?_
  simp only [RR]
  by_cases c4:Jb l[q]=0
  ·simp only [c4,RR]
   exact hk _ _ ⟨rfl,true,rfl,(fun _=>⟨c,by rw [dc];exact QqH c1 c2 c3 c4⟩),fun x=>by cases x⟩
  ·simp only [c4,RR];exact stop (.inr (.inr (.inr c4)))
 ·have g:¬(q:Int)<(l.length:Int):=by omega
  have hql:q=l.length:=by omega
  subst hql
  simp only [Qo,g,RR]
  exact hk _ _ ⟨rfl,false,rfl,(fun x=>by cases x),fun _=>by rw [List.drop_length,wrd]⟩
theorem bldT (k n:Int) (s:ByteArray):bld [iv 0,iv 0,str ⟨#[]⟩] [(0,1),(1,1),(2,1)] [(0,iv k),(1,iv n)]=some (.agg (Qw ⟨k,n,⟨#[]⟩⟩))∧bld [iv 0,iv 0,str ⟨#[]⟩] [(0,1),(1,1),(2,1)] [(0,iv k)]=some (.agg (Qw ⟨k,0,⟨#[]⟩⟩))∧
  bld [iv 0,iv 0,str ⟨#[]⟩] [(0,1),(1,1),(2,1)] [(0,iv k),(2,str s)]=some (.agg (Qw ⟨k,0,s⟩)):=⟨rfl,rfl,rfl⟩
theorem Qpy {l:List UInt8} (hl:l.length≤1048576) (h:R (.ret (.tup [.agg (Qw (Qah l).1),bv (Qah l).2])) σ):acall TP QgZ [str (bs l)] σ R:=by
 refine Ql9 ?_
 unfold QiO x210;dsimp only [den,dE,di,tupL,lTup,dwat,Qe,List.map,Option.map,den0,den1,den2,den3,den4]
 intro φ hφ
 have rest:Qbu l=false→(og (sbin .eql (str (bs l)) (.val (.string ⟨#[35,116]⟩))) fun v15=>
  apick v15 (
   og (bld [iv 0,iv 0,str ⟨#[]⟩] [(0,1),(1,1),(2,1)] [(0,iv 5),(1,iv 1)]) fun v16=>
   sto 3 (.ptr φ 0 0 0) v16 (σ.set φ ⟨0,3,[[iv 0,iv 0,str ⟨#[]⟩]]⟩) fun σ=>
   og (lodA 3 (.ptr φ 0 0 0) σ) fun r2=>
   aret (.tup [r2,bv true]) σ R) (
   og (sbin .eql (str (bs l)) (.val (.string ⟨#[35,102]⟩))) fun v18=>
   apick v18 (
    og (bld [iv 0,iv 0,str ⟨#[]⟩] [(0,1),(1,1),(2,1)] [(0,iv 5)]) fun v19=>
    sto 3 (.ptr φ 0 0 0) v19 (σ.set φ ⟨0,3,[[iv 0,iv 0,str ⟨#[]⟩]]⟩) fun σ=>
    og (lodA 3 (.ptr φ 0 0 0) σ) fun r2=>
    aret (.tup [r2,bv true]) σ R) (
    og (bld [iv 0,iv 0,str ⟨#[]⟩] [(0,1),(1,1),(2,1)] [(0,iv 6),(2,str (bs l))]) fun v21=>
    acall TP Qdp [str (bs l)] (σ.set φ ⟨0,3,[[iv 0,iv 0,str ⟨#[]⟩]]⟩) (onr (fun v23 σ=>
    sto 3 (.ptr φ 0 0 0) v21 σ fun σ=>
    og (lodA 3 (.ptr φ 0 0 0) σ) fun r2=>
    aret (.tup [r2,v23]) σ R) (fun v σ=>apan v σ R))))):=fun hn=>by
  unfold Qah at h
  rw [hn] at h
  simp only [Bool.false_eq_true,if_false] at h
  simp only [Jt,RR]
  by_cases c1:bs l=⟨#[35,116]⟩
  ·rw [if_pos c1] at h
   simp only [c1,(bldT 5 1 ⟨#[]⟩).1,RR]
   exact UO hφ rfl rfl (Q5 _) h
  rw [if_neg c1] at h
  by_cases c2:bs l=⟨#[35,102]⟩
  ·rw [if_pos c2] at h
   have c1':¬(⟨#[35,102]⟩:ByteArray)=⟨#[35,116]⟩:=by rw [←c2];exact c1
   simp only [c2,c1',(bldT 5 1 ⟨#[]⟩).2.1,RR]
   exact UO hφ rfl rfl (Q5 _) h
  rw [if_neg c2] at h
  simp only [c1,c2,(bldT 6 1 (bs l)).2.2,RR]
  refine Qj2 (by rw [Qo];omega) ?_
  simp only [RR]
  exact UO hφ rfl rfl (Q5 _) h
 refine Qoq hl (fun hp=>?_) fun hp=>?_
 ·have e0:aext (.tup [iv (parV l),bv (inB (-1000000000) 1000000000 (parV l)&&decide (itB (parV l)=bs l))]) 0=some (iv (parV l)):=rfl
  have e1:aext (.tup [iv (parV l),bv (inB (-1000000000) 1000000000 (parV l)&&decide (itB (parV l)=bs l))]) 1=some (bv (inB (-1000000000) 1000000000 (parV l)&&decide (itB (parV l)=bs l))):=rfl
  simp only [e0,e1,RR]
  have en:Qbu l=(inB (-1000000000) 1000000000 (parV l)&&decide (itB (parV l)=bs l)):=by unfold Qbu;rw [hp,Bool.true_and]
  cases c:(inB (-1000000000) 1000000000 (parV l)&&decide (itB (parV l)=bs l)) with
  |true=>
   unfold Qah at h
   rw [en,c] at h
   simp only [if_true] at h
   simp only [(bldT 4 (parV l) ⟨#[]⟩).1,RR]
   exact UO hφ rfl rfl (Q5 _) h
  |false=>
   simp only [RR]
   exact rest (by rw [en,c])
 ·have e0:aext (.tup [iv 0,bv false]) 0=some (iv 0):=rfl
  have e1:aext (.tup [iv 0,bv false]) 1=some (bv false):=rfl
  simp only [e0,e1,RR]
  exact rest (by unfold Qbu;rw [hp];rfl)
end Go.Proofs.YtggnjjalfnhiiaaGreatDoor.E
/- Tokens of a text: the reference's way, all of it. -/
namespace Go.Proofs.YtggnjjalfnhiiaaGreatDoor.E
open Go Go.RowKit
set_option maxRecDepth 100000
theorem Qvw {c:UInt8} {r:List UInt8} (h:skp false (c::r)=0):¬c.toNat=59∧¬c.toNat=32∧¬c.toNat=10:=by
 rw [skp] at h
 refine ⟨fun c1=>?_,fun c1=>?_,fun c1=>?_⟩
 ·rw [if_pos c1] at h;omega
 ·rw [if_neg (by omega),if_pos (.inl c1)] at h;omega
 ·rw [if_neg (by omega),if_pos (.inr c1)] at h;omega
theorem QqK:∀(l:List UInt8) (b:Bool),skp false (l.drop (skp b l))=0:=by
 intro l
 induction l with
 |nil=>intro b;cases b<;>rfl
 |cons c r ih=>
  intro b
  cases b with
  |true=>
   rw [skp]
   split
   ·rw [List.drop_succ_cons];exact ih false
   ·rw [List.drop_succ_cons];exact ih true
  |false=>
   rw [skp]
   split
   ·rw [List.drop_succ_cons];exact ih true
   ·split
    ·rw [List.drop_succ_cons];exact ih false
    ·rename_i h1 h2
     rw [List.drop_zero,skp,if_neg h1,if_neg h2]
theorem QzY (t:List UInt8) (q:Nat):skp false (t.drop (q+skp false (t.drop q)))=0:=by
 rw [←List.drop_drop];exact QqK _ _
variable [L:Lam]
variable {σ τ:AH} {R:AEnd→AH→Prop}
theorem QqL {l:List UInt8} {a b:Nat} (h1:a≤b) (h2:b≤l.length):slcStr (str (bs l)) (some (iv (a:Int))) (some (iv (b:Int)))=some (str (bs ((l.drop a).take (b - a)))):=by
 have e1:abd (some (iv (a:Int))) 0=some a:=Qhp _ _
 have e2:abd (some (iv (b:Int))) (bs l).size=some b:=Qhp _ _
 simp only [slcStr,e1,e2]
 rw [if_pos ⟨h1,by rw [Qo];exact h2⟩]
 congr 3
 apply ByteArray.ext
 rw [ByteArray.data_extract]
 simp [List.drop_take]
theorem QtR {x:Tok}:Jy 3 [[iv 0,iv 0,str ⟨#[]⟩]] [(0,.agg (Qw x))]=some [Qw x]:=rfl
theorem Qnz {a b:AV} (hs:AH.Sub σ τ) (h:R (.ret (.tup [.ro [],a,b])) σ):aret (.tup [.val (.slice none 0 0),a,b]) τ R:=by
 refine QU (a':= .tup [.ro [],a,b]) hs (.tup rfl fun j hj=>?_) h
 match j,hj with
 |0,_=>exact .nil
 |1,_=>exact .same _
 |2,_=>exact .same _
theorem Qdl {φ n:Nat} {zs cs cs':List AV} (hφ:σ φ=none) (hz:zs.length=n) (hc:cs.length=n) (h1:∀x,x∈cs→x.one=true) (hl:cs.length=cs'.length) (hf:∀i,i<cs.length→Fz σ (σ.set φ ⟨0,n,[cs]⟩) (cs.getD i .any) (cs'.getD i .any)) (h:R (.ret (.agg cs')) σ):
  sto n (.ptr φ 0 0 0) (.agg cs) (σ.set φ ⟨0,n,[zs]⟩) fun σ=>og (lodA n (.ptr φ 0 0 0) σ) fun r=>aret r σ R:=by
 refine QG (es:=[zs]) (cs:=cs) (AH.set_same ..) (by simp) (by simpa using hz) rfl hc h1 ?_
 simp only [List.set_cons_zero,AH.set_set]
 have e:=UG (σ:=σ.set φ ⟨0,n,[cs]⟩) (φ:=φ) (st:=0) (i:=0) (n:=n) (cs:=cs) (AH.set_same ..) rfl rfl hc
 simp only [e,RR]
 exact QU (.set (.refl σ) _ hφ) (.agg hl hf) h
theorem QnA {t:List UInt8} (hl:t.length≤400) (h:R (.ret (.tup [roT (toks t (t.length+1) (skp false t) []).1,iv (toks t (t.length+1) (skp false t) []).2.1,iv ((toks t (t.length+1) (skp false t) []).2.2:Nat)])) σ):acall TP QeK [str (bs t)] σ R:=by
 refine QjQ ?_
 unfold QfX x174;dsimp only [den,dE,di,tupL,lTup,dwat,Qe,List.map,Option.map,den0,den1,den2,den3,den4]
 refine bsl0 ?_
 refine QiV (p:=0) (Nat.zero_le _) (by omega) ?_
 simp only [RR,List.drop_zero]
 generalize hE:toks t (t.length+1) (skp false t) []=E at h
 refine QH (fun f x τ=>∃(p:Nat) (ts:List Tok) (u:AV),x=(str (bs t),u,iv (p:Int),())∧Buf τ 3 u (ts.map Qw)∧AH.Sub σ τ∧(∀ψ,ψ∈famL u→σ ψ=none)∧toks t f p ts=E∧ts.length≤120∧p≤t.length∧t.length+1≤f+p∧skp false (t.drop p)=0) (t.length+1)
  ⟨skp false t,[],.emp,rfl,.inl ⟨.inr rfl,rfl⟩,.refl σ,(fun ψ c=>by cases c),hE,by simp,QtP t false,by omega,QqK t false⟩ ?_
 rintro f x τ ⟨p,ts,u,rfl,hB,hs,hf,he,hn,hp,hfp,hz⟩ R' hR'
 simp only [Qo,RR]
 obtain ⟨f,rfl⟩:∃g,f=g+1:=⟨f - 1,by omega⟩
 by_cases c:p<t.length
 ·have g:(p:Int)<(t.length:Int):=by omega
  have dc:=List.drop_eq_getElem_cons c
  rw [toks,dc] at he
  dsimp only at he
  rw [dc] at hz
  obtain ⟨z1,z2,z3⟩:=Qvw hz
  simp only [g,Q2 c,RR]
  refine QiU ?_
  simp only [(bldT (Jb t[p]) 0 ⟨#[]⟩).2.1,Qj c (show t.length≤9223372036854775807 by omega),RR]
  intro φ hφ
  refine QG (es:=[[iv 0,iv 0,str ⟨#[]⟩]]) (cs:=Qw ⟨Jb t[p],0,⟨#[]⟩⟩) (AH.set_same ..) (by simp) rfl rfl rfl (Q5 _) ?_
  simp only [List.set_cons_zero,AH.set_set]
  refine UC (P:=fun x τ'=>∃(q:Nat) (tk:Tok),x=(str (bs t),u,iv (q:Int),iv (p:Int),.ptr φ 0 0 0,())∧τ'=τ.set φ ⟨0,3,[Qw tk]⟩∧(120≤ts.length→E=([],2,p))∧(ts.length<120→toks t f (q+skp false (t.drop q)) (ts++[tk])=E)∧q≤t.length∧p<q) ?_ ?_
  ·rintro x τ' ⟨q,tk,rfl,rfl,h1,h2,h3,h4⟩
   refine QI hφ rfl ?_
   have hlen:lenS u=some (iv (ts.length:Int)):=by have:=Q9 hB;simpa using this
   simp only [hlen,RR]
   by_cases cm:120≤ts.length
   ·have gm:(120:Int)≤(ts.length:Int):=by omega
    simp only [gm,RR]
    rw [h1 cm] at h
    exact Qnz hs h
   ·have gm:¬(120:Int)≤(ts.length:Int):=by omega
    simp only [gm,Qs (QaW tk),RR]
    refine QrQ (row:=Qw tk) hB QtR (by omega) rfl (Q5 tk) (by simp;omega) fun u' τ2 hB' hK hfam=>?_
    refine QiV h3 (by omega) ?_
    simp only [RR]
    have hsk:=QtP (t.drop q) false
    rw [List.length_drop] at hsk
    refine hR' _ _ f τ2 (by omega) (.refl _) ⟨q+skp false (t.drop q),ts++[tk],u',rfl,by simpa using hB',hK.sub hs hf,fun ψ hψ=>(hfam ψ hψ).elim (hf ψ) fun d=>hs.none d,h2 (by omega),by simp;omega,by omega,by omega,QzY t q⟩
  ·intro k hk
   have hF:(τ.set φ ⟨0,3,[Qw ⟨Jb t[p],0,⟨#[]⟩⟩]⟩) φ=some ⟨0,3,[Qw ⟨Jb t[p],0,⟨#[]⟩⟩]⟩:=AH.set_same ..
   have el:=Qz (st:=0) (i:=0) (off:=0) (c:=iv (Jb t[p])) hF rfl rfl
   simp only [el,RR]
   by_cases cm:Jb t[p]=0
   ·rw [if_neg (by simp [cm])] at he
    simp only [cm,RR]
    refine QqJ hp (by omega) ?_
    rw [dc]
    have hw:=QtQ (t[p]::t.drop (p+1))
    have hw1:1≤wrd (t[p]::t.drop (p+1)):=by rw [QqH z2 z3 z1 cm];omega
    have hlc:(t[p]::t.drop (p+1)).length=t.length - p:=by rw [←dc,List.length_drop]
    generalize hW:wrd (t[p]::t.drop (p+1))=W at*
    simp only [RR]
    rw [QqL (a:=p) (b:=p+W) (by omega) (by omega),show p+W - p=W by omega,dc]
    simp only [RR]
    refine Qpy (by rw [List.length_take];omega) ?_
    generalize Qah ((t[p]::t.drop (p+1)).take W)=wt at*
    have e0:aext (.tup [.agg (Qw wt.1),bv wt.2]) 0=some (.agg (Qw wt.1)):=rfl
    have e1:aext (.tup [.agg (Qw wt.1),bv wt.2]) 1=some (bv wt.2):=rfl
    simp only [e0,e1,RR]
    intro φ9 h9
    refine QG (es:=[[iv 0,iv 0,str ⟨#[]⟩]]) (cs:=Qw wt.1) (AH.set_same ..) (by simp) rfl rfl rfl (Q5 _) ?_
    simp only [List.set_cons_zero,AH.set_set]
    refine QI h9 rfl ?_
    cases hw2:wt.2 with
    |false=>
     rw [if_pos hw2] at he
     rw [←he] at h
     simp only [RR]
     exact Qnz (.set hs _ (hs.none hφ)) h
    |true=>
     rw [if_neg (by rw [hw2];simp)] at he
     simp only [Qs (QaW wt.1),RR]
     refine QG (es:=[Qw ⟨0,0,⟨#[]⟩⟩]) (cs:=Qw wt.1) (by rw [AH.set_same]) (by simp) rfl rfl rfl (Q5 _) ?_
     simp only [List.set_cons_zero,AH.set_set]
     refine hk _ _ ⟨p+W,wt.1,rfl,rfl,fun c2=>?_,fun c2=>?_,by omega,by omega⟩
     ·rw [if_pos c2] at he;exact he.symm
     ·rw [if_neg (by omega)] at he;exact he
   ·rw [if_pos (by simpa using cm)] at he
    simp only [cm,RR]
    refine hk _ _ ⟨p+1,⟨Jb t[p],0,⟨#[]⟩⟩,rfl,rfl,fun c2=>?_,fun c2=>?_,by omega,by omega⟩
    ·rw [if_pos c2] at he;exact he.symm
    ·rw [if_neg (by omega)] at he;exact he
 ·have g:¬(p:Int)<(t.length:Int):=by omega
  obtain rfl:p=t.length:=by omega
  rw [toks,List.drop_length] at he
  dsimp only at he
  rw [←he] at h
  simp only [g,RR]
  refine QU (a':= .tup [roT ts,iv 0,iv 0]) hs (.tup rfl fun j hj=>?_) h
  match j,hj with
  |0,_=>exact UL hB hf rfl (by intro c hc;obtain ⟨o,_,rfl⟩:=List.mem_map.1 hc;rfl) fun _ _ _ _=> .same _
  |1,_=>exact .same _
  |2,_=>exact .same _
theorem QAg (c a:Int) (es:List (List AV)):bld [iv 0,iv 0,.val (.slice none 0 0)] [(0,1),(1,1),(2,1)] [(0,iv c),(1,iv a),(2,.ro es)]=some (.agg [iv c,iv a,.ro es]):=rfl
theorem QnB {t:List UInt8} (hl:t.length≤1048576) (h:R (.ret (.agg [iv (tokR t).2.1,iv ((tokR t).2.2:Nat),roT (tokR t).1])) σ):acall TP QeG [str (bs t)] σ R:=by
 refine QjJ ?_
 unfold QfS x144;dsimp only [den,dE,di,tupL,lTup,dwat,Qe,List.map,Option.map,den0,den1,den2,den3,den4]
 intro φ hφ
 unfold tokR at h
 simp only [Qo,RR]
 by_cases c:400<t.length
 ·have g:(400:Int)<(t.length:Int):=by omega
  rw [if_pos c] at h
  have e:bld [iv 0,iv 0,.val (.slice none 0 0)] [(0,1),(1,1),(2,1)] [(0,iv 2)]=some (.agg [iv 2,iv 0,.val (.slice none 0 0)]):=rfl
  simp only [g,e,RR]
  refine Qdl (cs':=[iv 2,iv 0,roT []]) hφ rfl rfl (by intro x hx;simp at hx;rcases hx with rfl|rfl|rfl<;>rfl) rfl (fun j hj=>?_) h
  match j,hj with
  |0,_=>exact .same _
  |1,_=>exact .same _
  |2,_=>exact .nil
 ·have g:¬(400:Int)<(t.length:Int):=by omega
  rw [if_neg c] at h
  simp only [g,RR]
  refine QnA (by omega) ?_
  generalize toks t (t.length+1) (skp false t) []=E at h ⊢
  have e0:aext (.tup [roT E.1,iv E.2.1,iv (E.2.2:Nat)]) 0=some (roT E.1):=rfl
  have e1:aext (.tup [roT E.1,iv E.2.1,iv (E.2.2:Nat)]) 1=some (iv E.2.1):=rfl
  have e2:aext (.tup [roT E.1,iv E.2.1,iv (E.2.2:Nat)]) 2=some (iv (E.2.2:Nat)):=rfl
  simp only [e0,e1,e2,QAg,RR]
  exact QbG hφ rfl rfl (by intro x hx;simp at hx;rcases hx with rfl|rfl|rfl<;>rfl) h
end Go.Proofs.YtggnjjalfnhiiaaGreatDoor.E
/- Data of a text: the plain law, and the steps of the reference's way. -/
namespace Go.Proofs.YtggnjjalfnhiiaaGreatDoor.E
open Go Go.RowKit
set_option maxRecDepth 100000
abbrev Opn:=List (Nat × Bool)
abbrev Rds:=List Dat × Opn
def topP (o:Opn):Int:=match o.getLast? with
 |none=> -1
 |some p=>(p.1:Int)
def J6 (o:Opn):Opn:=(o.reverse.dropWhile fun p=>p.2).reverse
def Up (s:Rds):Bool:=decide (80≤s.1.length)||decide (12≤s.2.length)
def datP (x:Dat) (o:Opn):Dat:={x with parent:=topP o}
def putR (x:Dat) (s:Rds):Rds × Int:=if Up s then (s,2) else ((s.1++[datP x s.2],s.2),0)
def lisD:Dat:=⟨4,0,0,⟨#[]⟩⟩
def quoD:Dat:=⟨3,0,0,⟨#[113,117,111,116,101]⟩⟩
def opR (q:Bool) (s:Rds):Rds:=((putR lisD s).1.1,s.2++[(s.1.length,q)])
def Jq (q:Bool) (s:Rds):Rds × Int:=if Up s then (s,2) else if q then putR quoD (opR q s) else (opR q s,0)
def Qdm (s:Rds):Rds × Int:=match s.2.getLast? with
 |none=>(s,1)
 |some p=>if p.2 then (s,1) else ((s.1,J6 s.2.dropLast),0)
def Qd8 (x:Dat) (s:Rds):Rds × Int:=if Up s then (s,2) else ((s.1++[datP x s.2],J6 s.2),0)
def Jc (t:Tok) (s:Rds):Rds × Int:=
 if t.kind=1 then Jq false s
 else if t.kind=3 then Jq true s
 else if t.kind=2 then Qdm s
 else Qd8 ⟨t.kind - 3,0,t.num,t.name⟩ s
def UP:List Tok→Nat→Rds→List Dat × Int × Nat
 |[],i,s=>if s.1=[]∨s.2≠[] then ([],1,i) else (s.1,0,0)
 |t::r,i,s=>if 0<i∧s.2=[] then ([],1,i) else if (Jc t s).2≠0 then ([],(Jc t s).2,i) else UP r (i+1) (Jc t s).1
def QZ (t:List UInt8):List Dat × Int × Nat:=if (tokR t).2.1≠0 then ([],(tokR t).2.1,(tokR t).2.2) else UP (tokR t).1 0 ([],[])
def SmR (s:Rds):Prop:=s.1.length≤81∧s.2.length≤13
theorem Qed {s:Rds} (h:Up s=false):s.1.length<80∧s.2.length<12:=by
 simp only [Up,Bool.or_eq_false_iff,decide_eq_false_iff_not] at h
 omega
theorem QrR {x:Dat} {s:Rds} (h:s.1.length≤80∧s.2.length≤12):(putR x s).1.1.length≤80∧(putR x s).1.2.length≤12:=by
 unfold putR
 split
 ·exact h
 ·rename_i c
  have:=Qed (by simpa using c)
  simp;omega
theorem Qpc (o:Opn):(J6 o).length≤o.length:=by
 unfold J6
 rw [List.length_reverse]
 exact Nat.le_trans (List.Sublist.length_le (List.dropWhile_sublist _)) (by simp)
theorem Qpd {t:Tok} {s:Rds} (h:s.1.length≤80∧s.2.length≤12):(Jc t s).1.1.length≤80∧(Jc t s).1.2.length≤12:=by
 have hb:∀q,(Jq q s).1.1.length≤80∧(Jq q s).1.2.length≤12:=by
  intro q
  unfold Jq
  split
  ·exact h
  ·rename_i c
   have c:=Qed (by simpa using c)
   have h2:(opR q s).1.length≤80∧(opR q s).2.length≤12:=by
    have:=QrR (x:=lisD) h
    simp only [opR,List.length_append,List.length_cons,List.length_nil]
    omega
   split
   ·exact QrR h2
   ·exact h2
 unfold Jc
 split
 ·exact hb _
 split
 ·exact hb _
 split
 ·unfold Qdm
  split
  ·exact h
  ·split
   ·exact h
   ·refine ⟨h.1,Nat.le_trans (Qpc _) ?_⟩
    simp;omega
 ·unfold Qd8
  split
  ·exact h
  ·rename_i c
   have c:=Qed (by simpa using c)
   have:=Qpc s.2
   simp;omega
variable [L:Lam]
variable {σ τ τ':AH} {R:AEnd→AH→Prop}
theorem Uu {n:Nat} (h:1≤n) (h2:n≤1000000):ibin .sub (iv (n:Int)) (.val (.int .i64 1))=some (iv ((n - 1:Nat):Int)):=by
 rw [QR (by omega) (by omega)]
 congr 3;omega
def fdR (s:Rds):List Fd:=[.lst 4 (s.1.map Qc),.lst 1 (s.2.map fun p=>[iv (p.1:Int)]),.lst 1 (s.2.map fun p=>[bv p.2])]
theorem Qki {X:Type} {c:X→AV} {v:AV} {o:List X} (h:Bfj τ 1 v (o.map fun p=>[c p])) {p:X} (hp:o.getLast? =some p):∃φ st,idx 1 v (iv ((o.length - 1:Nat):Int)) τ=some (.ptr φ st (o.length - 1) 0)∧lod (.ptr φ st (o.length - 1) 0) τ=some (c p):=by
 have hne:0<o.length:=by
  cases o with
  |nil=>cases hp
  |cons a r=>simp
 have hl:o.length - 1<(o.map fun p=>[c p]).length:=by rw [List.length_map];omega
 obtain ⟨φ,st,e1,e2⟩:=h.at hl
 refine ⟨φ,st,e1,e2 0 _ ?_⟩
 rw [List.getLast?_eq_getElem?] at hp
 have hl2:o.length - 1<o.length:=by omega
 rw [List.getElem?_eq_getElem hl2] at hp
 rw [List.getElem_map,Option.some.inj hp]
 rfl
theorem Jo {X:Type} {enc:X→List AV} {sz:Nat} {v:AV} {o:List X} (h:Bfj τ sz v (o.map enc)):lenS v=some (iv (o.length:Int)):=by rw [h.len,List.length_map]
section
variable {φm:Nat} {s:Rds}
theorem Qb0 {X:Type} {o:List X} (h:o≠[]):∃p,o.getLast? =some p:=⟨_,List.getLast?_eq_some_getLast h⟩
theorem Qe4 {x:Dat} (h:MSt σ τ φm (fdR s)) (hn:SmR s) (h1:∀τ',MSt σ τ' φm (fdR (putR x s).1)→R (.ret (iv (putR x s).2)) τ'):acall TP Qis [.ptr φm 0 0 0,.agg (Qc x)] τ R:=by
 refine Qm9 ?_
 unfold QjV x213;dsimp only [den,dE,di,tupL,lTup,dwat,Qe,List.map,Option.map,den0,den1,den2,den3,den4]
 rw [Qqa]
 intro ψ hψ
 have hs:AH.Sub τ (τ.set ψ ⟨0,4,[Qc x]⟩):= .set (.refl τ) _ hψ
 have hg:=h.grow hs
 obtain ⟨vd,e0,b0⟩:=h.lst (i:=0) rfl
 obtain ⟨vo,e1,b1⟩:=h.lst (i:=1) rfl
 have e0':=Jr hs e0
 have e1':=Jr hs e1
 have l0:=Jo b0
 have l1:=Jo b1
 have e4:(Qc x).length=4:=rfl
 simp only [e4,e0',e1',l0,l1,RR]
 unfold putR at h1
 have hr:Up s=(decide (80≤s.1.length)||decide (12≤s.2.length)):=rfl
 have bad:Up s=true→aret (.val (.int .i64 2)) (τ.set ψ ⟨0,4,[Qc x]⟩) R:=fun hb=>by
  rw [if_pos hb] at h1
  exact Qa (h1 _ hg)
 by_cases c1:80≤s.1.length
 ·have g1:(80:Int)≤(s.1.length:Int):=by omega
  simp only [g1,RR]
  exact bad (by rw [hr];simp [c1])
 have g1:¬(80:Int)≤(s.1.length:Int):=by omega
 by_cases c2:12≤s.2.length
 ·have g2:(12:Int)≤(s.2.length:Int):=by omega
  simp only [g1,g2,e1',l1,RR]
  exact bad (by rw [hr];simp [c2])
 have g2:¬(12:Int)≤(s.2.length:Int):=by omega
 have hrf:Up s=false:=by rw [hr];simp [c1,c2]
 rw [hrf] at h1
 simp only [Bool.false_eq_true,if_false] at h1
 simp only [g1,g2,e1',l1,RR]
 refine Q0 (es:=[Qc x]) (cs:=Qc x) (AH.set_same ..) rfl (by omega) rfl rfl ?_
 rw [AH.set_set]
 have x1:∀a:Int,[Qc x].set 0 ((Qc x).set 1 (iv a))=[Qc {x with parent:=a}]:=fun a=>rfl
 refine UC (P:=fun y τ'=>y=(.ptr φm 0 0 0,.ptr ψ 0 0 0,())∧τ'=τ.set ψ ⟨0,4,[Qc (datP x s.2)]⟩) ?_ ?_
 ·rintro y τ' ⟨rfl,rfl⟩
  refine QI hψ rfl ?_
  simp only [e0,Qs (Qk _),RR]
  rw [lit1 (sz:=4) (row:=Qc (datP x s.2)) rfl rfl (by omega)]
  simp only [RR]
  refine h.app (i:=0) rfl e0 (row:=Qc (datP x s.2)) rfl rfl (Q3 _) (by simp;omega) fun v' τ1 k1=>?_
  simp only [RR,true_and]
  refine k1 _ fun τ2 S2=>?_
  have ef:(fdR s).set 0 (.lst 4 (s.1.map Qc++[Qc (datP x s.2)]))=fdR (s.1++[datP x s.2],s.2):=by simp [fdR]
  rw [ef] at S2
  exact Qa (h1 τ2 S2)
 ·intro k hk
  have hs2:AH.Sub τ (τ.set ψ ⟨0,4,[Qc {x with parent:= -1}]⟩):= .set (.refl τ) _ hψ
  rw [x1]
  by_cases c3:s.2=[]
  ·have g3:¬(0:Int)<(s.2.length:Int):=by rw [c3];simp
   have et:datP x s.2={x with parent:= -1}:=by rw [c3];rfl
   simp only [Jr hs2 e1,l1,g3,RR]
   exact hk _ _ ⟨rfl,by rw [et]⟩
  ·obtain ⟨p,hp⟩:=Qb0 c3
   have hl1:1≤s.2.length:=List.length_pos_iff.2 c3
   have g3:(0:Int)<(s.2.length:Int):=by omega
   obtain ⟨φt,st,t1,t2⟩:=Qki b1 hp
   have t1':idx 1 vo (iv ((s.2.length - 1:Nat):Int)) (τ.set ψ ⟨0,4,[Qc {x with parent:= -1}]⟩)=some (.ptr φt st (s.2.length - 1) 0):=QlE hs2 t1
   simp only [Jr hs2 e1,l1,g3,Uu hl1 (by omega),t1',Jr hs2 t2,RR]
   refine Q0 (es:=[Qc {x with parent:= -1}]) (cs:=Qc {x with parent:= -1}) (AH.set_same ..) rfl (by omega) rfl rfl ?_
   rw [AH.set_set]
   have et:datP x s.2={x with parent:=(p.1:Int)}:=by unfold datP topP;rw [hp]
   exact hk _ _ ⟨rfl,by rw [et];rfl⟩
end
end Go.Proofs.YtggnjjalfnhiiaaGreatDoor.E
/- Data of a text: the reference's way, all of it. -/
namespace Go.Proofs.YtggnjjalfnhiiaaGreatDoor.E
open Go Go.RowKit
set_option maxRecDepth 100000
theorem QnC {o:Opn} {p:Nat × Bool} (h:o.getLast? =some p) (hp:p.2=true):J6 o=J6 o.dropLast:=by
 have hd:o=o.dropLast++[p]:=by
  have hne:o≠[]:=by rintro rfl;cases h
  have:=List.dropLast_concat_getLast hne
  rw [List.getLast?_eq_some_getLast hne] at h
  rw [←Option.some.inj h];exact this.symm
 conv=>lhs;rw [hd]
 unfold J6
 rw [List.reverse_append,List.reverse_singleton,List.singleton_append,List.dropWhile_cons,if_pos hp]
theorem QnD {o:Opn} {p:Nat × Bool} (h:o.getLast? =some p) (hp:p.2=false):J6 o=o:=by
 have hne:o≠[]:=by rintro rfl;cases h
 have hd:o=o.dropLast++[p]:=by
  have:=List.dropLast_concat_getLast hne
  rw [List.getLast?_eq_some_getLast hne] at h
  rw [←Option.some.inj h];exact this.symm
 unfold J6
 rw [hd,List.reverse_append,List.reverse_singleton,List.singleton_append,List.dropWhile_cons,if_neg (by rw [hp];decide),List.reverse_cons,List.reverse_reverse]
variable [L:Lam]
variable {σ τ τ':AH} {R:AEnd→AH→Prop}
theorem Qbx {X Y:Type} (f:X→Y) (o:List X):(o.map f).take (o.length - 1)=o.dropLast.map f:=by
 rw [←List.map_take,List.dropLast_eq_take]
section
variable {φm:Nat} {s:Rds}
theorem QqM {s:Rds} (h:MSt σ τ φm (fdR s)) (hne:s.2≠[]) (hn:s.2.length≤13) {v1:AV} (e1:lod (.ptr φm 0 0 1) τ=some v1):
  ∃v1',slc 1 v1 none (some (iv ((s.2.length - 1:Nat):Int))) none τ=some v1'∧∀k:AH→Prop,(∀τ1 v2,MSt σ τ1 φm ((fdR s).set 1 (.lst 1 (s.2.dropLast.map fun p=>[iv (p.1:Int)])))→lod (.ptr φm 0 0 2) τ1=some v2→lenS v2=some (iv (s.2.length:Int))→
   (∃v2',slc 1 v2 none (some (iv ((s.2.length - 1:Nat):Int))) none τ1=some v2'∧∀k':AH→Prop,(∀τ2,MSt σ τ2 φm (fdR (s.1,s.2.dropLast))→k' τ2)→sto 1 (.ptr φm 0 0 2) v2' τ1 k')→k τ1)→sto 1 (.ptr φm 0 0 1) v1' τ k:=by
 obtain ⟨v1',c1,c2⟩:=h.cut (i:=1) (es:=s.2.map fun p=>[iv (p.1:Int)]) rfl e1 (by simpa using hne) (m:=s.2.length - 1) (by simp)
 refine ⟨v1',c1,fun k hk=>c2 k fun τ1 S1=>?_⟩
 rw [Qbx] at S1
 obtain ⟨v2,g1,g2⟩:=S1.lst (i:=2) (sz:=1) (es:=s.2.map fun p=>[bv p.2]) rfl
 refine hk τ1 v2 S1 g1 (Jo g2) ?_
 obtain ⟨v2',d1,d2⟩:=S1.cut (i:=2) (es:=s.2.map fun p=>[bv p.2]) rfl g1 (by simpa using hne) (m:=s.2.length - 1) (by simp)
 refine ⟨v2',d1,fun k' hk'=>d2 k' fun τ2 S2=>?_⟩
 rw [Qbx] at S2
 exact hk' τ2 S2
theorem Qhx (h:MSt σ τ φm (fdR s)) (hn:SmR s) (h1:∀τ',MSt σ τ' φm (fdR (s.1,J6 s.2))→R (.ret (.tup [])) τ'):acall TP QfB [.ptr φm 0 0 0] τ R:=by
 refine Qk0 ?_
 unfold Qhl x212;dsimp only [den,dE,di,tupL,lTup,dwat,Qe,List.map,Option.map,den0,den1,den2,den3,den4]
 refine QH (fun n x τ'=>∃o:Opn,x=(.ptr φm 0 0 0,())∧MSt σ τ' φm (fdR (s.1,o))∧o.length=n∧o.length≤13∧J6 o=J6 s.2) s.2.length ⟨s.2,rfl,h,rfl,hn.2,rfl⟩ ?_
 rintro n x τ1 ⟨o,rfl,S,rfl,ho,e⟩ R' hR'
 obtain ⟨v1,e1,b1⟩:=S.lst (i:=1) (sz:=1) (es:=o.map fun p=>[iv (p.1:Int)]) rfl
 obtain ⟨v2,e2,b2⟩:=S.lst (i:=2) (sz:=1) (es:=o.map fun p=>[bv p.2]) rfl
 have l1:=Jo b1
 have l2:=Jo b2
 by_cases c:o=[]
 ·subst c
  have g:¬(0:Int)<(([]:Opn).length:Int):=by simp
  simp only [e1,l1,g,RR]
  rw [←e] at h1
  exact Qa (h1 τ1 S)
 ·obtain ⟨p,hp⟩:=Qb0 c
  have hl1:1≤o.length:=List.length_pos_iff.2 c
  have g:(0:Int)<(o.length:Int):=by omega
  obtain ⟨φt,st,t1,t2⟩:=Qki b2 hp
  simp only [e1,l1,g,e2,l2,Uu hl1 (by omega),t1,t2,RR]
  cases hq:p.2 with
  |false=>
   rw [QnD hp hq] at e
   rw [←e] at h1
   simp only [RR]
   exact Qa (h1 τ1 S)
  |true=>
   rw [QnC hp hq] at e
   obtain ⟨v1',k1,k2⟩:=QqM S c ho e1
   simp only [e1,l1,Uu hl1 (by omega),k1,RR]
   refine k2 _ fun τ2 v2 S2 g1 g2 g3=>?_
   obtain ⟨v2',m1,m2⟩:=g3
   simp only [g1,g2,Uu hl1 (by omega),m1,RR,true_and]
   refine m2 _ fun τ3 S3=>?_
   exact hR' _ _ o.dropLast.length τ3 (by simp;omega) (.refl _) ⟨o.dropLast,rfl,S3,rfl,by simp;omega,e⟩
theorem QtS {x:Dat} {s:Rds}:(putR x s).2=if Up s then 2 else 0:=by unfold putR;split<;>rfl
theorem litI {i:Int}:bslR 1 [(.val (.int .i64 0))] 1 [(0,iv i)]=some (.ro [[iv i]]):=lit1 (sz:=1) (row:=[iv i]) rfl rfl (by omega)
theorem Qhy {q:Bool} (h:MSt σ τ φm (fdR s)) (hn:s.1.length≤80∧s.2.length≤12) (h1:∀τ',MSt σ τ' φm (fdR (Jq q s).1)→R (.ret (iv (Jq q s).2)) τ'):acall TP QfA [.ptr φm 0 0 0,bv q] τ R:=by
 refine QkZ ?_
 unfold Qhk x211;dsimp only [den,dE,di,tupL,lTup,dwat,Qe,List.map,Option.map,den0,den1,den2,den3,den4]
 have eb:bld [(.val (.int .i64 0)),(.val (.int .i64 0)),(.val (.int .i64 0)),(.val (.string ⟨#[]⟩))] [(0,1),(1,1),(2,1),(3,1)] [(0,(.val (.int .i64 4)))]=some (.agg (Qc lisD)):=rfl
 simp only [eb,RR]
 refine Qe4 h ⟨by omega,by omega⟩ fun τ1 S1=>?_
 rw [QtS]
 unfold Jq at h1
 cases hr:Up s with
 |true=>
  rw [hr] at h1
  simp only [if_true] at h1
  simp only [if_true,Int.reduceEq,RR]
  unfold putR at S1
  rw [if_pos hr] at S1
  exact Qa (h1 τ1 S1)
 |false=>
  rw [hr] at h1
  simp only [Bool.false_eq_true,if_false] at h1
  have hr2:=Qed hr
  have ep:(putR lisD s).1=(s.1++[datP lisD s.2],s.2):=by unfold putR;rw [if_neg (by rw [hr];decide)]
  rw [ep] at S1
  obtain ⟨v0,e0,b0⟩:=S1.lst (i:=0) rfl
  obtain ⟨v1,e1,b1⟩:=S1.lst (i:=1) rfl
  have l0:=Jo b0
  have hl:(s.1++[datP lisD s.2]).length=s.1.length+1:=by simp
  have es:ibin .sub (iv (((s.1++[datP lisD s.2]).length:Nat):Int)) (.val (.int .i64 1))=some (iv (s.1.length:Int)):=by
   rw [Uu (by omega) (by omega),hl];rfl
  simp only [Bool.false_eq_true,if_false,e0,e1,l0,es,litI,RR]
  refine S1.app (i:=1) rfl e1 (row:=[iv (s.1.length:Int)]) rfl rfl (fun y hy=>by obtain rfl:=List.mem_singleton.1 hy;rfl) (by simp;omega) fun v' τ2 k1=>?_
  simp only [RR,true_and]
  refine k1 _ fun τ3 S3=>?_
  obtain ⟨v2,e2,b2⟩:=S3.lst (i:=2) (sz:=1) (es:=s.2.map fun p=>[bv p.2]) rfl
  simp only [e2,RR,true_and]
  refine bsl1 (row:=[bv q]) (by cases q<;>rfl) (by omega) fun ψ hψ=>?_
  have hs3:AH.Sub τ3 (τ3.set ψ ⟨0,1,[[bv q]]⟩):= .set (.refl _) _ hψ
  have S3':=S3.grow hs3
  refine S3'.app (i:=2) (sz:=1) (es:=s.2.map fun p=>[bv p.2]) rfl (Jr hs3 e2) (row:=[bv q]) ael1 rfl (fun y hy=>by obtain rfl:=List.mem_singleton.1 hy;rfl) (by simp;omega) fun v'' τ4 k2=>?_
  refine k2 _ fun τ5 S5=>?_
  have ef:((fdR (s.1++[datP lisD s.2],s.2)).set 1 (.lst 1 ((s.2.map fun p=>[iv (p.1:Int)])++[[iv (s.1.length:Int)]]))).set 2 (.lst 1 ((s.2.map fun p=>[bv p.2])++[[bv q]]))=fdR (opR q s):=by
   unfold opR;rw [ep];simp [fdR]
  rw [ef] at S5
  cases q with
  |false=>
   simp only [RR]
   exact Qa (h1 τ5 S5)
  |true=>
   have eb2:bld [(.val (.int .i64 0)),(.val (.int .i64 0)),(.val (.int .i64 0)),(.val (.string ⟨#[]⟩))] [(0,1),(1,1),(2,1),(3,1)] [(0,(.val (.int .i64 3))),(3,(.val (.string ⟨#[113,117,111,116,101]⟩)))]=some (.agg (Qc quoD)):=rfl
   simp only [eb2,RR]
   simp only [if_true] at h1
   refine Qe4 S5 ?_ fun τ6 S6=>?_
   ·unfold opR SmR;rw [ep];simp;omega
   ·simp only [RR]
    exact Qa (h1 τ6 S6)
theorem QqN {t:Tok}:bld [(.val (.int .i64 0)),(.val (.int .i64 0)),(.val (.int .i64 0)),(.val (.string ⟨#[]⟩))] [(0,1),(1,1),(2,1),(3,1)] [(0,iv (t.kind - 3)),(2,iv t.num),(3,str t.name)]=some (.agg (Qc ⟨t.kind - 3,0,t.num,t.name⟩)):=rfl
theorem QoF {t:Tok} (hk:1≤t.kind∧t.kind≤6) (h:MSt σ τ φm (fdR s)) (hn:s.1.length≤80∧s.2.length≤12) (h1:∀τ',MSt σ τ' φm (fdR (Jc t s).1)→R (.ret (iv (Jc t s).2)) τ'):acall TP Qck [.ptr φm 0 0 0,.rop (Qw t) 0] τ R:=by
 refine QkY ?_
 unfold Qhj x175;dsimp only [den,dE,di,tupL,lTup,dwat,Qe,List.map,Option.map,den0,den1,den2,den3,den4]
 have l0:∀τ,lod (.rop (Qw t) 0) τ=some (iv t.kind):=fun _=>rfl
 have l1:∀τ,lod (.rop (Qw t) 1) τ=some (iv t.num):=fun _=>rfl
 have l2:∀τ,lod (.rop (Qw t) 2) τ=some (str t.name):=fun _=>rfl
 unfold Jc at h1
 simp only [l0,RR]
 by_cases c1:t.kind=1
 ·rw [if_pos c1] at h1
  simp only [c1,RR]
  refine Qhy (q:=false) h hn fun τ1 S1=>?_
  simp only [RR]
  exact Qa (h1 τ1 S1)
 rw [if_neg c1] at h1
 by_cases c3:t.kind=3
 ·rw [if_pos c3] at h1
  simp only [c3,show ¬(3:Int)=1 by omega,RR]
  refine Qhy (q:=true) h hn fun τ1 S1=>?_
  simp only [RR]
  exact Qa (h1 τ1 S1)
 rw [if_neg c3] at h1
 by_cases c2:t.kind=2
 ·rw [if_pos c2] at h1
  obtain ⟨v1,e1,b1⟩:=h.lst (i:=1) (sz:=1) (es:=s.2.map fun p=>[iv (p.1:Int)]) rfl
  obtain ⟨v2,e2,b2⟩:=h.lst (i:=2) (sz:=1) (es:=s.2.map fun p=>[bv p.2]) rfl
  have g1:=Jo b1
  unfold Qdm at h1
  by_cases c:s.2=[]
  ·have gl:((s.2.length:Nat):Int)=0:=by rw [c];rfl
   have hl:s.2.getLast? =none:=by rw [c];rfl
   rw [hl] at h1
   simp only [c2,show ¬(2:Int)=1 by omega,show ¬(2:Int)=3 by omega,e1,g1,gl,RR]
   exact Qa (h1 τ h)
  ·obtain ⟨p,hp⟩:=Qb0 c
   rw [hp] at h1
   dsimp only at h1
   have hl1:1≤s.2.length:=List.length_pos_iff.2 c
   have gl:¬((s.2.length:Nat):Int)=0:=by omega
   obtain ⟨φt,st,t1,t2⟩:=Qki b2 hp
   simp only [c2,show ¬(2:Int)=1 by omega,show ¬(2:Int)=3 by omega,e1,g1,gl,e2,Uu hl1 (by omega),t1,t2,RR]
   cases hq:p.2 with
   |true=>
    rw [hq] at h1
    simp only [if_true] at h1
    simp only [RR]
    exact Qa (h1 τ h)
   |false=>
    rw [hq] at h1
    simp only [Bool.false_eq_true,if_false] at h1
    obtain ⟨v1',k1,k2⟩:=QqM h c (by omega) e1
    simp only [e1,k1,RR]
    refine k2 _ fun τ2 v3 S2 m1 m2 m3=>?_
    obtain ⟨v3',n1,n2⟩:=m3
    simp only [m1,n1,RR]
    refine n2 _ fun τ3 S3=>?_
    refine Qhx S3 ⟨by simp;omega,by simp;omega⟩ fun τ4 S4=>?_
    simp only [RR]
    exact Qa (h1 τ4 S4)
 rw [if_neg c2] at h1
 have es:ibin .sub (iv t.kind) (.val (.int .i64 3))=some (iv (t.kind - 3)):=QR (by omega) (by omega)
 simp only [c1,c2,c3,l0,l1,l2,es,QqN,RR]
 intro ψ hψ
 simp only [true_and]
 refine QG (es:=[[iv 0,iv 0,iv 0,str ⟨#[]⟩]]) (cs:=Qc ⟨t.kind - 3,0,t.num,t.name⟩) (AH.set_same ..) (by simp) rfl rfl rfl (Q3 _) ?_
 simp only [List.set_cons_zero,AH.set_set,true_and]
 refine QI hψ rfl ?_
 simp only [Qs (Qk _),RR]
 refine Qe4 h ⟨by omega,by omega⟩ fun τ1 S1=>?_
 rw [QtS]
 unfold Qd8 at h1
 unfold putR at S1
 cases hr:Up s with
 |true=>
  rw [hr] at h1 S1
  simp only [if_true] at h1 S1
  simp only [if_true,Int.reduceEq,RR]
  exact Qa (h1 τ1 S1)
 |false=>
  rw [hr] at h1 S1
  have hr2:=Qed hr
  simp only [Bool.false_eq_true,if_false] at h1 S1
  simp only [Bool.false_eq_true,if_false,Int.reduceEq,RR]
  refine Qhx S1 ⟨by simp;omega,by simp;omega⟩ fun τ2 S2=>?_
  simp only [RR]
  exact Qa (h1 τ2 S2)
theorem Qpz {ts:List Tok} (hk:∀t,t∈ts→1≤t.kind∧t.kind≤6) (hl:ts.length≤1000) (h:R (.ret (.tup [roD (UP ts 0 ([],[])).1,iv (UP ts 0 ([],[])).2.1,iv ((UP ts 0 ([],[])).2.2:Nat)])) σ):acall TP QgT [roT ts] σ R:=by
 refine Ql1 ?_
 unfold QiG x145;dsimp only [den,dE,di,tupL,lTup,dwat,Qe,List.map,Option.map,den0,den1,den2,den3,den4]
 have eb:bld [(.val (.slice none 0 0)),(.val (.slice none 0 0)),(.val (.slice none 0 0))] [(0,1),(1,1),(2,1)] []=some (.agg [nilS,nilS,nilS]):=rfl
 simp only [eb,RR]
 intro φm hφ
 refine QG (es:=[[nilS,nilS,nilS]]) (cs:=[nilS,nilS,nilS]) (AH.set_same ..) (by simp) rfl rfl rfl (by intro y hy;simp only [List.mem_cons,List.not_mem_nil,or_false] at hy;rcases hy with rfl|rfl|rfl<;>rfl) ?_
 simp only [List.set_cons_zero,AH.set_set]
 have S0:MSt σ (σ.set φm ⟨0,(fdR ([],[])).length,[[nilS,nilS,nilS]]⟩) φm (fdR ([],[])):=by
  refine MSt.new hφ rfl (fun i f hf=>?_) (by intro v hv;simp only [List.mem_cons,List.not_mem_nil,or_false] at hv;rcases hv with rfl|rfl|rfl<;>rfl)
  match i,hf with
  |0,hf=>obtain rfl:=Option.some.inj hf;exact .nil
  |1,hf=>obtain rfl:=Option.some.inj hf;exact .nil
  |2,hf=>obtain rfl:=Option.some.inj hf;exact .nil
 generalize hE:UP ts 0 ([],[])=E at h
 refine QH (fun n x τ=>∃(i:Nat) (s:Rds),x=(roT ts,.ptr φm 0 0 0,iv (i:Int),())∧MSt σ τ φm (fdR s)∧ts.length - i=n∧i≤ts.length∧s.1.length≤80∧s.2.length≤12∧UP (ts.drop i) i s=E) ts.length ⟨0,([],[]),rfl,S0,by omega,by omega,by simp,by simp,by simpa using hE⟩ ?_
 rintro n x τ ⟨i,s,rfl,S,rfl,hi,n1,n2,e⟩ R' hR'
 obtain ⟨v0,e0,b0⟩:=S.lst (i:=0) (sz:=4) (es:=s.1.map Qc) rfl
 obtain ⟨v1,e1,b1⟩:=S.lst (i:=1) (sz:=1) (es:=s.2.map fun p=>[iv (p.1:Int)]) rfl
 have g0:=Jo b0
 have g1:=Jo b1
 have lt:∀τ:AH,lenS (roT ts)=some (iv (ts.length:Int)):=fun _=>QB _ _
 have no:∀a b:Int,R (.ret (.tup [roD [],iv a,iv b])) σ→aret (.tup [.val (.slice none 0 0),iv a,iv b]) τ R:=fun a b hh=>Qnz S.sub hh
 simp only [QB,RR]
 by_cases c:i<ts.length
 ·have g:(i:Int)<(ts.length:Int):=by omega
  rw [List.drop_eq_getElem_cons c,UP] at e
  have ix:idx 3 (roT ts) (iv (i:Int)) τ=some (.rop (Qw ts[i]) 0):=Qu c QaW
  have rest:¬(0<i∧s.2=[])→acall TP Qck [.ptr φm 0 0 0,.rop (Qw ts[i]) 0] τ (onr (fun v27 σ=>
    og (ibin .neq v27 (.val (.int .i64 0))) fun v29=>
    apick v29 (
     aret (.tup [(.val (.slice none 0 0)),v27,iv (i:Int)]) σ R) (
     og (ibin .add (iv (i:Int)) (.val (.int .i64 1))) fun v14=>
     R' (roT ts,.ptr φm 0 0 0,v14,()) σ)) (fun v σ=>apan v σ R)):=fun hc=>by
   rw [if_neg hc] at e
   refine QoF (hk _ (List.getElem_mem c)) S ⟨n1,n2⟩ fun τ1 S1=>?_
   simp only [RR]
   by_cases c2:(Jc ts[i] s).2=0
   ·rw [if_neg (by simpa using c2)] at e
    have sm:=Qpd (t:=ts[i]) (s:=s) ⟨n1,n2⟩
    simp only [c2,Qj c (by omega),RR]
    exact hR' _ _ (ts.length - (i+1)) τ1 (by omega) (.refl _) ⟨i+1,_,rfl,S1,rfl,c,sm.1,sm.2,e⟩
   ·rw [if_pos (by simpa using c2)] at e
    rw [←e] at h
    simp only [c2,RR]
    exact Qnz S1.sub h
  by_cases c0:0<i
  ·have g0':(0:Int)<(i:Int):=by omega
   by_cases c1:s.2=[]
   ·rw [if_pos ⟨c0,c1⟩] at e
    rw [←e] at h
    have gl:((s.2.length:Nat):Int)=0:=by rw [c1];rfl
    simp only [g,g0',e1,g1,gl,RR]
    exact no _ _ h
   ·have gl:¬((s.2.length:Nat):Int)=0:=by have:=List.length_pos_iff.2 c1;omega
    simp only [g,g0',e1,g1,gl,ix,RR]
    have hh:=rest fun k=>c1 k.2
    simpa only [RR] using hh
  ·have g0':¬(0:Int)<(i:Int):=by omega
   simp only [g,g0',ix,RR]
   have hh:=rest fun k=>c0 k.1
   simpa only [RR] using hh
 ·have g:¬(i:Int)<(ts.length:Int):=by omega
  obtain rfl:i=ts.length:=by omega
  rw [List.drop_length,UP] at e
  have bad:s.1=[]∨s.2≠[]→aret (.tup [.val (.slice none 0 0),iv 1,iv (ts.length:Int)]) τ R:=fun hb=>by
   rw [if_pos hb] at e
   rw [←e] at h
   exact no _ _ h
  by_cases c1:s.1=[]
  ·have gl:((s.1.length:Nat):Int)=0:=by rw [c1];rfl
   simp only [g,e0,g0,gl,RR]
   exact bad (.inl c1)
  ·have gl:¬((s.1.length:Nat):Int)=0:=by have:=List.length_pos_iff.2 c1;omega
   by_cases c2:s.2=[]
   ·have gl2:¬(0:Int)<((s.2.length:Nat):Int):=by rw [c2];simp
    rw [if_neg (by rintro (k|k);exact c1 k;exact k c2)] at e
    rw [←e] at h
    simp only [g,e0,g0,gl,e1,g1,gl2,RR]
    refine QU (a':= .tup [roD s.1,iv 0,iv 0]) S.sub (.tup rfl fun j hj=>?_) h
    match j,hj with
    |0,_=>exact S.fzl (i:=0) rfl e0 (by intro c hc;obtain ⟨x,_,rfl⟩:=List.mem_map.1 hc;rfl)
    |1,_=>exact .same _
    |2,_=>exact .same _
   ·have gl2:(0:Int)<((s.2.length:Nat):Int):=by have:=List.length_pos_iff.2 c2;omega
    simp only [g,e0,g0,gl,e1,g1,gl2,RR]
    exact bad (.inr c2)
theorem QsJ (l:List UInt8):1≤(Qah l).1.kind∧(Qah l).1.kind≤6:=by
 unfold Qah
 split
 ·simp
 split
 ·simp
 split<;>simp
theorem Qyq (t:List UInt8):∀f p out,(∀x,x∈out→1≤Tok.kind x∧Tok.kind x≤6)→out.length≤120→(∀x,x∈(toks t f p out).1→1≤Tok.kind x∧Tok.kind x≤6)∧(toks t f p out).1.length≤120:=by
 intro f
 induction f with
 |zero=>intro p out h hn;exact ⟨h,hn⟩
 |succ f ih=>
  intro p out h hn
  have no:(∀x,x∈([]:List Tok)→1≤Tok.kind x∧Tok.kind x≤6)∧([]:List Tok).length≤120:=⟨(fun x hx=>by cases hx),by simp⟩
  rw [toks]
  split
  ·exact ⟨h,hn⟩
  ·rename_i c r _
   split
   ·split
    ·exact no
    ·rename_i hm hl
     refine ih _ _ (fun x hx=>?_) (by simp;omega)
     rcases List.mem_append.1 hx with k|k
     ·exact h x k
     ·obtain rfl:=List.mem_singleton.1 k
      show 1≤Jb c∧Jb c≤6
      unfold Jb at hm ⊢
      split
      ·omega
      split
      ·omega
      split
      ·omega
      ·rename_i a1 a2 a3;rw [if_neg a1,if_neg a2,if_neg a3] at hm;exact absurd rfl hm
   ·split
    ·exact no
    ·split
     ·exact no
     ·rename_i hl
      refine ih _ _ (fun x hx=>?_) (by simp;omega)
      rcases List.mem_append.1 hx with k|k
      ·exact h x k
      ·obtain rfl:=List.mem_singleton.1 k
       exact QsJ _
theorem QrS (t:List UInt8):(∀x,x∈(tokR t).1→1≤Tok.kind x∧Tok.kind x≤6)∧(tokR t).1.length≤120:=by
 unfold tokR
 split
 ·exact ⟨(fun x hx=>by cases hx),by simp⟩
 ·exact Qyq t _ _ [] (fun x hx=>by cases hx) (by simp)
theorem QAh (c a:Int) (es:List (List AV)):bld [iv 0,iv 0,.val (.slice none 0 0)] [(0,1),(1,1),(2,1)] [(0,iv c),(1,iv a),(2,.ro es)]=some (.agg [iv c,iv a,.ro es]):=rfl
theorem QnE {t:List UInt8} (hl:t.length≤1048576) (h:R (.ret (.agg [iv (QZ t).2.1,iv ((QZ t).2.2:Nat),roD (QZ t).1])) σ):acall TP QeD [str (bs t)] σ R:=by
 refine QjH ?_
 unfold QfQ x110;dsimp only [den,dE,di,tupL,lTup,dwat,Qe,List.map,Option.map,den0,den1,den2,den3,den4]
 intro φ hφ
 refine QnB hl ?_
 simp only [RR]
 intro φ2 hφ2
 have hT:=QrS t
 unfold QZ at h
 generalize tokR t=E at h hT ⊢
 refine QG (es:=[[iv 0,iv 0,.val (.slice none 0 0)]]) (cs:=[iv E.2.1,iv (E.2.2:Nat),roT E.1]) (AH.set_same ..) (by simp) rfl rfl rfl (by intro y hy;simp only [List.mem_cons,List.not_mem_nil,or_false] at hy;rcases hy with rfl|rfl|rfl<;>rfl) ?_
 simp only [List.set_cons_zero,AH.set_set]
 refine QI hφ2 rfl ?_
 have l0:∀τ,lod (.rop [iv E.2.1,iv (E.2.2:Nat),roT E.1] 0) τ=some (iv E.2.1):=fun _=>rfl
 have l1:∀τ,lod (.rop [iv E.2.1,iv (E.2.2:Nat),roT E.1] 1) τ=some (iv (E.2.2:Nat)):=fun _=>rfl
 have l2:∀τ,lod (.rop [iv E.2.1,iv (E.2.2:Nat),roT E.1] 2) τ=some (roT E.1):=fun _=>rfl
 simp only [l0,RR]
 by_cases c:E.2.1=0
 ·rw [if_neg (by simpa using c)] at h
  simp only [c,l2,RR]
  refine Qpz hT.1 (by omega) ?_
  generalize UP E.1 0 ([],[])=D at h ⊢
  have e0:aext (.tup [roD D.1,iv D.2.1,iv (D.2.2:Nat)]) 0=some (roD D.1):=rfl
  have e1:aext (.tup [roD D.1,iv D.2.1,iv (D.2.2:Nat)]) 1=some (iv D.2.1):=rfl
  have e2:aext (.tup [roD D.1,iv D.2.1,iv (D.2.2:Nat)]) 2=some (iv (D.2.2:Nat)):=rfl
  simp only [e0,e1,e2,QAh,RR]
  exact QbG hφ rfl rfl (by intro x hx;simp at hx;rcases hx with rfl|rfl|rfl<;>rfl) h
 ·rw [if_pos (by simpa using c)] at h
  have eb:bld [iv 0,iv 0,.val (.slice none 0 0)] [(0,1),(1,1),(2,1)] [(0,iv E.2.1),(1,iv (E.2.2:Nat))]=some (.agg [iv E.2.1,iv (E.2.2:Nat),.val (.slice none 0 0)]):=rfl
  simp only [c,l0,l1,eb,RR]
  refine Qdl (cs':=[iv E.2.1,iv (E.2.2:Nat),roD []]) hφ rfl rfl (by intro x hx;simp at hx;rcases hx with rfl|rfl|rfl<;>rfl) rfl (fun j hj=>?_) h
  match j,hj with
  |0,_=>exact .same _
  |1,_=>exact .same _
  |2,_=>exact .nil
end
end Go.Proofs.YtggnjjalfnhiiaaGreatDoor.E
/- Cores that are made to code: the reference's way. -/
namespace Go.Proofs.YtggnjjalfnhiiaaGreatDoor.E
open Go Go.RowKit
set_option maxRecDepth 100000
variable [L:Lam]
variable {σ τ τ':AH} {R:AEnd→AH→Prop}
theorem QbJ {sz:Nat} {a x:AV} {es:List (List AV)} {z row:List AV} {k:AV→AH→Prop} (h:Buf τ sz a es) (he:Jy sz [z] [(0,x)]=some [row]) (hs:sz≤1000) (hr:row.length=sz) (ho:∀y,y∈row→y.one=true) (hn:es.length+1≤4294967296)
  (hk:∀a' τ',Buf τ' sz a' (es++[row])→Kp (famL a) τ τ'→(∀ψ,ψ∈famL a'→ψ∈famL a∨τ ψ=none)→k a' τ'):bsl sz z 1 [(0,x)] τ fun v τ=>E.app sz a v τ k:=by
 refine bsl1 he (by omega) fun ψ hψ=>?_
 have hs1:AH.Sub τ (τ.set ψ ⟨0,sz,[row]⟩):= .set (.refl τ) _ hψ
 refine Ud ((Kp.of_sub (F:=[]) hs1).buf h fun _ _ c=>by cases c) ael1 (by intro c hc;obtain rfl:=List.mem_singleton.1 hc;exact hr) (by intro c hc;obtain rfl:=List.mem_singleton.1 hc;exact ho) (by simpa using hn) fun a' τ' hB hK hfam=>hk a' τ' hB (fun χ hχ hn=>?_) fun χ hχ=>?_
 ·rw [hK χ hχ (by rw [AH.set_ne' (by rintro rfl;exact hn hψ)];exact hn),AH.set_ne' (by rintro rfl;exact hn hψ)]
 ·rcases hfam χ hχ with c|c
  ·exact .inl c
  ·exact .inr (hs1.none c)
theorem QpA {cs:List Cor} {x:Nat} (hl:cs.length≤1000000) (h:R (.ret (roK (QE cs x))) σ):acall TP QgU [roC cs,iv (x:Int)] σ R:=by
 refine Ql2 ?_
 unfold QiH x147;dsimp only [den,dE,di,tupL,lTup,dwat,Qe,List.map,Option.map,den0,den1,den2,den3,den4]
 refine bsl0 ?_
 refine J4 cs.length (fun i y τ=>∃u,y=(roC cs,iv (x:Int),u,iv (i:Int),())∧Buf τ 1 u (innK (Qcu cs i x))∧AH.Sub σ τ∧∀ψ,ψ∈famL u→σ ψ=none) ⟨.emp,rfl,.inl ⟨.inr rfl,rfl⟩,.refl σ,fun ψ c=>by cases c⟩ ?_
 rintro i _ τ hi ⟨u,rfl,hB,hs,hf⟩ R' hR'
 simp only [QB,RR]
 by_cases hlt:i<cs.length
 ·have g:(i:Int)<(cs.length:Int):=by omega
  have l1:∀τ,lod (.rop (Qr (Qi cs i)) 1) τ=some (iv (Qi cs i).parent):=fun _=>rfl
  simp only [g,Qu hlt UJ,QcP hlt,l1,jn,RR]
  by_cases c:(Qi cs i).parent=(x:Int)
  ·simp only [c,RR]
   refine QbJ (row:=[iv (i:Int)]) hB rfl (by omega) rfl (fun y hy=>by obtain rfl:=List.mem_singleton.1 hy;rfl) (by have:=Qpb cs i x;simp;omega) fun u' τ' hB' hK hfam=>?_
   simp only [Qj hlt (by omega),RR]
   refine hR' _ _ _ hlt (.refl _) ⟨u',rfl,?_,hK.sub hs hf,fun ψ hψ=>(hfam ψ hψ).elim (hf ψ) fun d=>hs.none d⟩
   rw [QcZ,if_pos c]
   simpa [innK] using hB'
  ·simp only [c,Qj hlt (by omega),RR]
   refine hR' _ _ _ hlt (.refl _) ⟨u,rfl,?_,hs,hf⟩
   rw [QcZ,if_neg c,List.append_nil];exact hB
 ·have g:¬(i:Int)<(cs.length:Int):=by omega
  obtain rfl:i=cs.length:=by omega
  simp only [g,RR]
  exact QU hs (UL hB hf rfl (by intro c hc;obtain ⟨o,_,rfl⟩:=List.mem_map.1 hc;rfl) fun _ _ _ _=> .same _) h
theorem Qyr {a:AV} {es:List (List AV)} {k:Int} {ds:List Dat} (h:Buf τ 4 a es):bld [(.val (.int .i64 0)),(.val (.int .i64 0)),(.val (.int .i64 0)),(.val (.int .i64 0)),(.val (.int .i64 0)),(.val (.string ⟨#[]⟩)),(.val (.slice none 0 0))] [(0,1),(1,1),(2,1),(3,1),(4,1),(5,1),(6,1)] [(0,iv k),(6,a)]=some (.agg (Qm (ocD k ds) a)):=by
 rcases h with ⟨rfl|rfl,_⟩|⟨φ,st,rfl,_⟩<;>rfl
theorem QrT {cs:List Cor} {f j:Nat} {l:List Nat} (h:j<l.length):visK cs f l=visK cs f (l.take j)+((vis cs f l[j]).length+visK cs f (l.drop (j+1))):=by
 have h1:=Qml cs f (l.take j) (l.drop j)
 rw [List.take_append_drop] at h1
 rw [h1,List.drop_eq_getElem_cons h]
 simp only [visK,List.map_cons,List.sum_cons]
section
variable {φm:Nat} {B:St} {cs:List Cor}
def Qv4 (cs:List Cor) (f:Nat) (σ:AH) (φm:Nat):Prop:=∀(x i:Nat) (e:Bool) (B:St) (τ:AH) (R:AEnd→AH→Prop),x<cs.length→cs.length≤f+x→i<B.length→CSt [roC cs] σ τ φm B→totS B+4*(vis cs f x).length≤1000→
 (∀τ',CSt [roC cs] σ τ' φm (mkC cs f x i e B)→R (.ret (.tup [])) τ')→acall TP QaT [.ptr φm 0 0 0,iv (x:Int),iv (i:Int),bv e] τ R
theorem QaP {B:St} {N:Nat} (h:totS B≤N) (i:Nat):Qd B i≤N:=Nat.le_trans (Qvb B i) h
set_option maxHeartbeats 400000 in
theorem Qri {f:Nat} (hw:WfC cs) (hC:Qv4 cs f σ φm) {k1 k2 k3 i:Nat} {e:Bool} (hx:∀k,k∈[k1,k2,k3]→k<cs.length∧cs.length≤f+k) (h:CSt [roC cs] σ τ φm B) (hi:i<B.length) (ht:totS B+4*(1+((vis cs f k1).length+((vis cs f k2).length+(vis cs f k3).length)))≤1000) {B1 B2 B3 B4 B5 D:St}
  (d1:B1=mkC cs f k1 i false B) (d2:B2=mkC cs f k2 i e (putS B1 i (oc0 6))) (d3:B3=if e then B2 else putS B2 i (oc0 5)) (d4:B4=setS B3 i (Qd B1 i) (Qd B3 i:Int)) (d5:B5=mkC cs f k3 i e B4) (hD:D=if e then B5 else setS B5 i (Qd B2 i) (Qd B5 i:Int))
  (h1:∀τ',CSt [roC cs] σ τ' φm D→R (.ret (.tup [])) τ'):acall TP Qjl [.ptr φm 0 0 0,roK [k1,k2,k3],iv (i:Int),bv e] τ R:=by
 have l1:leS B B1:=by rw [d1];exact QM ..
 have l2:leS (putS B1 i (oc0 6)) B2:=by rw [d2];exact QM ..
 have l3:leS B2 B3:=by rw [d3];cases e<;>first|exact QV _ _ _|exact leS.refl _
 have l4:leS B3 B4:=by rw [d4];exact Qan ..
 have l5:leS B4 B5:=by rw [d5];exact QM ..
 have i1:i<B1.length:=Nat.lt_of_lt_of_le hi l1.1
 have i1':i<(putS B1 i (oc0 6)).length:=by rw [Q8];exact i1
 have i2:i<B2.length:=Nat.lt_of_lt_of_le i1' l2.1
 have i3:i<B3.length:=Nat.lt_of_lt_of_le i2 l3.1
 have i4:i<B4.length:=Nat.lt_of_lt_of_le i3 l4.1
 have i5:i<B5.length:=Nat.lt_of_lt_of_le i4 l5.1
 have t1:=QkD hw f k1 i false B (hx k1 (by simp)).1 (hx k1 (by simp)).2
 rw [←d1] at t1
 have t2:=JQ B1 i (oc0 6)
 have t3:=QkD hw f k2 i e (putS B1 i (oc0 6)) (hx k2 (by simp)).1 (hx k2 (by simp)).2
 rw [←d2] at t3
 have t4:totS B3≤totS B2+1:=by rw [d3];cases e<;>first|exact JQ _ _ _|exact Nat.le_succ _
 have t5:totS B4≤totS B3:=by rw [d4];exact QkC ..
 have n1:Qd B1 i<Qd B3 i:=by
  have:=l2.2 i i1'
  rw [Qac,if_pos ⟨rfl,i1⟩] at this
  have:=l3.2 i i2
  omega
 have x0:∀τ,idx 1 (roK [k1,k2,k3]) (.val (.int .i64 0)) τ=some (.rop [iv (k1:Int)] 0):=fun τ=>Q1 (j:=0) (by simp)
 have x1:∀τ,idx 1 (roK [k1,k2,k3]) (.val (.int .i64 1)) τ=some (.rop [iv (k2:Int)] 0):=fun τ=>Q1 (j:=1) (by simp)
 have x2:∀τ,idx 1 (roK [k1,k2,k3]) (.val (.int .i64 2)) τ=some (.rop [iv (k3:Int)] 0):=fun τ=>Q1 (j:=2) (by simp)
 have eb6:bld [(.val (.int .i64 0)),(.val (.int .i64 0)),(.val (.int .i64 0)),(.val (.int .i64 0)),(.val (.int .i64 0)),(.val (.string ⟨#[]⟩)),(.val (.slice none 0 0))] [(0,1),(1,1),(2,1),(3,1),(4,1),(5,1),(6,1)] [(0,(.val (.int .i64 6)))]=some (.agg [iv 6,iv 0,iv 0,iv 0,iv 0,str ⟨#[]⟩,nilS]):=rfl
 have eb5:bld [(.val (.int .i64 0)),(.val (.int .i64 0)),(.val (.int .i64 0)),(.val (.int .i64 0)),(.val (.int .i64 0)),(.val (.string ⟨#[]⟩)),(.val (.slice none 0 0))] [(0,1),(1,1),(2,1),(3,1),(4,1),(5,1),(6,1)] [(0,(.val (.int .i64 5)))]=some (.agg [iv 5,iv 0,iv 0,iv 0,iv 0,str ⟨#[]⟩,nilS]):=rfl
 refine Qoe ?_
 unfold Qls x150;dsimp only [den,dE,di,tupL,lTup,dwat,Qe,List.map,Option.map,den0,den1,den2,den3,den4]
 simp only [x0,Qv,RR]
 refine hC k1 i false B τ _ (hx k1 (by simp)).1 (hx k1 (by simp)).2 hi h (by omega) fun τ1 S1=>?_
 rw [←d1] at S1
 simp only [eb6,RR]
 refine JG (oc0 6) rfl rfl ?_
 refine JN rfl S1 i1 (QaP (N:=1000000) (by omega) i) fun τ2 S2=>?_
 simp only [x1,Qv,RR]
 refine hC k2 i e _ τ2 _ (hx k2 (by simp)).1 (hx k2 (by simp)).2 i1' S2 (by omega) fun τ3 S3=>?_
 rw [←d2] at S3
 simp only [jn,RR]
 have fin:∀(τ:AH) (u:Int),CSt [roC cs] σ τ φm B3→(e=false→u=(Qd B2 i:Int))→(e=true→u= -1)→
   og (anil (.ptr φm 0 0 0)) fun v34=>og (fldA 1 v34) fun v35=>og (lod v35 τ) fun v36=>og (idx 2 v36 (iv (i:Int)) τ) fun v38=>og (fldA 1 v38) fun v39=>og (lod v39 τ) fun v40=>
   og (anil (.ptr φm 0 0 0)) fun v43=>og (fldA 1 v43) fun v44=>og (lod v44 τ) fun v45=>og (idx 2 v45 (iv (i:Int)) τ) fun v47=>og (fldA 1 v47) fun v48=>og (lod v48 τ) fun v49=>og (lenS v49) fun v50=>
   og (idx 7 v40 (iv (Qd B1 i:Int)) τ) fun v51=>og (fldA 1 v51) fun v52=>sto 1 v52 v50 τ fun σ=>
   (True)∧
   og (idx 1 (roK [k1,k2,k3]) (.val (.int .i64 2)) σ) fun v55=>og (lod v55 σ) fun v56=>
   acall TP QaT [.ptr φm 0 0 0,v56,iv (i:Int),bv e] σ (onr (fun _ σ=>
   og (ibin .geq (iv u) (.val (.int .i64 0))) fun v61=>
   apick v61 (
    og (anil (.ptr φm 0 0 0)) fun v63=>og (fldA 1 v63) fun v64=>og (lod v64 σ) fun v65=>og (idx 2 v65 (iv (i:Int)) σ) fun v67=>og (fldA 1 v67) fun v68=>og (lod v68 σ) fun v69=>
    og (anil (.ptr φm 0 0 0)) fun v72=>og (fldA 1 v72) fun v73=>og (lod v73 σ) fun v74=>og (idx 2 v74 (iv (i:Int)) σ) fun v76=>og (fldA 1 v76) fun v77=>og (lod v77 σ) fun v78=>og (lenS v78) fun v79=>
    og (idx 7 v69 (iv u) σ) fun v80=>og (fldA 1 v80) fun v81=>sto 1 v81 v79 σ fun σ=>
    (True)∧
    aret (.tup []) σ R) (
    aret (.tup []) σ R)) (fun v σ=>apan v σ R)):=by
  intro τ u S hu hu2
  obtain ⟨v,φ,st,w,e1,e2,e3,e4,_,e6⟩:=S.open i3
  replace e1:lod (.ptr φm 0 0 1) τ=some v:=e1
  obtain ⟨φw,stw,g1,g2⟩:=e6 (Qd B1 i) n1
  simp only [e1,e2,e3,e4,g1,RR]
  refine g2 _ _ fun τ4 S4=>?_
  rw [←d4] at S4
  simp only [x2,Qv,RR,true_and]
  refine hC k3 i e B4 τ4 _ (hx k3 (by simp)).1 (hx k3 (by simp)).2 i4 S4 (by omega) fun τ5 S5=>?_
  rw [←d5] at S5
  cases e with
  |true=>
   rw [if_pos rfl] at hD
   obtain rfl:=hu2 rfl
   have g:¬(0:Int)≤ -1:=by omega
   simp only [g,RR]
   rw [hD] at h1
   exact Qa (h1 τ5 S5)
  |false=>
   rw [if_neg (by decide)] at hD d3
   obtain rfl:=hu rfl
   have n2:Qd B2 i<Qd B5 i:=by
    have a1:=l4.2 i i3
    have a2:=l5.2 i i4
    have a3:Qd B3 i=Qd B2 i+1:=by rw [d3,Qac,if_pos ⟨rfl,i2⟩]
    omega
   have g:(0:Int)≤(Qd B2 i:Int):=by omega
   obtain ⟨v',φ',st',w',q1,q2,q3,q4,_,q6⟩:=S5.open i5
   replace q1:lod (.ptr φm 0 0 1) τ5=some v':=q1
   obtain ⟨φw',stw',g1',g2'⟩:=q6 (Qd B2 i) n2
   simp only [g,q1,q2,q3,q4,g1',RR]
   refine g2' _ _ fun τ6 S6=>?_
   rw [←hD] at S6
   exact Qa (h1 τ6 S6)
 cases e with
 |true=>
  rw [if_pos rfl] at d3
  subst d3
  have hf:=fin τ3 (-1) S3 (fun c=>by cases c) fun _=>rfl
  simp only [RR] at hf ⊢
  exact hf
 |false=>
  rw [if_neg (by decide)] at d3
  simp only [eb5,RR]
  refine JG (oc0 5) rfl rfl ?_
  refine JN rfl S3 i2 (QaP (N:=1000000) (by omega) i) fun τ4 S4=>?_
  rw [←d3] at S4
  have hf:=fin τ4 _ S4 (fun _=>rfl) fun c=>by cases c
  simp only [RR] at hf ⊢
  exact hf
set_option maxHeartbeats 1000000 in
theorem Qvx (hw:WfC cs) (hbd:∀i,(Qi cs i).data.length≤1048576):∀f,Qv4 cs f σ φm:=by
 intro f
 induction f with
 |zero=>intro x i e B τ R hx hf;omega
 |succ f ih=>
  intro x i e B τ R hx hfx hi h ht h1
  have hkd:∀k,k∈QE cs x→k<cs.length∧cs.length≤f+k:=fun k hk=>by have:=hw.kid hk;omega
  have hkk:=hw.kids x hx
  have hkind:=hw.kind x hx
  have htl:∀k,k∈QE cs x→∀i e B,totS (mkC cs f k i e B)+1≤totS B+4*(vis cs f k).length:=fun k hk i e B=>QkD hw f k i e B (hkd k hk).1 (hkd k hk).2
  rw [Qow] at ht
  have hbx:=hbd x
  have ex:∀τ,idx 6 (roC cs) (iv (x:Int)) τ=some (.rop (Qr (Qi cs x)) 0):=fun τ=>by rw [←QcP hx];exact Qu hx UJ
  have p0:∀{τ} {B},CSt [roC cs] σ τ φm B→lod (.ptr φm 0 0 0) τ=some (roC cs):=fun h=>h.fix rfl
  refine QlV ?_
  unfold QiA x112;dsimp only [den,dE,di,tupL,lTup,dwat,Qe,List.map,Option.map,den0,den1,den2,den3,den4]
  simp only [p0 h,ex,RR]
  refine QpA (by have:=hw.len;omega) ?_
  have l0:∀τ,lod (.rop (Qr (Qi cs x)) 0) τ=some (iv (Qi cs x).kind):=fun _=>rfl
  have l2:∀τ,lod (.rop (Qr (Qi cs x)) 2) τ=some (iv (Qi cs x).a):=fun _=>rfl
  have l3:∀τ,lod (.rop (Qr (Qi cs x)) 3) τ=some (iv (Qi cs x).b):=fun _=>rfl
  have l4:∀τ,lod (.rop (Qr (Qi cs x)) 4) τ=some (str (Qi cs x).name):=fun _=>rfl
  have l5:∀τ,lod (.rop (Qr (Qi cs x)) 5) τ=some (roD (Qi cs x).data):=fun _=>rfl
  simp only [l0,l2,l3,l4,l5,jn,RR]
  rw [mkC] at h1
  dsimp only at h1
  generalize hks:QE cs x=ks at*
  generalize hc:Qi cs x=c at*
  have one:∀(o:OpD) (τ:AH),CSt [roC cs] σ τ φm B→(∀τ',CSt [roC cs] σ τ' φm (endS (putS B i o) i e)→R (.ret (.tup [])) τ')→
    acall TP Qbq [.ptr φm 0 0 0,iv (i:Int),.agg (Qp o)] τ (onr (fun _ σ=>
    acall TP Qbr [.ptr φm 0 0 0,iv (i:Int),bv e] σ (onr (fun _ σ=>
    aret (.tup []) σ R) (fun v σ=>apan v σ R))) (fun v σ=>apan v σ R)):=by
   intro o τ h g1
   refine JN rfl h hi (QaP (N:=1000000) (by omega) i) fun τ' S=>?_
   simp only [RR]
   refine Qe3 rfl S (by rw [Q8];exact hi) (QaP (N:=1000000) (by have:=JQ B i o;omega) i) fun τ2 S2=>?_
   simp only [RR]
   exact Qa (g1 τ2 S2)
  by_cases c1:c.kind=1
  ·rw [if_pos c1] at h1
   simp only [c1,RR]
   refine bsl0 ?_
   refine Ud (es:=[]) (.inl ⟨.inr rfl,rfl⟩) (xs:=c.data.map Qc) rfl (by intro c hc;obtain ⟨x,_,rfl⟩:=List.mem_map.1 hc;rfl) (by intro c hc y hy;obtain ⟨x,_,rfl⟩:=List.mem_map.1 hc;exact Q3 x y hy) (by simp;omega) fun a τ1 hB hK hfam=>?_
   rw [List.nil_append] at hB
   have hf1:∀ψ,ψ∈famL a→τ ψ=none:=fun ψ hψ=>(hfam ψ hψ).elim (fun c=>by cases c) id
   simp only [Qyr (k:=1) (ds:=c.data) hB,RR]
   exact QtI (hK.sub (.refl τ) fun ψ c=>by cases c) (QrF hB hf1) (one _ τ h h1)
  rw [if_neg c1] at h1
  by_cases c2:c.kind=2
  ·rw [if_pos c2] at h1
   have eb:bld [(.val (.int .i64 0)),(.val (.int .i64 0)),(.val (.int .i64 0)),(.val (.int .i64 0)),(.val (.int .i64 0)),(.val (.string ⟨#[]⟩)),(.val (.slice none 0 0))] [(0,1),(1,1),(2,1),(3,1),(4,1),(5,1),(6,1)] [(0,(.val (.int .i64 2))),(1,iv c.a),(2,iv c.b)]=some (.agg (Qm (ocAB 2 c.a c.b) nilS)):=rfl
   simp only [c2,eb,Int.reduceEq,RR,true_and]
   exact JG _ rfl rfl (one _ τ h h1)
  rw [if_neg c2] at h1
  by_cases c3:c.kind=3
  ·rw [if_pos c3] at h1
   have eb:bld [(.val (.int .i64 0)),(.val (.int .i64 0)),(.val (.int .i64 0)),(.val (.int .i64 0)),(.val (.int .i64 0)),(.val (.string ⟨#[]⟩)),(.val (.slice none 0 0))] [(0,1),(1,1),(2,1),(3,1),(4,1),(5,1),(6,1)] [(0,(.val (.int .i64 3))),(5,str c.name)]=some (.agg (Qm (ocN 3 c.name) nilS)):=rfl
   simp only [c3,eb,Int.reduceEq,RR]
   exact JG _ rfl rfl (one _ τ h h1)
  rw [if_neg c3] at h1
  have z0:∀{k:Nat} {r:List Nat} τ,idx 1 (roK (k::r)) (.val (.int .i64 0)) τ=some (.rop [iv (k:Int)] 0):=fun {k r} τ=>by have:=Q1 (σ:=τ) (ks:=k::r) (j:=0) (by simp);simpa using this
  by_cases c5:c.kind=5
  ·rw [if_pos c5] at h1
   unfold hasK at hkk
   rw [if_neg (by omega),if_pos (.inl c5)] at hkk
   obtain ⟨k,rfl⟩:∃k,ks=[k]:=by
    match ks,hkk with
    |[k],_=>exact ⟨k,rfl⟩
   have ev:visK cs f [k]=(vis cs f k).length:=by simp [visK]
   rw [ev] at ht
   have eb:bld [(.val (.int .i64 0)),(.val (.int .i64 0)),(.val (.int .i64 0)),(.val (.int .i64 0)),(.val (.int .i64 0)),(.val (.string ⟨#[]⟩)),(.val (.slice none 0 0))] [(0,1),(1,1),(2,1),(3,1),(4,1),(5,1),(6,1)] [(0,(.val (.int .i64 4))),(1,iv (B.length:Int))]=some (.agg (Qm (ocA 4 (B.length:Int)) nilS)):=rfl
   have eb2:bld [(.val (.int .i64 0)),(.val (.slice none 0 0))] [(0,1),(1,1)] [(0,iv c.a)]=some (.agg [iv c.a,nilS]):=rfl
   obtain ⟨v,e1,e2⟩:=h.len
   have e1':=e1
   replace e1:lod (.ptr φm 0 0 1) τ=some v:=e1
   have hBl:=QrD B
   simp only [c5,e1,eb2,Int.reduceEq,RR]
   rw [lit1 (sz:=2) (row:=[iv c.a,nilS]) rfl rfl (by omega)]
   simp only [RR]
   refine h.push (v:=v) (a:=c.a) e1' rfl (by omega) fun v' τ1 k1=>?_
   refine ⟨trivial,k1 _ fun τ2 S2 g2 g3=>?_⟩
   replace g2:lod (.ptr φm 0 0 1) τ2=some v':=g2
   have es:ibin .sub (iv ((B.length+1:Nat):Int)) (.val (.int .i64 1))=some (iv (B.length:Int)):=by
    rw [QR (by omega) (by omega)]
    congr 3;omega
   simp only [g2,g3,es,z0,Qv,RR,true_and]
   have hk:=hkd k (by simp)
   have hi1:i<(B++[(c.a,[])]).length:=by simp;omega
   have tp:=Qqt B c.a
   refine ih k B.length true _ τ2 _ hk.1 hk.2 (by simp) S2 (by omega) fun τ3 S3=>?_
   have t3:=htl k (by simp) B.length true (B++[(c.a,[])])
   have hi3:i<(mkC cs f k B.length true (B++[(c.a,[])])).length:=Nat.lt_of_lt_of_le hi1 (QM ..).1
   simp only [eb,RR]
   refine JG _ rfl rfl (JN rfl S3 hi3 (QaP (N:=1000000) (by omega) i) fun τ4 S4=>?_)
   simp only [RR]
   refine Qe3 rfl S4 (by rw [Q8];exact hi3) (QaP (N:=1000000) (by have:=JQ (mkC cs f k B.length true (B++[(c.a,[])])) i (ocA 4 (B.length:Int));omega) i) fun τ5 S5=>?_
   simp only [List.getD_cons_zero] at h1
   rw [Qx7 cs f k B.length true (B++[(c.a,[])]) (by omega) hi1] at h1
   simp only [RR]
   exact Qa (h1 τ5 S5)
  rw [if_neg c5] at h1
  by_cases c78:c.kind=7∨c.kind=8
  ·rw [if_pos c78] at h1
   unfold hasK at hkk
   rw [if_neg (by omega),if_pos (by omega)] at hkk
   obtain ⟨k,rfl⟩:∃k,ks=[k]:=by
    match ks,hkk with
    |[k],_=>exact ⟨k,rfl⟩
   have ev:visK cs f [k]=(vis cs f k).length:=by simp [visK]
   rw [ev] at ht
   simp only [List.getD_cons_zero] at h1
   have hk:=hkd k (by simp)
   have t1:=htl k (by simp) i false B
   have hi1:i<(mkC cs f k i false B).length:=Nat.lt_of_lt_of_le hi (QM ..).1
   have eb:bld [(.val (.int .i64 0)),(.val (.int .i64 0)),(.val (.int .i64 0)),(.val (.int .i64 0)),(.val (.int .i64 0)),(.val (.string ⟨#[]⟩)),(.val (.slice none 0 0))] [(0,1),(1,1),(2,1),(3,1),(4,1),(5,1),(6,1)] [(0,iv (c.kind - 7+8)),(5,str c.name)]=some (.agg (Qm (ocN (c.kind - 7+8) c.name) nilS)):=rfl
   have go:acall TP QaT [.ptr φm 0 0 0,iv (k:Int),iv (i:Int),bv false] τ (onr (fun _ σ=>
     acall TP Qbq [.ptr φm 0 0 0,iv (i:Int),.agg (Qm (ocN (c.kind - 7+8) c.name) nilS)] σ (onr (fun _ σ=>
     acall TP Qbr [.ptr φm 0 0 0,iv (i:Int),bv e] σ (onr (fun _ σ=>
     aret (.tup []) σ R) (fun v σ=>apan v σ R))) (fun v σ=>apan v σ R))) (fun v σ=>apan v σ R)):=by
    refine ih k i false B τ _ hk.1 hk.2 hi h (by omega) fun τ1 S1=>?_
    simp only [RR]
    refine JG _ rfl rfl (JN rfl S1 hi1 (QaP (N:=1000000) (by omega) i) fun τ2 S2=>?_)
    simp only [RR]
    refine Qe3 rfl S2 (by rw [Q8];exact hi1) (QaP (N:=1000000) (by have:=JQ (mkC cs f k i false B) i (ocN (c.kind - 7+8) c.name);omega) i) fun τ3 S3=>?_
    simp only [RR]
    exact Qa (h1 τ3 S3)
   rcases c78 with c7|c8
   ·simp only [c7,z0,Qv,Int.reduceEq,Int.reduceSub,Int.reduceAdd,RR] at eb go ⊢
    simp only [eb,RR]
    exact go
   ·simp only [c8,z0,Qv,Int.reduceEq,Int.reduceSub,Int.reduceAdd,RR] at eb go ⊢
    simp only [eb,RR]
    exact go
  rw [if_neg c78] at h1
  have c7:¬c.kind=7:=fun k=>c78 (.inl k)
  have c8:¬c.kind=8:=fun k=>c78 (.inr k)
  by_cases c4:c.kind=4
  ·rw [if_pos c4] at h1
   unfold hasK at hkk
   rw [if_pos c4] at hkk
   obtain ⟨k1,k2,k3,rfl⟩:∃k1 k2 k3,ks=[k1,k2,k3]:=by
    match ks,hkk with
    |[k1,k2,k3],_=>exact ⟨k1,k2,k3,rfl⟩
   simp only [List.getD_cons_zero,List.getD_cons_succ] at h1
   have ev:visK cs f [k1,k2,k3]=(vis cs f k1).length+((vis cs f k2).length+(vis cs f k3).length):=by simp [visK]
   rw [ev] at ht
   simp only [c4,Int.reduceEq,RR]
   refine Qri hw ih hkd h hi ht rfl rfl rfl rfl rfl rfl fun τ' S=>?_
   simp only [RR]
   exact Qa (h1 τ' S)
  rw [if_neg c4] at h1
  have hkl:ks.length≤160:=by
   have:=hw.len.2
   rw [←hks]
   unfold QE
   exact Nat.le_trans (List.length_filter_le _ _) (by simpa using this)
  by_cases c6:c.kind=6
  ·rw [if_pos c6] at h1
   unfold hasK at hkk
   rw [if_neg c4,if_neg (by omega),if_pos c6] at hkk
   have hne:ks≠[]:=by intro c;rw [c] at hkk;simp at hkk
   have hsp:=Qdk hne
   have hmem:∀k,k∈ks.dropLast→k∈ks:=fun k hm=>by rw [←hsp];exact List.mem_append_left _ hm
   have hlm:ks.getLastD 0∈ks:=by
    have:ks.getLastD 0∈ks.dropLast++[ks.getLastD 0]:=List.mem_append_right _ (List.mem_singleton.2 rfl)
    rwa [hsp] at this
   have hdl:ks.dropLast.length=ks.length - 1:=List.length_dropLast
   have eb:bld [(.val (.int .i64 0)),(.val (.int .i64 0)),(.val (.int .i64 0)),(.val (.int .i64 0)),(.val (.int .i64 0)),(.val (.string ⟨#[]⟩)),(.val (.slice none 0 0))] [(0,1),(1,1),(2,1),(3,1),(4,1),(5,1),(6,1)] [(0,(.val (.int .i64 7)))]=some (.agg (Qm (oc0 7) nilS)):=rfl
   have evs:visK cs f ks=visK cs f ks.dropLast+(vis cs f (ks.getLastD 0)).length:=by
    conv=>lhs;rw [←hsp]
    rw [Qml];simp [visK]
   have hm:∀l:List Nat,(∀k,k∈l→k∈ks)→∀B,totS (Qq (fun k B=>mkC cs f k i false B) (fun B=>putS B i (oc0 7)) l B)≤totS B+4*visK cs f l:=by
    intro l
    induction l with
    |nil=>intro _ B;simp [Qq,visK]
    |cons k r ih2=>
     intro hl B
     have g1:=htl k (hl k (by simp)) i false B
     have g2:=JQ (mkC cs f k i false B) i (oc0 7)
     have g3:=ih2 (fun k hk=>hl k (by simp [hk])) (putS (mkC cs f k i false B) i (oc0 7))
     have e:visK cs f (k::r)=(vis cs f k).length+visK cs f r:=by simp [visK]
     rw [Qq,e]
     omega
   simp only [c6,Int.reduceEq,RR]
   refine Qc4 ks.dropLast.length (fun j=>(.ptr φm 0 0 0,iv (i:Int),bv e,roK ks,iv (j:Int),())) (fun j τ'=>CSt [roC cs] σ τ' φm (Qq (fun k B=>mkC cs f k i false B) (fun B=>putS B i (oc0 7)) (ks.dropLast.take j) B)) rfl h ?_
   rintro j τ1 hj S R' hR'
   have hall:∀l B,leS B (Qq (fun k B=>mkC cs f k i false B) (fun B=>putS B i (oc0 7)) l B):=Qad (fun k B=>QM ..) (fun B=>QV ..)
   have hij:i<(Qq (fun k B=>mkC cs f k i false B) (fun B=>putS B i (oc0 7)) (ks.dropLast.take j) B).length:=Nat.lt_of_lt_of_le hi (hall _ _).1
   have htj:=hm (ks.dropLast.take j) (fun k hk=>hmem k (List.mem_of_mem_take hk)) B
   have ea:ibin .add (iv (j:Int)) (.val (.int .i64 1))=some (iv ((j:Int)+1)):=Q6 (by omega) (by omega)
   by_cases hlt:j<ks.dropLast.length
   ·have g:(j:Int)+1<(ks.length:Int):=by omega
    have hjk:j<ks.length:=by omega
    have hge:ks.getD j 0=ks.dropLast.getD j 0:=by
     conv=>lhs;rw [←hsp]
     simp [List.getD,List.getElem?_append_left hlt]
    have hm0:ks.dropLast.getD j 0∈ks:=hmem _ (by rw [Qag hlt];exact List.getElem_mem hlt)
    have evj:visK cs f ks.dropLast=visK cs f (ks.dropLast.take j)+((vis cs f (ks.dropLast.getD j 0)).length+visK cs f (ks.dropLast.drop (j+1))):=by
     rw [Qag hlt];exact QrT hlt
    simp only [ea,lenK,g,Q1 hjk,hge,Qv,RR]
    refine ih _ i false _ τ1 _ (hkd _ hm0).1 (hkd _ hm0).2 hij S (by omega) fun τ2 S2=>?_
    have hi1:i<(mkC cs f (ks.dropLast.getD j 0) i false (Qq (fun k B=>mkC cs f k i false B) (fun B=>putS B i (oc0 7)) (ks.dropLast.take j) B)).length:=Nat.lt_of_lt_of_le hij (QM ..).1
    have t2:=htl _ hm0 i false (Qq (fun k B=>mkC cs f k i false B) (fun B=>putS B i (oc0 7)) (ks.dropLast.take j) B)
    simp only [eb,RR]
    refine JG _ rfl rfl (JN rfl S2 hi1 (QaP (N:=1000000) (by omega) i) fun τ3 S3=>?_)
    simp only [ea,RR]
    have e1:Qq (fun k B=>mkC cs f k i false B) (fun B=>putS B i (oc0 7)) (ks.dropLast.take (j+1)) B=putS (mkC cs f (ks.dropLast.getD j 0) i false (Qq (fun k B=>mkC cs f k i false B) (fun B=>putS B i (oc0 7)) (ks.dropLast.take j) B)) i (oc0 7):=by
     rw [List.take_succ_eq_append_getElem hlt,QcO,Qag hlt]
     rfl
    exact hR' hlt _ _ (.refl _) (by rw [e1];exact S3)
   ·have g:¬(j:Int)+1<(ks.length:Int):=by omega
    obtain rfl:j=ks.dropLast.length:=by omega
    rw [List.take_length] at S hij htj
    have hlast:ks.getD (ks.length - 1) 0=ks.getLastD 0:=by
     rw [List.getLastD_eq_getLast?,List.getLast?_eq_getElem?];rfl
    have es:ibin .sub (iv (ks.length:Int)) (.val (.int .i64 1))=some (iv ((ks.length:Int) - 1)):=QR (by omega) (by omega)
    have ix:idx 1 (roK ks) (iv ((ks.length:Int) - 1)) τ1=some (.rop [iv ((ks.getLastD 0:Nat):Int)] 0):=by
     have:=Q1 (σ:=τ1) (ks:=ks) (j:=ks.length - 1) (by omega)
     rw [hlast,show ((ks.length - 1:Nat):Int)=(ks.length:Int) - 1 by omega] at this
     exact this
    simp only [ea,lenK,g,es,ix,Qv,RR]
    refine ih _ i e _ τ1 _ (hkd _ hlm).1 (hkd _ hlm).2 hij S (by omega) fun τ2 S2=>?_
    simp only [RR]
    exact Qa (h1 τ2 S2)
  rw [if_neg c6] at h1
  have c9:c.kind=9:=by omega
  have hm:∀l:List Nat,(∀k,k∈l→k∈ks)→∀B,totS (Qq (fun k B=>mkC cs f k i false B) id l B)≤totS B+4*visK cs f l:=by
   intro l
   induction l with
   |nil=>intro _ B;simp [Qq,visK]
   |cons k r ih2=>
    intro hl B
    have g1:=htl k (hl k (by simp)) i false B
    have g3:=ih2 (fun k hk=>hl k (by simp [hk])) (mkC cs f k i false B)
    have e:visK cs f (k::r)=(vis cs f k).length+visK cs f r:=by simp [visK]
    rw [Qq,e]
    simp only [id]
    omega
  simp only [c9,Int.reduceEq,RR]
  refine Qc4 ks.length (fun j=>(.ptr φm 0 0 0,iv (i:Int),bv e,roK ks,iv (j:Int),())) (fun j τ'=>CSt [roC cs] σ τ' φm (Qq (fun k B=>mkC cs f k i false B) id (ks.take j) B)) rfl h ?_
  rintro j τ1 hj S R' hR'
  have hall:∀l B,leS B (Qq (fun k B=>mkC cs f k i false B) id l B):=Qad (fun k B=>QM ..) (fun B=> .refl B)
  have hij:i<(Qq (fun k B=>mkC cs f k i false B) id (ks.take j) B).length:=Nat.lt_of_lt_of_le hi (hall _ _).1
  have htj:=hm (ks.take j) (fun k hk=>List.mem_of_mem_take hk) B
  by_cases hlt:j<ks.length
  ·have g:(j:Int)<(ks.length:Int):=by omega
   have hm0:ks.getD j 0∈ks:=by rw [Qag hlt];exact List.getElem_mem hlt
   have evj:visK cs f ks=visK cs f (ks.take j)+((vis cs f (ks.getD j 0)).length+visK cs f (ks.drop (j+1))):=by
    rw [Qag hlt];exact QrT hlt
   simp only [lenK,g,Q1 hlt,Qv,RR]
   refine ih _ i false _ τ1 _ (hkd _ hm0).1 (hkd _ hm0).2 hij S (by omega) fun τ2 S2=>?_
   simp only [Qj hlt (by omega),RR]
   have e1:Qq (fun k B=>mkC cs f k i false B) id (ks.take (j+1)) B=mkC cs f (ks.getD j 0) i false (Qq (fun k B=>mkC cs f k i false B) id (ks.take j) B):=by
    rw [List.take_succ_eq_append_getElem hlt,QcO,Qag hlt]
    rfl
   exact hR' hlt _ _ (.refl _) (by rw [e1];exact S2)
  ·have g:¬(j:Int)<(ks.length:Int):=by omega
   obtain rfl:j=ks.length:=by omega
   rw [List.take_length] at S hij htj
   have es:ibin .sub (iv (ks.length:Int)) (.val (.int .i64 1))=some (iv ((ks.length:Int) - 1)):=QR (by omega) (by omega)
   have eb:∀q:Int,bld [(.val (.int .i64 0)),(.val (.int .i64 0)),(.val (.int .i64 0)),(.val (.int .i64 0)),(.val (.int .i64 0)),(.val (.string ⟨#[]⟩)),(.val (.slice none 0 0))] [(0,1),(1,1),(2,1),(3,1),(4,1),(5,1),(6,1)] [(0,iv q),(1,iv ((ks.length:Int) - 1))]=some (.agg (Qm (ocA q ((ks.length:Int) - 1)) nilS)):=fun q=>rfl
   cases e with
   |true=>
    simp only [g,jn,lenK,es,eb,RR]
    refine JG _ rfl rfl (JN rfl S hij (QaP (N:=1000000) (by omega) i) fun τ3 S3=>?_)
    simp only [RR]
    exact Qa (h1 τ3 S3)
   |false=>
    simp only [g,jn,lenK,es,eb,RR]
    refine JG _ rfl rfl (JN rfl S hij (QaP (N:=1000000) (by omega) i) fun τ3 S3=>?_)
    simp only [RR]
    exact Qa (h1 τ3 S3)
def fitB (B:St):Bool:=decide (B.length≤60)&&decide (∀k,k<B.length→Qd B k≤200)
theorem Qid {B:St}:fitB B=true↔fits B:=by simp [fitB,fits]
set_option maxHeartbeats 1000000 in
theorem QpB (hw:WfC cs) (hbd:∀i,(Qi cs i).data.length≤1048576) (h:R (.ret (.tup [roBk (toBk (fin0 cs)),bv (fitB (fin0 cs))])) σ):acall TP QgL [roC cs] σ R:=by
 refine QlT ?_
 unfold Qiy x81;dsimp only [den,dE,di,tupL,lTup,dwat,Qe,List.map,Option.map,den0,den1,den2,den3,den4]
 have eb0:bld [(.val (.int .i64 0)),(.val (.slice none 0 0))] [(0,1),(1,1)] []=some (.agg [iv 0,nilS]):=rfl
 simp only [eb0,RR]
 refine bsl1 (row:=[iv 0,nilS]) rfl (by omega) fun φb hφb=>?_
 have eb1:bld [(.val (.slice none 0 0)),(.val (.slice none 0 0))] [(0,1),(1,1)] [(0,roC cs),(1,.own φb 0 0 1)]=some (.agg [roC cs,.own φb 0 0 1]):=rfl
 simp only [eb1,RR]
 intro φm hφm
 have hne:φm≠φb:=by rintro rfl;rw [AH.set_same] at hφm;cases hφm
 refine QG (es:=[[nilS,nilS]]) (cs:=[roC cs,.own φb 0 0 1]) (by rw [AH.set_same];rfl) (by simp) rfl rfl rfl (by intro y hy;simp only [List.mem_cons,List.not_mem_nil,or_false] at hy;rcases hy with rfl|rfl<;>rfl) ?_
 simp only [List.set_cons_zero,AH.set_set]
 rw [AH.set_none] at hφm
 have hS0:CSt [roC cs] σ ((σ.set φb ⟨0,2,[[iv 0,nilS]]⟩).set φm ⟨0,2,[[roC cs,.own φb 0 0 1]]⟩) φm [(0,[])]:=by
  refine ⟨⟨.own φb 0 0 1,[((0,[]),nilS)],AH.set_same ..,⟨.inr ⟨φb,0,rfl,by rw [AH.set_ne' (Ne.symm hne),AH.set_same];rfl⟩,fun p hp=>?_,by simp [famL,l2F],fun ψ hψ=>?_,fun ψ F hF=>?_⟩,rfl,by simp [famL,l2F,hne]⟩,hφm.2⟩
  ·obtain rfl:=List.mem_singleton.1 hp;exact nilB
  ·have:ψ=φb:=by simpa [famL,l2F] using hψ
   subst this;exact hφb
  ·rw [AH.set_ne' (by rintro rfl;rw [hφm.2] at hF;cases hF),AH.set_ne' (by rintro rfl;rw [hφb] at hF;cases hF)];exact hF
 have hl:=hw.len
 have hv:=Qo2 hw cs.length 0 (by omega)
 refine Qvx hw hbd cs.length 0 0 true [(0,[])] _ _ (by omega) (by omega) (by simp) hS0 (by simp [totS];omega) fun τ2 S2=>?_
 change CSt [roC cs] σ τ2 φm (fin0 cs) at S2
 have htf:=QkD hw cs.length 0 0 true [(0,[])] (by omega) (by omega)
 change totS (fin0 cs)+1≤_ at htf
 have htf2:totS (fin0 cs)≤1000:=by simp [totS] at htf ⊢;omega
 simp only [RR]
 refine ⟨_,σ,S2.sub,S2.fz (fs:=[roC cs]++[roBk (toBk (fin0 cs))]) rfl,?_⟩
 have e2:∀τ,lod (.rop ([roC cs]++[roBk (toBk (fin0 cs))]) 1) τ=some (roBk (toBk (fin0 cs))):=fun _=>rfl
 have hBl:=QrD (fin0 cs)
 have htl:(toBk (fin0 cs)).length=(fin0 cs).length:=by simp [toBk]
 simp only [e2,QB,RR]
 refine Qrv (fin0 cs).length (fun i=>(AV.rop ([roC cs]++[roBk (toBk (fin0 cs))]) 0,bv (decide ((fin0 cs).length≤60)&&decide (∀k,k<i→Qd (fin0 cs) k≤200)),iv (i:Int),())) ?_ ?_
 ·have:decide (((toBk (fin0 cs)).length:Int)≤60)=decide ((fin0 cs).length≤60):=by rw [htl];congr 1;apply propext;omega
  rw [this]
  simp
  rfl
 intro i hi R' hR'
 simp only [e2,QB,htl,RR]
 by_cases hlt:i<(fin0 cs).length
 ·have g:(i:Int)<((fin0 cs).length:Int):=by omega
  have hlt2:i<(toBk (fin0 cs)).length:=by omega
  have eg:(toBk (fin0 cs))[i].ops.length=Qd (fin0 cs) i:=by simp [toBk,Qd,List.getD,hlt]
  have ix:=fun τ=>Qu (σ:=τ) hlt2 JX
  have lo:∀τ,lod (.rop (QL (toBk (fin0 cs))[i]) 1) τ=some (roO (toBk (fin0 cs))[i].ops):=fun _=>rfl
  have hn:=hR' hlt σ (.refl σ)
  have hd:decide (∀k,k<i+1→Qd (fin0 cs) k≤200)=(decide (∀k,k<i→Qd (fin0 cs) k≤200)&&decide (((toBk (fin0 cs))[i].ops.length:Int)≤200)):=by
   rw [eg,←Bool.decide_and]
   congr 1
   apply propext
   constructor
   ·intro h;exact ⟨fun k hk=>h k (by omega),by have:=h i (by omega);omega⟩
   ·rintro ⟨h,h2⟩ k hk
    by_cases c:k<i
    ·exact h k c
    ·obtain rfl:k=i:=by omega
     omega
  rw [hd,←Bool.and_assoc] at hn
  generalize (decide ((fin0 cs).length≤60)&&decide (∀k,k<i→Qd (fin0 cs) k≤200))=b at hn ⊢
  cases b with
  |true=>
   rw [Bool.true_and] at hn
   simp only [g,e2,ix,lo,QB,Qj hlt (by omega),RR]
   exact hn
  |false=>
   rw [Bool.false_and] at hn
   simp only [g,Qj hlt (by omega),RR]
   exact hn
 ·have g:¬(i:Int)<((fin0 cs).length:Int):=by omega
  obtain rfl:i=(fin0 cs).length:=by omega
  simp only [g,RR]
  exact Qa h
end
end Go.Proofs.YtggnjjalfnhiiaaGreatDoor.E
/- Cores: their faults. -/
namespace Go.Proofs.YtggnjjalfnhiiaaGreatDoor.E
open Go Go.RowKit
set_option maxRecDepth 100000
variable [L:Lam]
variable {σ τ τ':AH} {R:AEnd→AH→Prop}
def kws:List ByteArray:=[⟨#[113,117,111,116,101]⟩,⟨#[105,102]⟩,⟨#[108,97,109,98,100,97]⟩,⟨#[108,101,116]⟩,⟨#[98,101,103,105,110]⟩,⟨#[100,101,102,105,110,101]⟩,⟨#[115,101,116,33]⟩]
def inL (l:List ByteArray) (s:ByteArray):Bool:=l.any fun t=>decide (s=t)
def kwB (s:ByteArray):Bool:=inL kws s
def idxS:List ByteArray→ByteArray→Nat→Int
 |[],_,_=> -1
 |t::r,s,k=>if s=t then (k:Int) else idxS r s (k+1)
theorem QrU (s:ByteArray):∀(l:List ByteArray) (k:Nat),decide (0≤idxS l s k)=inL l s:=by
 intro l
 induction l with
 |nil=>intro k;rfl
 |cons t r ih=>
  intro k
  rw [idxS]
  by_cases c:s=t
  ·rw [if_pos c];simp [inL,c]
  ·rw [if_neg c,ih];simp [inL,c]
abbrev roS (l:List ByteArray):AV:= .ro (l.map fun s=>[str s])
theorem QpJ {l:List ByteArray} {j:Nat} (h:j<l.length):idx 1 (roS l) (iv (j:Int)) σ=some (.rop [str l[j]] 0):=Qu (enc:=fun s=>[str s]) h (sz:=1) fun _=>rfl
theorem Qie {l:List ByteArray}:lenS (roS l)=some (iv (l.length:Int)):=by simp [lenS]
theorem Qdn {l:List ByteArray} {s:ByteArray} (hl:l.length≤1000000) (h:R (.ret (iv (idxS l s 0))) σ):acall TP Qaq [roS l,str s] σ R:=by
 refine QbY ?_
 unfold QaL x246;dsimp only [den,dE,di,tupL,lTup,dwat,Qe,List.map,Option.map,den0,den1,den2,den3,den4]
 simp only [Qie,RR]
 refine UW l.length (fun i=>(roS l,str s,iv (l.length:Int),iv (i:Int),())) (fun i=>idxS l s 0=idxS (l.drop i) s i) rfl (by simp) ?_
 intro i hi hj R' hR'
 by_cases hlt:i<l.length
 ·have g:(i:Int)<(l.length:Int):=by omega
  rw [List.drop_eq_getElem_cons hlt,idxS] at hj
  simp only [g,QpJ hlt,Qv,Jt,RR]
  by_cases c:s=l[i]
  ·rw [if_pos c] at hj
   rw [hj] at h
   have cd:decide (s=l[i])=true:=by simp [c]
   simp only [cd,RR]
   exact Qa h
  ·rw [if_neg c] at hj
   have cd:decide (s=l[i])=false:=by simp [c]
   simp only [cd,Qj hlt (by omega),RR]
   exact hR' hlt hj _ (.refl σ)
 ·have g:¬(i:Int)<(l.length:Int):=by omega
  obtain rfl:i=l.length:=by omega
  rw [List.drop_length,idxS] at hj
  rw [hj] at h
  simp only [g,RR]
  exact Qa h
theorem Qhz {l:List ByteArray} {s:ByteArray} (hl:l.length≤1000000) (h:R (.ret (bv (inL l s))) σ):acall TP UT [roS l,str s] σ R:=by
 refine QaK ?_
 unfold UZ x245;dsimp only [den,dE,di,tupL,lTup,dwat,Qe,List.map,Option.map,den0,den1,den2,den3,den4]
 refine Qdn hl ?_
 simp only [RR,QrU]
 exact Qa h
theorem Qys {sz n:Nat} {z:List AV} {ps:List (Nat × AV)} {es:List (List AV)} {k:AV→AH→Prop} (he:Jy sz (List.replicate n z) ps=some es) (hb:n*sz≤16777216) (hn:n≠0) (h:∀φ,σ φ=none→k (.own φ 0 0 n) (σ.set φ ⟨0,sz,es⟩)):bsl sz z n ps σ k:=by
 unfold bsl
 rw [he]
 exact ⟨hb,by rw [if_neg hn];exact h⟩
theorem QbK {s:ByteArray} (h:R (.ret (bv (kwB s))) σ):acall TP QdF [str s] σ R:=by
 refine Qi5 ?_
 unfold QeX x224;dsimp only [den,dE,di,tupL,lTup,dwat,Qe,List.map,Option.map,den0,den1,den2,den3,den4]
 refine Qys (es:=kws.map fun s=>[str s]) rfl (by decide) (by decide) fun φ hφ=>?_
 refine Ur (σ0:=σ) (args':=[roS kws,str s]) (.set (.refl σ) _ hφ) rfl (fun i hi=>?_) ?_
 ·match i,hi with
  |0,_=>
   refine .own (AH.set_same ..) hφ rfl (by decide) rfl (fun i hi=>?_) (fun i j hi hj=>by rw [Nat.zero_add];exact .same _)
   have hi':i<kws.length:=hi
   simp [List.getD,hi']
  |1,_=>exact .same _
 refine Qhz (by decide) ?_
 simp only [RR]
 exact Qa h
theorem QbL {s:ByteArray} (h:R (.ret (bv (kwB s))) σ):acall TP QdD [str s] σ R:=by
 refine Qi3 ?_
 unfold QeT x178;dsimp only [den,dE,di,tupL,lTup,dwat,Qe,List.map,Option.map,den0,den1,den2,den3,den4]
 refine Qwv (es:=kws.map fun s=>[str s]) rfl (by decide) rfl (by intro c hc;obtain ⟨x,_,rfl⟩:=List.mem_map.1 hc;rfl) ?_
 refine UW kws.length (fun i=>(str s,roS kws,iv (i:Int),())) (fun i=>inL kws s=inL (kws.drop i) s) rfl (by simp) ?_
 intro i hi hj R' hR'
 simp only [Qie,RR]
 by_cases hlt:i<kws.length
 ·have g:(i:Int)<(kws.length:Int):=by omega
  rw [List.drop_eq_getElem_cons hlt] at hj
  have hj2:inL kws s=(decide (s=kws[i])||inL (kws.drop (i+1)) s):=hj
  have hkl:kws.length=7:=rfl
  simp only [g,QpJ hlt,Qv,Jt,RR]
  by_cases c:kws[i]=s
  ·have cd:decide (kws[i]=s)=true:=by simp [c]
   simp only [cd,RR]
   rw [show decide (s=kws[i])=true by simp [c],Bool.true_or] at hj2
   unfold kwB at h
   rw [hj2] at h
   exact Qa h
  ·have cd:decide (kws[i]=s)=false:=by simp [c]
   simp only [cd,Qj hlt (by omega),RR]
   rw [show decide (s=kws[i])=false by simp;exact fun e=>c e.symm,Bool.false_or] at hj2
   exact hR' hlt hj2 _ (.refl σ)
 ·have g:¬(i:Int)<(kws.length:Int):=by omega
  obtain rfl:i=kws.length:=by omega
  rw [List.drop_length] at hj
  unfold kwB at h
  rw [hj] at h
  simp only [g,RR]
  exact Qa h
end Go.Proofs.YtggnjjalfnhiiaaGreatDoor.E
/- Forms that are expanded to cores: the plain law. No program in sight. -/
namespace Go.Proofs.YtggnjjalfnhiiaaGreatDoor.E
open Go Go.RowKit
def Qf (ds:List Dat) (x:Nat):List Nat:=(List.range ds.length).filter fun i=>decide ((dat ds i).parent=(x:Int))
def Qcv (ds:List Dat) (i:Nat):Nat:=QX (par ds) (i:Int)
def subG (ds:List Dat) (x:Nat):Nat→Nat→List Dat
 |0,_=>[]
 |f+1,i=>if i<ds.length∧(i=x∨Qcv ds x<Qcv ds i) then {dat ds i with parent:=if i=x then -1 else (dat ds i).parent - x}::subG ds x f (i+1) else []
def subD (ds:List Dat) (x:Nat):List Dat:=subG ds x (ds.length - x) x
theorem Qyt (ds:List Dat) (x:Nat):∀f i,(subG ds x f i).length≤f:=by
 intro f
 induction f with
 |zero=>intro i;simp [subG]
 |succ f ih=>
  intro i
  rw [subG]
  split
  ·have:=ih (i+1);simp;omega
  ·simp
theorem QrV (ds:List Dat) (x:Nat):(subD ds x).length≤ds.length:=Nat.le_trans (Qyt ..) (Nat.sub_le ..)
def konC (p:Int) (d:List Dat):Cor:=⟨1,p,0,0,⟨#[]⟩,d⟩
def locC (p:Int) (a b:Nat):Cor:=⟨2,p,(a:Int),(b:Int),⟨#[]⟩,[]⟩
def nodC (k p:Int) (a:Nat):Cor:=⟨k,p,(a:Int),0,⟨#[]⟩,[]⟩
def nmdC (k p:Int) (s:ByteArray):Cor:=⟨k,p,0,0,s,[]⟩
abbrev Sco:=List (List ByteArray)
def posL:List ByteArray→ByteArray→Option Nat
 |[],_=>none
 |t::r,s=>if t=s then some 0 else (posL r s).map (·+1)
def Jv:Sco→ByteArray→Option (Nat × Nat)
 |[],_=>none
 |ns::r,s=>match posL ns s with
  |some b=>some (0,b)
  |none=>(Jv r s).map fun p=>(p.1+1,p.2)
abbrev Ex:=List Cor × Int
def allE (g:Nat→List Cor→Ex):List Nat→List Cor→Ex
 |[],C=>(C,0)
 |k::r,C=>if (g k C).2≠0 then g k C else allE g r (g k C).1
def badP (ds:List Dat) (x:Nat) (ns:List ByteArray):Bool:=decide ((dat ds x).kind≠3)||kwB (dat ds x).name||inL ns (dat ds x).name
def JT (ds:List Dat):List Nat→List ByteArray→Option (List ByteArray)
 |[],ns=>some ns
 |k::r,ns=>if badP ds k ns then none else JT ds r (ns++[(dat ds k).name])
def UV (ds:List Dat):List Nat→List ByteArray→List Nat→Option (List ByteArray × List Nat)
 |[],ns,vs=>some (ns,vs)
 |k::r,ns,vs=>if (Qf ds k).length≠2 then none else if badP ds ((Qf ds k).getD 0 0) ns then none else UV ds r (ns++[(dat ds ((Qf ds k).getD 0 0)).name]) (vs++[(Qf ds k).getD 1 0])
abbrev Gx:=Nat→Int→Sco→List Cor→Ex
def lamE (ds:List Dat) (g:Gx) (ks:List Nat) (p:Int) (sc:Sco) (C:List Cor):Ex:=
 if ks.length≠3∨(dat ds (ks.getD 1 0)).kind≠4 then (C,1)
 else match JT ds (Qf ds (ks.getD 1 0)) [] with
  |none=>(C,1)
  |some ns=>if 3<ns.length then (C,2) else g (ks.getD 2 0) (C.length:Int) (ns::sc) (C++[nodC 5 p ns.length])
def letE (ds:List Dat) (g:Gx) (ks:List Nat) (p:Int) (sc:Sco) (C:List Cor):Ex:=
 if ks.length≠3∨(dat ds (ks.getD 1 0)).kind≠4 then (C,1)
 else match UV ds (Qf ds (ks.getD 1 0)) [] [] with
  |none=>(C,1)
  |some (ns,vs)=>if 3<ns.length then (C,2)
   else if (g (ks.getD 2 0) ((C.length+1:Nat):Int) (ns::sc) (C++[nodC 9 p 0]++[nodC 5 (C.length:Int) ns.length])).2≠0 then g (ks.getD 2 0) ((C.length+1:Nat):Int) (ns::sc) (C++[nodC 9 p 0]++[nodC 5 (C.length:Int) ns.length])
   else allE (fun k C'=>g k (C.length:Int) sc C') vs (g (ks.getD 2 0) ((C.length+1:Nat):Int) (ns::sc) (C++[nodC 9 p 0]++[nodC 5 (C.length:Int) ns.length])).1
def asgE (ds:List Dat) (g:Gx) (ks:List Nat) (p:Int) (sc:Sco) (C:List Cor) (kind:Int):Ex:=
 if ks.length≠3∨(kind=8∧p≠ -1) then (C,1)
 else if badP ds (ks.getD 1 0) [] then (C,1)
 else if (Jv sc (dat ds (ks.getD 1 0)).name).isSome then (C,1)
 else g (ks.getD 2 0) (C.length:Int) sc (C++[nmdC kind p (dat ds (ks.getD 1 0)).name])
def QaX (ds:List Dat) (g:Gx) (w:ByteArray) (ks:List Nat) (p:Int) (sc:Sco) (C:List Cor):Ex:=
 if w=⟨#[113,117,111,116,101]⟩ then (if ks.length≠2 then (C,1) else (C++[konC p (subD ds (ks.getD 1 0))],0))
 else if w=⟨#[105,102]⟩ then (if ks.length≠4 then (C,1) else allE (fun k C'=>g k (C.length:Int) sc C') (ks.drop 1) (C++[nodC 4 p 0]))
 else if w=⟨#[98,101,103,105,110]⟩ then (if ks.length<2 then (C,1) else allE (fun k C'=>g k (C.length:Int) sc C') (ks.drop 1) (C++[nodC 6 p 0]))
 else if w=⟨#[108,97,109,98,100,97]⟩ then lamE ds g ks p sc C
 else if w=⟨#[108,101,116]⟩ then letE ds g ks p sc C
 else if w=⟨#[100,101,102,105,110,101]⟩ then asgE ds g ks p sc C 8
 else asgE ds g ks p sc C 7
def expE (ds:List Dat):Nat→Gx
 |0,_,_,_,C=>(C,1)
 |f+1,x,p,sc,C=>
  if (dat ds x).kind=1∨(dat ds x).kind=2 then (C++[konC p (subD ds x)],0)
  else if (dat ds x).kind=3 then
   (if kwB (dat ds x).name then (C,1)
   else match Jv sc (dat ds x).name with
    |some (a,b)=>(C++[locC p a b],0)
    |none=>(C++[nmdC 3 p (dat ds x).name],0))
  else if (Qf ds x).length=0 then (C,1)
  else if (dat ds ((Qf ds x).getD 0 0)).kind=3∧kwB (dat ds ((Qf ds x).getD 0 0)).name=true then QaX ds (expE ds f) (dat ds ((Qf ds x).getD 0 0)).name (Qf ds x) p sc C
  else if 4<(Qf ds x).length then (C,2)
  else allE (fun k C'=>expE ds f k (C.length:Int) sc C') (Qf ds x) (C++[nodC 9 p 0])
def expR (ds:List Dat):Ex:=
 if Uo ds≠0 then ([],Uo ds)
 else if (expE ds ds.length 0 (-1) [] []).2≠0 then ([],(expE ds ds.length 0 (-1) [] []).2)
 else if 160<(expE ds ds.length 0 (-1) [] []).1.length then ([],2)
 else ((expE ds ds.length 0 (-1) [] []).1,0)
def cntC (S:List Cor) (q:Int):Nat:=(S.filter fun c=>decide (c.parent=q)).length
theorem QoG (S T:List Cor) (q:Int):cntC (S++T) q=cntC S q+cntC T q:=by simp [cntC]
theorem Qif (c:Cor) (S:List Cor) (q:Int):cntC (c::S) q=(if c.parent=q then 1 else 0)+cntC S q:=by
 unfold cntC
 rw [List.filter_cons]
 split
 ·rename_i h;rw [if_pos (by simpa using h)];simp;omega
 ·rename_i h;rw [if_neg (by simpa using h)];omega
theorem Qpe {S:List Cor} {c:Cor} (h:c∈S):∃i,i<S.length∧Qi S i=c:=by
 obtain ⟨i,hi,rfl⟩:=List.getElem_of_mem h
 exact ⟨i,hi,by simp [Qi,List.getD,hi]⟩
theorem Qmq {S:List Cor} {q:Int} (h:∀i,i<S.length→(Qi S i).parent≠q):cntC S q=0:=by
 unfold cntC
 rw [List.length_eq_zero_iff,List.filter_eq_nil_iff]
 intro c hc
 obtain ⟨i,hi,rfl⟩:=Qpe hc
 simpa using h i hi
theorem Qd9 {S T:List Cor} {i:Nat} (h:i<S.length):Qi (S++T) i=Qi S i:=by simp [Qi,List.getD,List.getElem?_append_left h]
theorem Qc0 {S T:List Cor} {i:Nat} (h:S.length≤i):Qi (S++T) i=Qi T (i - S.length):=by simp [Qi,List.getD,List.getElem?_append_right h]
structure Seg (n:Nat) (p:Int) (S:List Cor) (k:Nat):Prop where
 lt:p<n
 par:∀i,i<S.length→(Qi S i).parent=p∨((n:Int)≤(Qi S i).parent∧(Qi S i).parent<(n:Int)+i)
 cnt:cntC S p=k
 kid:∀i,i<S.length→hasK (Qi S i).kind (cntC S ((n+i:Nat):Int))
 kind:∀i,i<S.length→1≤(Qi S i).kind∧(Qi S i).kind≤9
 data:∀i,i<S.length→(Qi S i).data.length≤80
theorem Seg.nil {n:Nat} {p:Int} (h:p<n):Seg n p [] 0:=⟨h,(fun i h=>by simp at h),rfl,(fun i h=>by simp at h),(fun i h=>by simp at h),fun i h=>by simp at h⟩
theorem Seg.cat {n k l:Nat} {p:Int} {S T:List Cor} (h:Seg n p S k) (g:Seg (n+S.length) p T l):Seg n p (S++T) (k+l):=by
 have hlt:=h.lt
 refine ⟨h.lt,fun i hi=>?_,by rw [QoG,h.cnt,g.cnt],fun i hi=>?_,fun i hi=>?_,fun i hi=>?_⟩
 ·by_cases c:i<S.length
  ·rw [Qd9 c];exact h.par i c
  ·rw [Qc0 (by omega)]
   have:=g.par (i - S.length) (by rw [List.length_append] at hi;omega)
   omega
 ·by_cases c:i<S.length
  ·rw [Qd9 c,QoG,Qmq (S:=T),Nat.add_zero]
   ·exact h.kid i c
   ·intro j hj
    have:=g.par j hj
    omega
  ·rw [Qc0 (by omega),QoG,Qmq (S:=S),Nat.zero_add]
   ·have:=g.kid (i - S.length) (by rw [List.length_append] at hi;omega)
    rwa [show n+S.length+(i - S.length)=n+i by omega] at this
   ·intro j hj
    have:=h.par j hj
    omega
 ·by_cases c:i<S.length
  ·rw [Qd9 c];exact h.kind i c
  ·rw [Qc0 (by omega)];exact g.kind _ (by rw [List.length_append] at hi;omega)
 ·by_cases c:i<S.length
  ·rw [Qd9 c];exact h.data i c
  ·rw [Qc0 (by omega)];exact g.data _ (by rw [List.length_append] at hi;omega)
theorem Seg.node {n k:Nat} {p:Int} {c:Cor} {S:List Cor} (h:Seg (n+1) (n:Int) S k) (hp:p<n) (hc:c.parent=p) (hk:hasK c.kind k) (hr:1≤c.kind∧c.kind≤9) (hd:c.data.length≤80):Seg n p (c::S) 1:=by
 have e0:Qi (c::S) 0=c:=rfl
 have e1:∀i,Qi (c::S) (i+1)=Qi S i:=fun i=>by simp [Qi]
 refine ⟨hp,fun i hi=>?_,?_,fun i hi=>?_,fun i hi=>?_,fun i hi=>?_⟩
 ·cases i with
  |zero=>rw [e0];exact .inl hc
  |succ i=>
   rw [e1]
   have:=h.par i (by simpa using hi)
   omega
 ·rw [Qif,if_pos hc,Qmq]
  intro i hi
  have:=h.par i hi
  omega
 ·cases i with
  |zero=>
   rw [e0,Qif,if_neg (by omega),Nat.zero_add,Nat.add_zero,h.cnt];exact hk
  |succ i=>
   rw [e1,Qif,if_neg (by omega),Nat.zero_add]
   have:=h.kid i (by simpa using hi)
   rwa [show n+1+i=n+(i+1) by omega] at this
 ·cases i with
  |zero=>exact hr
  |succ i=>rw [e1];exact h.kind i (by simpa using hi)
 ·cases i with
  |zero=>exact hd
  |succ i=>rw [e1];exact h.data i (by simpa using hi)
def Qby (r:Ex) (C:List Cor) (p:Int) (k:Nat):Prop:=r.2=0→∃S,r.1=C++S∧Seg C.length p S k
theorem Qgb {p:Int} {g:Nat→List Cor→Ex} (hg:∀k C,p<(C.length:Int)→Qby (g k C) C p 1):∀ks C,p<(C.length:Int)→Qby (allE g ks C) C p ks.length:=by
 intro ks
 induction ks with
 |nil=>intro C hp _;exact ⟨[],by simp [allE],.nil hp⟩
 |cons k r ih=>
  intro C hp h
  rw [allE] at h ⊢
  by_cases c:(g k C).2=0
  ·rw [if_neg (by simpa using c)] at h ⊢
   obtain ⟨S,e,hs⟩:=hg k C hp c
   rw [e] at h ⊢
   obtain ⟨T,e2,ht⟩:=ih (C++S) (by simp;omega) h
   refine ⟨S++T,by rw [e2,List.append_assoc],?_⟩
   rw [List.length_append] at ht
   have:=hs.cat ht
   rwa [List.length_cons,Nat.add_comm r.length 1]
  ·rw [if_pos (by simpa using c)] at h
   exact absurd h c
theorem Qgc {C:List Cor} {p:Int} {c:Cor} (hp:p<(C.length:Int)) (hc:c.parent=p) (hk:hasK c.kind 0) (hr:1≤c.kind∧c.kind≤9) (hd:c.data.length≤80):Qby (C++[c],0) C p 1:=
 fun _=>⟨[c],rfl,(Seg.nil (n:=C.length+1) (p:=(C.length:Int)) (by omega)).node hp hc hk hr hd⟩
theorem Qai {C:List Cor} {p:Int} {c:Cor} {r:Ex} {k:Nat} (h:Qby r (C++[c]) (C.length:Int) k) (hp:p<(C.length:Int)) (hc:c.parent=p) (hk:r.2=0→hasK c.kind k) (hr:1≤c.kind∧c.kind≤9) (hd:c.data.length≤80):Qby r C p 1:=by
 intro h0
 obtain ⟨S,e,hs⟩:=h h0
 rw [List.length_append] at hs
 exact ⟨c::S,by rw [e,List.append_assoc];rfl,hs.node hp hc (hk h0) hr hd⟩
theorem Js {C D:List Cor} {p:Int} {k:Nat} {e:Int} (h:e≠0):Qby (D,e) C p k:=fun h0=>absurd h0 h
section
variable {ds:List Dat}
abbrev Qkj (g:Gx):Prop:=∀x p sc C,p<(C.length:Int)→Qby (g x p sc C) C p 1
theorem QtT {g:Gx} (hg:Qkj g) {ks:List Nat} {p:Int} {sc:Sco} {C:List Cor} (hp:p<(C.length:Int)):Qby (lamE ds g ks p sc C) C p 1:=by
 unfold lamE
 split
 ·exact Js (by decide)
 ·split
  ·exact Js (by decide)
  ·split
   ·exact Js (by decide)
   ·exact Qai (hg _ _ _ _ (by simp;omega)) hp rfl (fun _=>by simp [hasK,nodC]) (by simp [nodC]) (by simp [nodC])
theorem QtU {g:Gx} (hg:Qkj g) {ks:List Nat} {p:Int} {sc:Sco} {C:List Cor} (hp:p<(C.length:Int)) (hl:∀ns vs,UV ds (Qf ds (ks.getD 1 0)) [] []=some (ns,vs)→vs.length=ns.length):Qby (letE ds g ks p sc C) C p 1:=by
 unfold letE
 split
 ·exact Js (by decide)
 ·split
  ·exact Js (by decide)
  ·rename_i ns vs e
   have hvl:=hl ns vs e
   split
   ·exact Js (by decide)
   ·rename_i h3
    refine Qai (c:=nodC 9 p 0) (k:=vs.length+1) ?_ hp rfl (fun _=>?_) (by simp [nodC]) (by simp [nodC])
    ·have hb:Qby (g (ks.getD 2 0) ((C.length+1:Nat):Int) (ns::sc) (C++[nodC 9 p 0]++[nodC 5 (C.length:Int) ns.length])) (C++[nodC 9 p 0]) (C.length:Int) 1:=by
      refine Qai (c:=nodC 5 (C.length:Int) ns.length) (k:=1) ?_ (by simp;omega) rfl (fun _=>by simp [hasK,nodC]) (by simp [nodC]) (by simp [nodC])
      have:=hg (ks.getD 2 0) ((C.length+1:Nat):Int) (ns::sc) (C++[nodC 9 p 0]++[nodC 5 (C.length:Int) ns.length]) (by simp)
      simpa using this
     generalize g (ks.getD 2 0) ((C.length+1:Nat):Int) (ns::sc) (C++[nodC 9 p 0]++[nodC 5 (C.length:Int) ns.length])=r at hb ⊢
     split
     ·rename_i hne;exact fun h0=>absurd h0 hne
     ·rename_i hne
      obtain ⟨S,e1,hs⟩:=hb (by simpa using hne)
      intro h0
      rw [e1] at h0 ⊢
      obtain ⟨T,e2,ht⟩:=Qgb (p:=(C.length:Int)) (g:=fun k C'=>g k (C.length:Int) sc C') (fun k C' h=>hg _ _ _ _ h) vs (C++[nodC 9 p 0]++S) (by simp;omega) h0
      refine ⟨S++T,by rw [e2,List.append_assoc],?_⟩
      rw [List.length_append] at ht
      have:=hs.cat ht
      rwa [Nat.add_comm 1] at this
    ·rw [hvl];simp [hasK,nodC];omega
theorem Qpf {g:Gx} (hg:Qkj g) {ks:List Nat} {p kind:Int} {sc:Sco} {C:List Cor} (hp:p<(C.length:Int)) (hk:kind=7∨kind=8):Qby (asgE ds g ks p sc C kind) C p 1:=by
 unfold asgE
 split
 ·exact Js (by decide)
 ·split
  ·exact Js (by decide)
  ·split
   ·exact Js (by decide)
   ·exact Qai (hg _ _ _ _ (by simp;omega)) hp rfl (fun _=>by rcases hk with rfl|rfl<;>simp [hasK,nmdC]) (by rcases hk with rfl|rfl<;>simp [nmdC]) (by simp [nmdC])
theorem Qvy:∀(l:List Nat) (ns:List ByteArray) (vs:List Nat) (ns':List ByteArray) (vs':List Nat),ns.length=vs.length→UV ds l ns vs=some (ns',vs')→vs'.length=ns'.length:=by
 intro l
 induction l with
 |nil=>intro ns vs ns' vs' h e;simp only [UV,Option.some.injEq,Prod.mk.injEq] at e;rw [←e.1,←e.2,h]
 |cons k r ih=>
  intro ns vs ns' vs' h e
  rw [UV] at e
  split at e
  ·cases e
  ·split at e
   ·cases e
   ·exact ih _ _ _ _ (by simp [h]) e
theorem QsK {g:Gx} (hl:ds.length≤80) (hg:Qkj g) {w:ByteArray} {ks:List Nat} {p:Int} {sc:Sco} {C:List Cor} (hp:p<(C.length:Int)):Qby (QaX ds g w ks p sc C) C p 1:=by
 unfold QaX
 split
 ·split
  ·exact Js (by decide)
  ·exact Qgc hp rfl (by simp [hasK,konC]) (by simp [konC]) (Nat.le_trans (QrV ..) hl)
 split
 ·split
  ·exact Js (by decide)
  ·rename_i h4
   exact Qai (Qgb (fun k C' h=>hg _ _ _ _ h) _ _ (by simp;omega)) hp rfl (fun _=>by simp [hasK,nodC];omega) (by simp [nodC]) (by simp [nodC])
 split
 ·split
  ·exact Js (by decide)
  ·rename_i h4
   exact Qai (Qgb (fun k C' h=>hg _ _ _ _ h) _ _ (by simp;omega)) hp rfl (fun _=>by simp [hasK,nodC];omega) (by simp [nodC]) (by simp [nodC])
 split
 ·exact QtT hg hp
 split
 ·exact QtU hg hp fun ns vs e=>Qvy _ _ _ _ _ rfl e
 split
 ·exact Qpf hg hp (.inr rfl)
 ·exact Qpf hg hp (.inl rfl)
theorem QtV (hl:ds.length≤80):∀f,Qkj (expE ds f):=by
 intro f
 induction f with
 |zero=>intro x p sc C _;exact Js (by decide)
 |succ f ih=>
  intro x p sc C hp
  rw [expE]
  split
  ·exact Qgc hp rfl (by simp [hasK,konC]) (by simp [konC]) (Nat.le_trans (QrV ..) hl)
  split
  ·split
   ·exact Js (by decide)
   ·split
    ·exact Qgc hp rfl (by simp [hasK,locC]) (by simp [locC]) (by simp [locC])
    ·exact Qgc hp rfl (by simp [hasK,nmdC]) (by simp [nmdC]) (by simp [nmdC])
  split
  ·exact Js (by decide)
  rename_i hne
  split
  ·exact QsK hl ih hp
  split
  ·exact Js (by decide)
  ·exact Qai (Qgb (fun k C' h=>ih _ _ _ _ h) _ _ (by simp;omega)) hp rfl (fun _=>by simp [hasK,nodC];omega) (by simp [nodC]) (by simp [nodC])
theorem Qvz (S:List Cor) (q:Nat):(QE S q).length=cntC S (q:Int):=by
 unfold QE cntC
 have h:S=(List.range S.length).map (Qi S):=by
  apply List.ext_getElem (by simp)
  intro i h1 h2
  simp [Qi,List.getD,h1]
 conv=>rhs;rw [h]
 rw [List.filter_map,List.length_map]
 rfl
theorem Qkk (h:Uo ds=0):1≤ds.length∧ds.length≤80:=by
 unfold Uo at h
 split at h
 ·rename_i c;simp only [inB,Bool.and_eq_true,decide_eq_true_iff] at c;omega
 ·cases h
theorem Qyu (h:(expR ds).2=0):WfC (expR ds).1∧∀i,(Qi (expR ds).1 i).data.length≤80:=by
 unfold expR at h ⊢
 split at h
 ·rename_i c;exact absurd h c
 rename_i hd
 rw [if_neg hd]
 split at h
 ·rename_i c;exact absurd h c
 rename_i he
 rw [if_neg he]
 split at h
 ·cases h
 rename_i hm
 rw [if_neg hm]
 obtain ⟨S,e,hs⟩:=QtV (Qkk (by simpa using hd)).2 ds.length 0 (-1) [] [] (by simp) (by simpa using he)
 rw [List.nil_append] at e
 rw [e] at hm ⊢
 have hlt:=hs.lt
 have hne:S≠[]:=by rintro rfl;have:=hs.cnt;simp [cntC] at this
 have hp0:0<S.length:=List.length_pos_iff.2 hne
 have h0:(Qi S 0).parent= -1:=by have:=hs.par 0 hp0;simp only [List.length_nil] at this;omega
 refine ⟨⟨⟨hp0,by simpa using hm⟩,hs.kind,h0,fun i hi hl=>?_,fun i hi=>?_⟩,fun i=>?_⟩
 ·have hi':=hs.par i hl
  simp only [List.length_nil] at hi'
  rcases hi' with c|c
  ·exfalso
   have hc:=hs.cnt
   obtain ⟨c0,r,rfl⟩:∃c0 r,S=c0::r:=by
    match S,hne with
    |c0::r,_=>exact ⟨c0,r,rfl⟩
   rw [Qif,if_pos (show c0.parent= -1 from h0)] at hc
   have hz:cntC r (-1)=0:=by omega
   have hm:Qi (c0::r) i∈r:=by
    obtain ⟨j,rfl⟩:∃j,i=j+1:=⟨i - 1,by omega⟩
    have hj:j<r.length:=by simpa using hl
    have:Qi (c0::r) (j+1)=r[j]:=by simp [Qi,List.getD,hj]
    rw [this];exact List.getElem_mem hj
   unfold cntC at hz
   rw [List.length_eq_zero_iff,List.filter_eq_nil_iff] at hz
   exact hz _ hm (by simpa using c)
  ·omega
 ·rw [Qvz]
  have:=hs.kid i hi
  simpa using this
 ·by_cases c:i<S.length
  ·exact hs.data i c
  ·unfold Qi
   simp [List.getD,List.getElem?_eq_none (Nat.le_of_not_lt c)]
   exact Nat.zero_le _
end
end Go.Proofs.YtggnjjalfnhiiaaGreatDoor.E
/- Forms that are expanded to cores: how many cores. No program in sight. -/
namespace Go.Proofs.YtggnjjalfnhiiaaGreatDoor.E
open Go Go.RowKit
def fakC (ds:List Dat):List Cor:=(List.range ds.length).map fun i=>nodC (if Qf ds i=[] then 3 else 6) (dat ds i).parent 0
section
variable {ds:List Dat} [L:Lam]
theorem Qb1:(fakC ds).length=ds.length:=by simp [fakC]
theorem Qkl {i:Nat} (h:i<ds.length):Qi (fakC ds) i=nodC (if Qf ds i=[] then 3 else 6) (dat ds i).parent 0:=by simp [Qi,fakC,List.getD,h]
theorem QqO (x:Nat):QE (fakC ds) x=Qf ds x:=by
 unfold QE
 rw [Qb1]
 unfold Qf
 refine List.filter_congr fun i hi=>?_
 rw [Qkl (List.mem_range.1 hi)]
 rfl
theorem Qkm {i:Nat} (h:datF ds i=0):(i=0→(dat ds i).parent= -1)∧(0<i→0≤(dat ds i).parent∧(dat ds i).parent<i)∧1≤(dat ds i).kind∧(dat ds i).kind≤4:=by
 unfold datF at h
 split at h
 ·cases h
 rename_i hb
 have hk:1≤(dat ds i).kind∧(dat ds i).kind≤4:=by
  simp only [Qd4,inB,Bool.and_eq_true,decide_eq_true_iff,Bool.not_eq_false] at hb
  exact hb.1.1
 split at h
 ·rename_i hk;exact absurd h hk
 split at h
 ·rename_i h0
  split at h
  ·cases h
  ·rename_i h1;exact ⟨fun _=>by simpa using h1,fun c=>by omega,hk⟩
 ·rename_i h0
  split at h
  ·cases h
  ·rename_i h1
   simp only [inB,Bool.and_eq_true,decide_eq_true_iff,Bool.not_eq_false] at h1
   exact ⟨fun c=>absurd c h0,fun _=>by omega,hk⟩
structure DOk (ds:List Dat):Prop where
 len:1≤ds.length∧ds.length≤80
 top:(dat ds 0).parent= -1
 par:∀i,0<i→i<ds.length→0≤(dat ds i).parent∧(dat ds i).parent<i
 kind:∀i,i<ds.length→1≤(dat ds i).kind∧(dat ds i).kind≤4
 pars:∀i,i≤ds.length→Pars ds i
theorem DOk.of (h:Uo ds=0):DOk ds:=by
 have hl:=Qkk h
 have hz:∀j,j<ds.length→datF ds j=0:=by
  unfold Uo at h
  split at h
  ·intro j hj;exact Qlw _ _ h j (Nat.zero_le _) (by omega)
  ·cases h
 exact ⟨hl,(Qkm (hz 0 (by omega))).1 rfl,fun i hi hl=>(Qkm (hz i hl)).2.1 hi,fun i hl=>(Qkm (hz i hl)).2.2,fun i hi=>QkB fun j hj=>hz j (by omega)⟩
theorem Qpg {x k:Nat}:k∈Qf ds x↔k<ds.length∧(dat ds k).parent=(x:Int):=by simp [Qf]
theorem DOk.kid (h:DOk ds) {x k:Nat} (hk:k∈Qf ds x):x<k∧k<ds.length:=by
 obtain ⟨h1,h2⟩:=Qpg.1 hk
 have h0:0<k:=by
  rcases Nat.eq_zero_or_pos k with c|c
  ·subst c;rw [h.top] at h2;omega
  ·exact c
 have:=h.par k h0 h1
 omega
theorem DOk.fak (h:DOk ds):WfC (fakC ds):=by
 have hl:=h.len
 refine ⟨by rw [Qb1];omega,fun i hi=>?_,?_,fun i h0 hi=>?_,fun i hi=>?_⟩
 ·rw [Qb1] at hi
  rw [Qkl hi]
  simp only [nodC]
  split<;>omega
 ·rw [Qkl (by omega)];exact h.top
 ·rw [Qb1] at hi
  rw [Qkl hi];exact h.par i h0 hi
 ·rw [Qb1] at hi
  rw [Qkl hi,QqO]
  simp only [nodC]
  split
  ·rename_i c;rw [c];simp [hasK]
  ·rename_i c
   have:=List.length_pos_iff.2 c
   simp [hasK];omega
theorem QsL {X Y:Type} {f g:X→List Y}:∀l:List X,(∀x,x∈l→f x=g x)→l.flatMap f=l.flatMap g:=by
 intro l
 induction l with
 |nil=>intro _;rfl
 |cons x r ih=>intro h;rw [List.flatMap_cons,List.flatMap_cons,h x (by simp),ih fun y hy=>h y (by simp [hy])]
theorem QvA {cs:List Cor} (hw:WfC cs):∀f x,x<cs.length→cs.length≤f+x→vis cs (f+1) x=vis cs f x:=by
 intro f
 induction f with
 |zero=>intro x h1 h2;omega
 |succ f ih=>
  intro x h1 h2
  rw [vis]
  conv=>rhs;rw [vis]
  rw [QsL (QE cs x) fun k hk=>ih k (hw.kid hk).2 (by have:=hw.kid hk;omega)]
def nv (ds:List Dat) (x:Nat):Nat:=(vis (fakC ds) ds.length x).length
def nvK (ds:List Dat) (ks:List Nat):Nat:=(ks.map (nv ds)).sum
theorem Qe5 (k:Nat) (r:List Nat):nvK ds (k::r)=nv ds k+nvK ds r:=by simp [nvK]
theorem QhA (a b:List Nat):nvK ds (a++b)=nvK ds a+nvK ds b:=by simp [nvK]
theorem Qgd (h:DOk ds) {x:Nat} (hx:x<ds.length):nv ds x=1+nvK ds (Qf ds x):=by
 have hl:=h.len
 obtain ⟨n,hn⟩:∃n,ds.length=n+1:=⟨ds.length - 1,by omega⟩
 unfold nv
 rw [hn,Qow,QqO]
 congr 1
 unfold visK nvK nv
 congr 1
 refine List.map_congr_left fun k hk=>?_
 have:=h.kid hk
 rw [hn,QvA h.fak n k (by rw [Qb1];omega) (by rw [Qb1];omega)]
theorem QqP (h:DOk ds) {x:Nat} (hx:x<ds.length):nv ds x≤160:=Qo2 h.fak _ _ (by rw [Qb1];exact hx)
theorem Qb2 {ks:List Nat} {j:Nat} (h:j<ks.length):nvK ds ks=nvK ds (ks.take j)+(nv ds (ks.getD j 0)+nvK ds (ks.drop (j+1))):=by
 have e:ks.getD j 0=ks[j]:=by simp [List.getD,h]
 rw [e]
 have h1:=QhA (ds:=ds) (ks.take j) (ks.drop j)
 rw [List.take_append_drop,List.drop_eq_getElem_cons h,Qe5] at h1
 exact h1
theorem Qao {ks:List Nat} {j:Nat} (h:j<ks.length):nv ds (ks.getD j 0)≤nvK ds ks:=by rw [Qb2 h];omega
theorem Qmr (ks:List Nat) (j:Nat):nvK ds (ks.drop j)≤nvK ds ks:=by
 have h1:=QhA (ds:=ds) (ks.take j) (ks.drop j)
 rw [List.take_append_drop] at h1
 omega
theorem QD {ks:List Nat} {j:Nat} (h:j<ks.length):ks.getD j 0∈ks:=by
 have e:ks.getD j 0=ks[j]:=by simp [List.getD,h]
 rw [e];exact List.getElem_mem h
theorem QoH (h:DOk ds):∀(l:List Nat) (ns:List ByteArray) (vs:List Nat) (ns':List ByteArray) (vs':List Nat),(∀k,k∈l→k<ds.length)→UV ds l ns vs=some (ns',vs')→nvK ds vs'≤nvK ds vs+nvK ds l∧∀v,v∈vs'→v∈vs∨(v<ds.length∧∃k,k∈l∧k<v):=by
 intro l
 induction l with
 |nil=>
  intro ns vs ns' vs' _ e
  simp only [UV,Option.some.injEq,Prod.mk.injEq] at e
  rw [←e.2]
  exact ⟨by omega,fun v hv=> .inl hv⟩
 |cons k r ih=>
  intro ns vs ns' vs' hl e
  rw [UV] at e
  split at e
  ·cases e
  ·rename_i h2
   split at e
   ·cases e
   ·have h2':(Qf ds k).length=2:=by omega
    obtain ⟨g1,g2⟩:=ih _ _ _ _ (fun q hq=>hl q (by simp [hq])) e
    have hk:=hl k (by simp)
    have hm:=QD (ks:=Qf ds k) (j:=1) (by omega)
    have ho:=Qao (ds:=ds) (ks:=Qf ds k) (j:=1) (by omega)
    have he:=Qgd h hk
    rw [QhA,Qe5] at g1
    have e0:nvK ds []=0:=rfl
    refine ⟨by rw [Qe5];omega,fun v hv=>?_⟩
    rcases g2 v hv with c|⟨c,q,c2,c3⟩
    ·rcases List.mem_append.1 c with c|c
     ·exact .inl c
     ·obtain rfl:=List.mem_singleton.1 c
      exact .inr ⟨(h.kid hm).2,k,by simp,(h.kid hm).1⟩
    ·exact .inr ⟨c,q,by simp [c2],c3⟩
def Less (ds:List Dat) (g:Gx):Prop:=∀x p sc C,x<ds.length→(g x p sc C).1.length≤C.length+2*nv ds x
theorem Qms {g:Nat→List Cor→Ex}:∀(ks:List Nat) (C:List Cor),(∀k C,k∈ks→(g k C).1.length≤C.length+2*nv ds k)→(allE g ks C).1.length≤C.length+2*nvK ds ks:=by
 intro ks
 induction ks with
 |nil=>intro C _;simp [allE]
 |cons k r ih=>
  intro C h
  have h1:=h k C (by simp)
  rw [allE,Qe5]
  split
  ·omega
  ·have:=ih (g k C).1 fun q C hq=>h q C (by simp [hq])
   omega
theorem QtW (h:DOk ds) {g:Gx} (hg:Less ds g) {w:ByteArray} {x:Nat} {p:Int} {sc:Sco} {C:List Cor} (hx:x<ds.length):(QaX ds g w (Qf ds x) p sc C).1.length≤C.length+2*nv ds x:=by
 have he:=Qgd h hx
 have hk:∀k,k∈Qf ds x→k<ds.length:=fun k hk=>(h.kid hk).2
 have hal:∀c,(allE (fun k C'=>g k (C.length:Int) sc C') ((Qf ds x).drop 1) (C++[c])).1.length≤C.length+2*nv ds x:=fun c=>by
  have h1:=Qms (ds:=ds) (g:=fun k C'=>g k (C.length:Int) sc C') ((Qf ds x).drop 1) (C++[c]) fun k C' hm=>hg _ _ _ _ (hk k (List.mem_of_mem_drop hm))
  have h2:=Qmr (ds:=ds) (Qf ds x) 1
  simp only [List.length_append,List.length_cons,List.length_nil] at h1
  omega
 unfold QaX
 split
 ·split
  ·simp
  ·simp;omega
 split
 ·split
  ·simp
  ·exact hal _
 split
 ·split
  ·simp
  ·exact hal _
 split
 ·unfold lamE
  split
  ·simp
  ·rename_i h3
   have h3':(Qf ds x).length=3:=by omega
   split
   ·simp
   ·split
    ·simp
    ·rename_i ns _ _
     have h1:=hg ((Qf ds x).getD 2 0) (C.length:Int) (ns::sc) (C++[nodC 5 p ns.length]) (hk _ (QD (by omega)))
     have h2:=Qao (ds:=ds) (ks:=Qf ds x) (j:=2) (by omega)
     simp only [List.length_append,List.length_cons,List.length_nil] at h1
     omega
 split
 ·unfold letE
  split
  ·simp
  ·rename_i h3
   have h3':(Qf ds x).length=3:=by omega
   split
   ·simp
   ·rename_i ns vs e
    split
    ·simp
    ·have h1:=hg ((Qf ds x).getD 2 0) ((C.length+1:Nat):Int) (ns::sc) (C++[nodC 9 p 0]++[nodC 5 (C.length:Int) ns.length]) (hk _ (QD (by omega)))
     have m1:=Qb2 (ds:=ds) (ks:=Qf ds x) (j:=1) (by omega)
     have m2:=Qao (ds:=ds) (ks:=(Qf ds x).drop 2) (j:=0) (by rw [List.length_drop];omega)
     have e2:((Qf ds x).drop 2).getD 0 0=(Qf ds x).getD 2 0:=by simp [List.getD]
     rw [e2] at m2
     simp only [Nat.reduceAdd] at m1
     have hk1:=hk _ (QD (ks:=Qf ds x) (j:=1) (by omega))
     have he1:=Qgd h hk1
     have ll:=QoH h _ _ _ _ _ (fun k hk=>(h.kid hk).2) e
     have e0:nvK ds []=0:=rfl
     simp only [List.length_append,List.length_cons,List.length_nil] at h1
     generalize g ((Qf ds x).getD 2 0) ((C.length+1:Nat):Int) (ns::sc) (C++[nodC 9 p 0]++[nodC 5 (C.length:Int) ns.length])=r at h1 ⊢
     split
     ·omega
     ·have h4:=Qms (ds:=ds) (g:=fun k C'=>g k (C.length:Int) sc C') vs r.1 fun k C' hm=>hg _ _ _ _ (by
       rcases ll.2 k hm with c|c
       ·cases c
       ·exact c.1)
      omega
 have asg:∀kind,(asgE ds g (Qf ds x) p sc C kind).1.length≤C.length+2*nv ds x:=fun kind=>by
  unfold asgE
  split
  ·simp
  ·rename_i h3
   have h3':(Qf ds x).length=3:=by omega
   split
   ·simp
   ·split
    ·simp
    ·have h1:=hg ((Qf ds x).getD 2 0) (C.length:Int) sc (C++[nmdC kind p (dat ds ((Qf ds x).getD 1 0)).name]) (hk _ (QD (by omega)))
     have h2:=Qao (ds:=ds) (ks:=Qf ds x) (j:=2) (by omega)
     simp only [List.length_append,List.length_cons,List.length_nil] at h1
     omega
 split
 ·exact asg 8
 ·exact asg 7
theorem Qe6 (h:DOk ds):∀f,Less ds (expE ds f):=by
 intro f
 induction f with
 |zero=>intro x p sc C _;simp [expE]
 |succ f ih=>
  intro x p sc C hx
  have he:=Qgd h hx
  rw [expE]
  split
  ·simp;omega
  split
  ·split
   ·simp
   ·split
    ·simp;omega
    ·simp;omega
  split
  ·simp
  split
  ·exact QtW h ih hx
  split
  ·simp
  ·have h1:=Qms (ds:=ds) (g:=fun k C'=>expE ds f k (C.length:Int) sc C') (Qf ds x) (C++[nodC 9 p 0]) fun k C' hm=>ih _ _ _ _ (h.kid hm).2
   simp only [List.length_append,List.length_cons,List.length_nil] at h1
   omega
abbrev Frs:=List (List ByteArray × Int)
inductive Chain (F:Frs):Int→Sco→Prop
 |nil:Chain F (-1) []
 |cons {i:Nat} {ns:List ByteArray} {out:Int} {sc:Sco}:F[i]? =some (ns,out)→out<(i:Int)→Chain F out sc→Chain F (i:Int) (ns::sc)
theorem Chain.app {F:Frs} {f:Int} {sc:Sco} (h:Chain F f sc) (X:Frs):Chain (F++X) f sc:=by
 induction h with
 |nil=>exact .nil
 |cons h1 h2 _ ih=>
  refine .cons ?_ h2 ih
  rw [List.getElem?_append_left (List.getElem?_eq_some_iff.1 h1).1];exact h1
theorem Chain.lt {F:Frs} {f:Int} {sc:Sco} (h:Chain F f sc): -1≤f∧f<F.length:=by
 cases h with
 |nil=>omega
 |cons h1 _ _=>have:=(List.getElem?_eq_some_iff.1 h1).1;omega
theorem Chain.new {F:Frs} {f:Int} {sc:Sco} (h:Chain F f sc) (ns:List ByteArray):Chain (F++[(ns,f)]) (F.length:Int) (ns::sc):=
 .cons (by simp) h.lt.2 (h.app _)
end
end Go.Proofs.YtggnjjalfnhiiaaGreatDoor.E
/- Forms that are expanded to cores: the steps of the reference's way. -/
namespace Go.Proofs.YtggnjjalfnhiiaaGreatDoor.E
open Go Go.RowKit
set_option maxRecDepth 100000
variable [L:Lam]
variable {σ τ τ':AH} {R:AEnd→AH→Prop}
section
variable {ds:List Dat}
def kdTo (ds:List Dat) (i x:Nat):List Nat:=(List.range i).filter fun j=>decide ((dat ds j).parent=(x:Int))
theorem Qge (ds:List Dat) (i x:Nat):kdTo ds (i+1) x=kdTo ds i x++(if (dat ds i).parent=(x:Int) then [i] else []):=by
 unfold kdTo
 rw [List.range_succ,List.filter_append]
 congr 1
 by_cases c:(dat ds i).parent=(x:Int)<;>simp [c]
theorem QrW (ds:List Dat) (i x:Nat):(kdTo ds i x).length≤i:=by
 unfold kdTo
 exact Nat.le_trans (List.length_filter_le _ _) (by simp)
theorem QaY {x:Nat} (hl:ds.length≤1000000) (h:R (.ret (roK (Qf ds x))) σ):acall TP Qfs [roD ds,iv (x:Int)] σ R:=by
 refine QkN ?_
 unfold Qg8 x70;dsimp only [den,dE,di,tupL,lTup,dwat,Qe,List.map,Option.map,den0,den1,den2,den3,den4]
 refine bsl0 ?_
 refine J4 ds.length (fun i y τ=>∃u,y=(roD ds,iv (x:Int),u,iv (i:Int),())∧Buf τ 1 u (innK (kdTo ds i x))∧AH.Sub σ τ∧∀ψ,ψ∈famL u→σ ψ=none) ⟨.emp,rfl,.inl ⟨.inr rfl,rfl⟩,.refl σ,fun ψ c=>by cases c⟩ ?_
 rintro i _ τ hi ⟨u,rfl,hB,hs,hf⟩ R' hR'
 simp only [QB,RR]
 by_cases hlt:i<ds.length
 ·have g:(i:Int)<(ds.length:Int):=by omega
  have l1:∀τ,lod (.rop (Qc (dat ds i)) 1) τ=some (iv (dat ds i).parent):=fun _=>rfl
  simp only [g,Qu hlt Qk,QY hlt,l1,jn,RR]
  by_cases c:(dat ds i).parent=(x:Int)
  ·simp only [c,RR]
   refine QbJ (row:=[iv (i:Int)]) hB rfl (by omega) rfl (fun y hy=>by obtain rfl:=List.mem_singleton.1 hy;rfl) (by have:=QrW ds i x;simp;omega) fun u' τ' hB' hK hfam=>?_
   simp only [Qj hlt (by omega),RR]
   refine hR' _ _ _ hlt (.refl _) ⟨u',rfl,?_,hK.sub hs hf,fun ψ hψ=>(hfam ψ hψ).elim (hf ψ) fun d=>hs.none d⟩
   rw [Qge,if_pos c]
   simpa [innK] using hB'
  ·simp only [c,Qj hlt (by omega),RR]
   refine hR' _ _ _ hlt (.refl _) ⟨u,rfl,?_,hs,hf⟩
   rw [Qge,if_neg c,List.append_nil];exact hB
 ·have g:¬(i:Int)<(ds.length:Int):=by omega
  obtain rfl:i=ds.length:=by omega
  simp only [g,RR]
  exact QU hs (UL hB hf rfl (by intro c hc;obtain ⟨o,_,rfl⟩:=List.mem_map.1 hc;rfl) fun _ _ _ _=> .same _) h
theorem Qkn {x:Nat} (hd:DOk ds) (hx:x<ds.length) (h:R (.ret (roD (subD ds x))) σ):acall TP Qiq [roD ds,iv (x:Int)] σ R:=by
 have hl:=hd.len
 refine Qm6 ?_
 unfold QjS x177;dsimp only [den,dE,di,tupL,lTup,dwat,Qe,List.map,Option.map,den0,den1,den2,den3,den4]
 refine Qbt hx (by omega) (hd.pars _ hx) ?_
 simp only [RR]
 refine bsl0 ?_
 refine QH (fun n y τ=>∃(i:Nat) (u:AV) (es:List Dat),y=(roD ds,iv (x:Int),iv ((QX (par ds) (x:Int):Nat):Int),u,iv (i:Int),())∧Buf τ 4 u (es.map Qc)∧AH.Sub σ τ∧(∀ψ,ψ∈famL u→σ ψ=none)∧ds.length - i=n∧i≤ds.length∧x≤i∧es.length+x=i∧es++subG ds x (ds.length - i) i=subD ds x) (ds.length - x)
  ⟨x,.emp,[],rfl,.inl ⟨.inr rfl,rfl⟩,.refl σ,(fun ψ c=>by cases c),rfl,by omega,Nat.le_refl _,by simp,rfl⟩ ?_
 rintro n y τ ⟨i,u,es,rfl,hB,hs,hf,rfl,hi,hxi,hes,e⟩ R' hR'
 have stop:subG ds x (ds.length - i) i=[]→aret u τ R:=fun he=>by
  rw [he,List.append_nil] at e
  rw [←e] at h
  exact QU hs (UL hB hf rfl (by intro c hc;obtain ⟨o,_,rfl⟩:=List.mem_map.1 hc;rfl) fun _ _ _ _=> .same _) h
 refine UC (P:=fun z τ'=>τ'=τ∧∃b,z=(roD ds,iv (x:Int),iv ((QX (par ds) (x:Int):Nat):Int),u,iv (i:Int),bv b,())∧(b=true→i<ds.length∧(i=x∨Qcv ds x<Qcv ds i))∧(b=false→¬(i<ds.length∧(i=x∨Qcv ds x<Qcv ds i)))) ?_ ?_
 ·rintro z τ' ⟨rfl,b,rfl,h1,h0⟩
  cases b with
  |false=>
   simp only [RR]
   refine stop ?_
   cases hn:ds.length - i with
   |zero=>rfl
   |succ n=>rw [subG,if_neg (h0 rfl)]
  |true=>
   obtain ⟨hlt,hc⟩:=h1 rfl
   obtain ⟨n,hn⟩:∃n,ds.length - i=n+1:=⟨ds.length - i - 1,by omega⟩
   rw [hn,subG,if_pos ⟨hlt,hc⟩] at e
   have hpar: -1≤(dat ds i).parent∧(dat ds i).parent≤80:=by
    rcases Nat.eq_zero_or_pos i with k|k
    ·subst k;rw [hd.top];omega
    ·have:=hd.par i k hlt;omega
   simp only [Qu hlt Qk,QY hlt,Qs (Qk _),RR]
   intro φ hφ
   refine QG (es:=[[iv 0,iv 0,iv 0,str ⟨#[]⟩]]) (cs:=Qc (dat ds i)) (AH.set_same ..) (by simp) rfl rfl rfl (Q3 _) ?_
   simp only [List.set_cons_zero,AH.set_set]
   have el:lod (.ptr φ 0 0 1) (τ'.set φ ⟨0,4,[Qc (dat ds i)]⟩)=some (iv (dat ds i).parent):=Qz (AH.set_same ..) rfl rfl
   have es1:ibin .sub (iv (dat ds i).parent) (iv (x:Int))=some (iv ((dat ds i).parent - x)):=QR (by omega) (by omega)
   simp only [el,es1,RR]
   refine Q0 (es:=[Qc (dat ds i)]) (cs:=Qc (dat ds i)) (AH.set_same ..) rfl (show 1<4 by omega) rfl rfl ?_
   rw [AH.set_set]
   have x1:∀(d:Dat) (a:Int),[Qc d].set 0 ((Qc d).set 1 (iv a))=[Qc {d with parent:=a}]:=fun d a=>rfl
   rw [x1]
   refine UC (P:=fun z τ2=>z=(roD ds,iv (x:Int),iv ((QX (par ds) (x:Int):Nat):Int),u,iv (i:Int),.ptr φ 0 0 0,())∧τ2=τ'.set φ ⟨0,4,[Qc {dat ds i with parent:=if i=x then -1 else (dat ds i).parent - x}]⟩) ?_ ?_
   ·rintro z τ2 ⟨rfl,rfl⟩
    refine QI hφ rfl ?_
    simp only [Qs (Qk _),RR]
    refine QbJ (row:=Qc {dat ds i with parent:=if i=x then -1 else (dat ds i).parent - x}) hB rfl (by omega) rfl (Q3 _) (by simp;omega) fun u' τ3 hB' hK hfam=>?_
    simp only [Qj hlt (by omega),RR]
    refine hR' _ _ (ds.length - (i+1)) τ3 (by omega) (.refl _) ⟨i+1,u',es++[{dat ds i with parent:=if i=x then -1 else (dat ds i).parent - x}],rfl,by simpa using hB',hK.sub hs hf,(fun ψ hψ=>(hfam ψ hψ).elim (hf ψ) fun d=>hs.none d),rfl,hlt,by omega,by simp;omega,?_⟩
    rw [show ds.length - (i+1)=n by omega,List.append_assoc]
    exact e
   ·intro k hk
    by_cases c:i=x
    ·have g:(i:Int)=(x:Int):=by omega
     simp only [g,RR]
     refine Q0 (es:=[Qc {dat ds i with parent:=(dat ds i).parent - x}]) (cs:=Qc {dat ds i with parent:=(dat ds i).parent - x}) (AH.set_same ..) rfl (show 1<4 by omega) rfl rfl ?_
     rw [AH.set_set]
     refine hk _ _ ⟨by rw [c]<;>rfl,?_⟩
     rw [if_pos c];rfl
    ·have g:¬(i:Int)=(x:Int):=by omega
     simp only [g,RR]
     refine hk _ _ ⟨rfl,?_⟩
     rw [if_neg c]
 ·intro k hk
  by_cases hlt:i<ds.length
  ·have g:(i:Int)<(ds.length:Int):=by omega
   by_cases c:i=x
   ·have g2:(i:Int)=(x:Int):=by omega
    have g3:(x:Int)<(ds.length:Int):=by omega
    simp only [QB,g2,g3,RR]
    exact hk _ _ ⟨rfl,true,by rw [c]<;>rfl,(fun _=>⟨hlt,.inl c⟩),fun x=>by cases x⟩
   ·have g2:¬(i:Int)=(x:Int):=by omega
    simp only [QB,g,g2,RR]
    refine Qbt hlt (by omega) (hd.pars _ hlt) ?_
    simp only [RR]
    have hdd:decide (((QX (par ds) (x:Int):Nat):Int)<((QX (par ds) (i:Int):Nat):Int))=decide (Qcv ds x<Qcv ds i):=by unfold Qcv;congr 1;apply propext;omega
    rw [hdd]
    refine hk _ _ ⟨rfl,_,rfl,(fun hb=>⟨hlt,.inr (by simpa using hb)⟩),fun hb=>?_⟩
    rintro ⟨_,k|k⟩
    ·exact c k
    ·simp [k] at hb
  ·have g:¬(i:Int)<(ds.length:Int):=by omega
   simp only [QB,g,RR]
   exact hk _ _ ⟨rfl,false,rfl,(fun x=>by cases x),fun _ c=>hlt c.1⟩
def Qc1 (p:List ByteArray × Int):List AV:=[roS p.1,iv p.2]
def fdE (ds:List Dat) (C:List Cor) (F:Frs):List Fd:=[.fix (roD ds),.lst 6 (C.map Qr),.lst 2 (F.map Qc1)]
variable {φm:Nat} {C:List Cor} {F:Frs}
def Qyv (c:Cor) (a:AV):List AV:=[iv c.kind,iv c.parent,iv c.a,iv c.b,str c.name,a]
theorem JS {f:FuncId} (c:Cor) {a:AV} {row:List AV} {K:AEnd→AH→Prop} (hr:row=Qyv c nilS) (hd:c.data=[]) (h:acall TP f [a,.agg (Qr c)] τ K):acall TP f [a,.agg row] τ K:=by
 subst hr
 refine Ur (args':=[a,.agg (Qr c)]) (.refl τ) rfl (fun i hi=>?_) h
 match i,hi with
 |0,_=>exact .same _
 |1,_=>
  refine .agg rfl fun j hj=>?_
  match j,hj with
  |0,_=>exact .same _
  |1,_=>exact .same _
  |2,_=>exact .same _
  |3,_=>exact .same _
  |4,_=>exact .same _
  |5,_=>
   have:(Qr c).getD 5 .any=roD []:=by show roD c.data=_;rw [hd]
   rw [this];exact .nil
theorem JC {c:Cor} (h:MSt σ τ φm (fdE ds C F)) (hn:C.length≤1000) (h1:∀τ',MSt σ τ' φm (fdE ds (C++[c]) F)→R (.ret (iv (C.length:Int))) τ'):acall TP Qbs [.ptr φm 0 0 0,.agg (Qr c)] τ R:=by
 refine Qm5 ?_
 unfold QjR x176;dsimp only [den,dE,di,tupL,lTup,dwat,Qe,List.map,Option.map,den0,den1,den2,den3,den4]
 refine UX rfl ?_
 obtain ⟨v,e1,b1⟩:=h.lst (i:=1) rfl
 simp only [e1,Qs (UJ _),RR]
 rw [lit1 (sz:=6) (row:=Qr c) rfl rfl (by omega)]
 simp only [RR]
 refine h.app (i:=1) rfl e1 (row:=Qr c) rfl rfl (QdZ _) (by simp;omega) fun v' τ1 k1=>?_
 simp only [RR,true_and]
 refine k1 _ fun τ2 S2=>?_
 have ef:(fdE ds C F).set 1 (.lst 6 (C.map Qr++[Qr c]))=fdE ds (C++[c]) F:=by simp [fdE]
 rw [ef] at S2
 obtain ⟨v2,e2,b2⟩:=S2.lst (i:=1) rfl
 have l2:=Jo b2
 have hl:(C++[c]).length=C.length+1:=by simp
 have es:ibin .sub (iv (((C++[c]).length:Nat):Int)) (.val (.int .i64 1))=some (iv (C.length:Int)):=by
  rw [Uu (by omega) (by omega),hl];rfl
 simp only [e2,l2,es,RR,true_and]
 exact Qa (h1 τ2 S2)
theorem QiW {ns:List ByteArray} {f:Int} (h:MSt σ τ φm (fdE ds C F)) (hn:F.length≤1000) (h1:∀τ',MSt σ τ' φm (fdE ds C (F++[(ns,f)]))→R (.ret (iv (F.length:Int))) τ'):acall TP Qg0 [.ptr φm 0 0 0,roS ns,iv f] τ R:=by
 refine Qma ?_
 unfold QiP x238;dsimp only [den,dE,di,tupL,lTup,dwat,Qe,List.map,Option.map,den0,den1,den2,den3,den4]
 obtain ⟨v,e1,b1⟩:=h.lst (i:=2) rfl
 have eb:bld [(.val (.slice none 0 0)),(.val (.int .i64 0))] [(0,1),(1,1)] [(0,roS ns),(1,iv f)]=some (.agg (Qc1 (ns,f))):=rfl
 simp only [e1,eb,RR]
 refine bsl1 (row:=Qc1 (ns,f)) rfl (by omega) fun ψ hψ=>?_
 have hs:AH.Sub τ (τ.set ψ ⟨0,2,[Qc1 (ns,f)]⟩):= .set (.refl τ) _ hψ
 refine (h.grow hs).app (i:=2) rfl (Jr hs e1) (row:=Qc1 (ns,f)) ael1 rfl (by intro y hy;simp only [Qc1,List.mem_cons,List.not_mem_nil,or_false] at hy;rcases hy with rfl|rfl<;>rfl) (by simp;omega) fun v' τ1 k1=>?_
 refine k1 _ fun τ2 S2=>?_
 have ef:(fdE ds C F).set 2 (.lst 2 (F.map Qc1++[Qc1 (ns,f)]))=fdE ds C (F++[(ns,f)]):=by simp [fdE]
 rw [ef] at S2
 obtain ⟨v2,e2,b2⟩:=S2.lst (i:=2) rfl
 have l2:=Jo b2
 have hl:(F++[(ns,f)]).length=F.length+1:=by simp
 have es:ibin .sub (iv (((F++[(ns,f)]).length:Nat):Int)) (.val (.int .i64 1))=some (iv (F.length:Int)):=by
  rw [Uu (by omega) (by omega),hl];rfl
 simp only [e2,l2,es,RR]
 exact Qa (h1 τ2 S2)
def fndV (o:Option (Nat × Nat)):AV:=match o with
 |none=> .tup [iv 0,iv 0,bv false]
 |some p=> .tup [iv (p.1:Int),iv (p.2:Int),bv true]
def shF (k:Nat) (o:Option (Nat × Nat)):Option (Nat × Nat):=o.map fun p=>(p.1+k,p.2)
theorem QtX (s:ByteArray) (ns:List ByteArray) (j:Nat) (h:j<ns.length):posL (ns.drop j) s=if ns[j]=s then some 0 else (posL (ns.drop (j+1)) s).map (·+1):=by
 rw [List.drop_eq_getElem_cons h,posL]
theorem QiX {f:Int} {sc:Sco} {s:ByteArray} (h:MSt σ τ φm (fdE ds C F)) (hn:F.length≤1000) (hsm:∀p,p∈F→p.1.length≤1000) (hc:Chain F f sc) (h1:R (.ret (fndV (Jv sc s))) τ):acall TP QcK [.ptr φm 0 0 0,iv f,str s] τ R:=by
 refine Ql5 ?_
 unfold QiK x179;dsimp only [den,dE,di,tupL,lTup,dwat,Qe,List.map,Option.map,den0,den1,den2,den3,den4]
 have hf0:=hc.lt
 refine QH (fun n x τ'=>τ'=τ∧∃(g:Int) (sc':Sco) (k:Nat),x=(.ptr φm 0 0 0,iv g,str s,iv (k:Int),())∧(g+1).toNat=n∧Chain F g sc'∧k+(g+1).toNat≤2000∧shF k (Jv sc' s)=Jv sc s) (f+1).toNat ⟨rfl,f,sc,0,rfl,rfl,hc,by omega,by cases Jv sc s<;>rfl⟩ ?_
 rintro n x τ' ⟨rfl,g,sc',k,rfl,rfl,hg,hk,e⟩ R' hR'
 cases hg with
 |nil=>
  have g0:¬(0:Int)≤ -1:=by omega
  simp only [g0,RR]
  simp only [Jv,shF,Option.map_none] at e
  rw [←e] at h1
  exact Qa h1
 |@cons i ns out sc2 q1 q2 q3=>
  have g0:(0:Int)≤(i:Int):=by omega
  have hi:=(List.getElem?_eq_some_iff.1 q1).1
  have hiv:=(List.getElem?_eq_some_iff.1 q1).2
  obtain ⟨v,e1,b1⟩:=h.lst (i:=2) (sz:=2) (es:=F.map Qc1) rfl
  obtain ⟨φt,st,t1,t2⟩:=b1.at (i:=i) (by simpa using hi)
  have tn:=t2 0 (roS ns) (by rw [List.getElem_map,hiv];rfl)
  have to:=t2 1 (iv out) (by rw [List.getElem_map,hiv];rfl)
  have hns:=hsm _ (by rw [←hiv];exact List.getElem_mem hi:(ns,out)∈F)
  dsimp only at hns
  simp only [g0,e1,t1,tn,RR]
  refine QH (fun n x τ2=>τ2=τ'∧∃j:Nat,x=(.ptr φm 0 0 0,iv (i:Int),str s,iv (k:Int),roS ns,iv (j:Int),())∧ns.length - j=n∧j≤ns.length∧(posL (ns.drop j) s).map (·+j)=posL ns s) ns.length ⟨rfl,0,rfl,by omega,by omega,by simp⟩ ?_
  rintro n x τ2 ⟨rfl,j,rfl,rfl,hj,ej⟩ R2 hR2
  simp only [Qie,RR]
  by_cases c:j<ns.length
  ·have gj:(j:Int)<(ns.length:Int):=by omega
   rw [QtX s ns j c] at ej
   simp only [gj,QpJ c,Qv,Jt,RR]
   by_cases c2:ns[j]=s
   ·rw [if_pos c2] at ej
    simp only [Option.map_some,Nat.zero_add] at ej
    rw [Jv,←ej] at e
    simp only [shF,Option.map_some,Nat.zero_add] at e
    rw [←e] at h1
    have cd:decide (ns[j]=s)=true:=by simp [c2]
    simp only [cd,RR]
    exact Qa h1
   ·rw [if_neg c2] at ej
    have cd:decide (ns[j]=s)=false:=by simp [c2]
    simp only [cd,Qj c (by omega),RR]
    refine hR2 _ _ (ns.length - (j+1)) τ2 (by omega) (.refl _) ⟨rfl,j+1,rfl,rfl,c,?_⟩
    rw [←ej,Option.map_map]
    congr 1
    funext a
    show a+(j+1)=a+1+j
    omega
  ·have gj:¬(j:Int)<(ns.length:Int):=by omega
   obtain rfl:j=ns.length:=by omega
   rw [List.drop_length,posL] at ej
   simp only [Option.map_none] at ej
   rw [Jv,←ej] at e
   dsimp only at e
   have ek:ibin .add (iv (k:Int)) (.val (.int .i64 1))=some (iv ((k+1:Nat):Int)):=by rw [Q6 (by omega) (by omega)];rfl
   simp only [gj,ek,e1,t1,to,RR]
   have:=q3.lt
   refine hR' _ _ (out+1).toNat τ2 (by omega) (.refl _) ⟨rfl,out,sc2,k+1,rfl,rfl,q3,by omega,?_⟩
   rw [←e]
   unfold shF
   rw [Option.map_map]
   congr 1
   funext p
   show (p.1+(k+1),p.2)=(p.1+1+k,p.2)
   congr 1;omega
structure RdN (τ:AH) (u:AV) (ns:List ByteArray):Prop where
 len:lenS u=some (iv (ns.length:Int))
 at_:∀j (h:j<ns.length),∃p,idx 1 u (iv (j:Int)) τ=some p∧lod p τ=some (str ns[j])
theorem RdN.nil:RdN τ nilS []:=⟨rfl,fun j h=>by simp at h⟩
theorem RdN.buf {u:AV} {ns:List ByteArray} (h:Buf τ 1 u (ns.map fun s=>[str s])):RdN τ u ns:=by
 have hb:=h.bfj
 refine ⟨by have:=hb.len;rwa [List.length_map] at this,fun j hj=>?_⟩
 obtain ⟨φt,st,t1,t2⟩:=hb.at (i:=j) (by simpa using hj)
 exact ⟨_,t1,t2 0 (str ns[j]) (by rw [List.getElem_map];rfl)⟩
def QnF (ds:List Dat) (x:Nat) (ns:List ByteArray):AV:=if badP ds x ns then .tup [str ⟨#[]⟩,iv 1] else .tup [str (dat ds x).name,iv 0]
theorem QvB (s:ByteArray) (ns:List ByteArray) (j:Nat) (h:j<ns.length):inL (ns.drop j) s=(decide (s=ns[j])||inL (ns.drop (j+1)) s):=by
 rw [List.drop_eq_getElem_cons h];rfl
theorem QcQ {x:Nat} {u:AV} {ns:List ByteArray} (h:MSt σ τ φm (fdE ds C F)) (hx:x<ds.length) (hl:ns.length≤1000) (hu:RdN τ u ns) (h1:R (.ret (QnF ds x ns)) τ):acall TP Qcl [.ptr φm 0 0 0,iv (x:Int),u] τ R:=by
 refine Qk2 ?_
 unfold Qhn x237;dsimp only [den,dE,di,tupL,lTup,dwat,Qe,List.map,Option.map,den0,den1,den2,den3,den4]
 have e0:lod (.ptr φm 0 0 0) τ=some (roD ds):=h.fix rfl
 have l0:∀τ,lod (.rop (Qc (dat ds x)) 0) τ=some (iv (dat ds x).kind):=fun _=>rfl
 have l3:∀τ,lod (.rop (Qc (dat ds x)) 3) τ=some (str (dat ds x).name):=fun _=>rfl
 simp only [e0,Qu hx Qk,QY hx,RR]
 unfold QnF badP at h1
 refine UC (P:=fun z τ'=>τ'=τ∧z=(u,.rop (Qc (dat ds x)) 0,bv (decide ((dat ds x).kind≠3)||kwB (dat ds x).name),())) ?_ ?_
 ·rintro z τ' ⟨rfl,rfl⟩
  cases hb:(decide ((dat ds x).kind≠3)||kwB (dat ds x).name) with
  |true=>
   rw [hb] at h1
   simp only [Bool.true_or,if_true] at h1
   simp only [RR]
   exact Qa h1
  |false=>
   rw [hb,Bool.false_or] at h1
   simp only [RR]
   refine QH (fun n y τ2=>τ2=τ'∧∃j:Nat,y=(u,.rop (Qc (dat ds x)) 0,iv (j:Int),())∧ns.length - j=n∧j≤ns.length∧inL (ns.drop j) (dat ds x).name=inL ns (dat ds x).name) ns.length ⟨rfl,0,rfl,by omega,by omega,by simp⟩ ?_
   rintro n y τ2 ⟨rfl,j,rfl,rfl,hj,ej⟩ R2 hR2
   simp only [hu.len,RR]
   by_cases c:j<ns.length
   ·have gj:(j:Int)<(ns.length:Int):=by omega
    rw [QvB _ ns j c] at ej
    obtain ⟨p,p1,p2⟩:=hu.at_ j c
    simp only [gj,p1,p2,l3,Jt,RR]
    by_cases c2:ns[j]=(dat ds x).name
    ·have cd:decide (ns[j]=(dat ds x).name)=true:=by simp [c2]
     rw [show decide ((dat ds x).name=ns[j])=true by simp [c2],Bool.true_or] at ej
     rw [←ej] at h1
     simp only [if_true] at h1
     simp only [cd,RR]
     exact Qa h1
    ·have cd:decide (ns[j]=(dat ds x).name)=false:=by simp [c2]
     rw [show decide ((dat ds x).name=ns[j])=false by simp;exact fun e=>c2 e.symm,Bool.false_or] at ej
     simp only [cd,Qj c (by omega),RR]
     exact hR2 _ _ (ns.length - (j+1)) τ2 (by omega) (.refl _) ⟨rfl,j+1,rfl,rfl,c,ej⟩
   ·have gj:¬(j:Int)<(ns.length:Int):=by omega
    obtain rfl:j=ns.length:=by omega
    rw [List.drop_length] at ej
    rw [←ej] at h1
    simp only [gj,l3,RR]
    exact Qa (by simpa [inL] using h1)
 ·intro k hk
  by_cases c:(dat ds x).kind=3
  ·simp only [l0,l3,c,RR]
   refine QbL ?_
   simp only [RR]
   exact hk _ _ ⟨rfl,by simp [c];rfl⟩
  ·simp only [l0,l3,c,RR]
   exact hk _ _ ⟨rfl,by simp [c];rfl⟩
end
end Go.Proofs.YtggnjjalfnhiiaaGreatDoor.E
/- Forms that are expanded to cores: the reference's way, all of it. -/
namespace Go.Proofs.YtggnjjalfnhiiaaGreatDoor.E
open Go Go.RowKit
set_option maxRecDepth 100000
variable [L:Lam]
variable {σ σ1 τ τ':AH} {R:AEnd→AH→Prop}
section
variable {φm sz sz2:Nat} {fd:List Fd} {u b:AV} {es fs:List (List AV)}
theorem QrX {σ1:AH} {φ:Nat} (hs:AH.Sub σ σ1) (h:σ φ=none):AH.Sub σ (σ1.del φ):=fun ψ F hF=>by
 have hne:ψ≠φ:=by rintro rfl;rw [h] at hF;cases hF
 rw [AH.del_ne _ hne];exact hs _ _ hF
theorem Buf.up {σ2:AH} (h:Buf σ1 sz b fs) (hk:∀ψ,ψ∈famL b→σ2 ψ=σ1 ψ):Buf σ2 sz b fs:=by
 rcases h with h|⟨φ,st,rfl,hF⟩
 ·exact .inl h
 ·exact .inr ⟨φ,st,rfl,by rw [hk φ (by simp [famL])];exact hF⟩
theorem Buf.live {ψ:Nat} (h:Buf σ1 sz b fs) (hm:ψ∈famL b):∃F,σ1 ψ=some F:=by
 rcases h with ⟨rfl|rfl,rfl⟩|⟨φ,st,rfl,hF⟩
 ·cases hm
 ·cases hm
 ·obtain rfl:ψ=φ:=by simpa [famL] using hm
  exact ⟨_,hF⟩
theorem MSt.push2 {z row:List AV} {x:AV} {k:AV→AH→Prop} (h:MSt σ1 τ φm fd) (hs:AH.Sub σ σ1) (hB:Buf σ1 sz u es) (hf:∀ψ,ψ∈famL u→σ ψ=none) (hb:Buf σ1 sz2 b fs) (hbf:∀ψ,ψ∈famL b→σ ψ=none) (hd:∀ψ,ψ∈famL u→ψ∉famL b)
  (he:Jy sz [z] [(0,x)]=some [row]) (hz:sz≤1000) (hr:row.length=sz) (ho:∀y,y∈row→y.one=true) (hn:es.length+1≤4294967296)
  (hk:∀u' σ' τ',MSt σ' τ' φm fd→AH.Sub σ σ'→Buf σ' sz u' (es++[row])→(∀ψ,ψ∈famL u'→σ ψ=none)→Buf σ' sz2 b fs→(∀ψ,ψ∈famL u'→ψ∉famL b)→k u' τ'):bsl sz z 1 [(0,x)] τ fun v τ=>E.app sz u v τ k:=by
 refine bsl1 he (by omega) fun ψ0 hψ0=>?_
 have hg:=h.grow (τ':=τ.set ψ0 ⟨0,sz,[row]⟩) (.set (.refl τ) _ hψ0)
 have go:∀σ0:AH,AH.Sub σ0 σ1→AH.Sub σ σ0→(∀ψ,ψ∈famL u→σ0 ψ=none)→(∀ψ,ψ∈famL b→σ0 ψ=σ1 ψ)→E.app sz u (.own ψ0 0 0 1) (τ.set ψ0 ⟨0,sz,[row]⟩) k:=fun σ0 h0 h1 h2 h3=>by
  refine hg.app2 h0 hB h2 ael1 (by intro c hc;obtain rfl:=List.mem_singleton.1 hc;exact hr) (by intro c hc;obtain rfl:=List.mem_singleton.1 hc;exact ho) (by simpa using hn) fun u' σ' τ2 k1 k2 k3 k4=>?_
  refine hk u' σ' τ2 k1 (h1.trans k2) k3 (fun ψ hψ=>h1.none (k4 ψ hψ)) (hb.up fun ψ hψ=>?_) fun ψ hψ c=>?_
  ·obtain ⟨F,hF⟩:=hb.live hψ
   rw [hF,k2 ψ F (by rw [h3 ψ hψ,hF])]
  ·obtain ⟨F,hF⟩:=hb.live c
   have:=k4 ψ hψ
   rw [h3 ψ c,hF] at this;cases this
 have hB':=hB
 rcases hB' with ⟨rfl|rfl,rfl⟩|⟨φ,st,rfl,hF⟩
 ·exact go σ1 (.refl _) hs (fun ψ c=>by cases c) fun _ _=>rfl
 ·exact go σ1 (.refl _) hs (fun ψ c=>by cases c) fun _ _=>rfl
 ·refine go (σ1.del φ) (.del _ _) (QrX hs (hf φ (by simp [famL]))) (fun ψ c=>?_) fun ψ c=>?_
  ·obtain rfl:ψ=φ:=by simpa [famL] using c
   exact AH.del_same ..
  ·exact AH.del_ne _ (by rintro rfl;exact hd ψ (by simp [famL]) c)
theorem MSt.give (h:MSt σ1 τ φm fd) (hs:AH.Sub σ σ1) (hB:Buf σ1 sz u es) (hf:∀ψ,ψ∈famL u→σ ψ=none) (hz:∀c,c∈es→c.length=sz) (hb:Buf σ1 sz2 b fs) (hd:∀ψ,ψ∈famL u→ψ∉famL b):
  ∃σ2 τ2,MSt σ2 τ2 φm fd∧AH.Sub σ σ2∧AH.Sub τ2 τ∧Fz τ2 τ u (.ro es)∧Buf σ2 sz2 b fs:=by
 have hB':=hB
 rcases hB' with ⟨rfl|rfl,rfl⟩|⟨φ,st,rfl,hF⟩
 ·exact ⟨σ1,τ,h,hs,.refl _,.nil,hb⟩
 ·exact ⟨σ1,τ,h,hs,.refl _,.emp,hb⟩
 ·refine ⟨σ1.del φ,τ.del φ,h.del2 (by rw [hF];simp),QrX hs (hf φ (by simp [famL])),.del _ _,?_,hb.up fun ψ hψ=>AH.del_ne _ (by rintro rfl;exact hd ψ (by simp [famL]) hψ)⟩
  refine .own (h.sub _ _ hF) (AH.del_same ..) rfl (by simp) rfl (fun i hi=>?_) fun i j hi hj=>?_
  ·rw [show es.getD i []=es[i] by simp [List.getD,List.getElem?_eq_getElem hi]]
   exact hz _ (List.getElem_mem hi)
  ·rw [Nat.zero_add];exact .same _
end
section
variable {ds:List Dat} {φm f:Nat} {C:List Cor} {F:Frs}
theorem QqQ {ks:List Nat} (h:1≤ks.length):slc 1 (roK ks) (some (.val (.int .i64 1))) none none σ=some (roK (ks.drop 1)):=by
 have e1:abd (some (.val (.int .i64 1))) 0=some 1:=rfl
 have e2:abd none (ks.map fun k:Nat=>[iv (k:Int)]).length=some (ks.map fun k:Nat=>[iv (k:Int)]).length:=rfl
 simp only [slc,e1,e2]
 rw [if_pos ⟨by simpa using h,Nat.le_refl _,Nat.le_refl _,by simp,by rw [List.all_eq_true];intro c hc;obtain ⟨x,_,rfl⟩:=List.mem_map.1 hc;rfl⟩]
 rw [List.take_length,←List.map_drop]
def SmF (F:Frs):Prop:=∀p,p∈F→p.1.length≤3
def EndE (σ:AH) (φm:Nat) (ds:List Dat) (E:Ex) (F:Frs) (w:Nat) (R:AEnd→AH→Prop):Prop:=∀τ' C' F',MSt σ τ' φm (fdE ds C' F')→(E.2=0→C'=E.1∧∃X,F'=F++X∧X.length≤w∧SmF X)→R (.ret (iv E.2)) τ'
theorem EndE.bad {e:Int} {D:List Cor} {w:Nat} (h:EndE σ φm ds (D,e) F w R) (he:e≠0) (hs:AH.Sub σ σ1) (S:MSt σ1 τ φm (fdE ds C F)):R (.ret (iv e)) τ:=h τ C F (S.drop hs) fun h0=>absurd h0 he
theorem EndE.ok {D:List Cor} {w:Nat} (h:EndE σ φm ds (D,0) F w R) (S:MSt σ τ φm (fdE ds D F)):R (.ret (iv 0)) τ:=h τ D F S fun _=>⟨rfl,[],by simp,by simp,fun p hp=>by cases hp⟩
theorem EndE.behind {E:Ex} {F1:Frs} {w w':Nat} (h:EndE σ φm ds E F w R) (hs:AH.Sub σ σ1) (hF:∃X,F1=F++X∧X.length+w'≤w∧SmF X):EndE σ1 φm ds E F1 w' R:=by
 intro τ' C' F' S hE
 refine h τ' C' F' (S.drop hs) fun h0=>?_
 obtain ⟨h1,Y,h2,h3,h4⟩:=hE h0
 obtain ⟨X,rfl,h5,h6⟩:=hF
 refine ⟨h1,X++Y,by rw [h2,List.append_assoc],by simp;omega,fun p hp=>?_⟩
 rcases List.mem_append.1 hp with c|c
 ·exact h6 p c
 ·exact h4 p c
theorem EndE.onr {E:Ex} {w:Nat} (h:EndE σ φm ds E F w R):EndE σ φm ds E F w (onr (fun v σ=>aret v σ R) (fun v σ=>apan v σ R)):=fun τ' C' F' S hE=>by
 simp only [RR]
 exact Qa (h τ' C' F' S hE)
theorem SmF.app {F X:Frs} (h:SmF F) (g:SmF X):SmF (F++X):=fun p hp=>by
 rcases List.mem_append.1 hp with c|c
 ·exact h p c
 ·exact g p c
theorem SmF.le {F:Frs} (h:SmF F):∀p,p∈F→p.1.length≤1000:=fun p hp=>Nat.le_trans (h p hp) (by omega)
def ExpC (ds:List Dat) (f φm:Nat):Prop:=∀(σ:AH) (x:Nat) (p fr:Int) (sc:Sco) (C:List Cor) (F:Frs) (τ:AH) (R:AEnd→AH→Prop),x<ds.length→ds.length≤f+x→MSt σ τ φm (fdE ds C F)→Chain F fr sc→SmF F→C.length+2*nv ds x≤400→F.length+nv ds x≤400→
 EndE σ φm ds (expE ds f x p sc C) F (nv ds x) R→acall TP QbC [.ptr φm 0 0 0,iv (x:Int),iv p,iv fr] τ R
theorem QhB (x:Nat):1≤nv ds x:=Qx8 _ _ _
theorem QhC:∀ks:List Nat,ks.length≤nvK ds ks:=by
 intro ks
 induction ks with
 |nil=>simp
 |cons k r ih=>rw [Qe5,List.length_cons];have:=QhB (ds:=ds) k;omega
theorem Qe7 (hd:DOk ds) (hE:ExpC ds f φm) {ks:List Nat} {p fr:Int} {sc:Sco} (hks:∀k,k∈ks→k<ds.length∧ds.length≤f+k) (h:MSt σ τ φm (fdE ds C F)) (hc:Chain F fr sc) (hF:SmF F) (hC:C.length+2*nvK ds ks≤400) (hF2:F.length+nvK ds ks≤400)
  (h1:EndE σ φm ds (allE (fun k C'=>expE ds f k p sc C') ks C) F (nvK ds ks) R):acall TP Qdr [.ptr φm 0 0 0,roK ks,iv p,iv fr] τ R:=by
 refine Qm7 ?_
 unfold QjT x181;dsimp only [den,dE,di,tupL,lTup,dwat,Qe,List.map,Option.map,den0,den1,den2,den3,den4]
 have hln:=QhC (ds:=ds) ks
 refine QH (fun n x τ'=>∃(j:Nat) (C1:List Cor) (X:Frs),x=(.ptr φm 0 0 0,roK ks,iv p,iv fr,iv (j:Int),())∧MSt σ τ' φm (fdE ds C1 (F++X))∧ks.length - j=n∧j≤ks.length∧SmF X∧X.length≤nvK ds (ks.take j)∧C1.length≤C.length+2*nvK ds (ks.take j)∧
  allE (fun k C'=>expE ds f k p sc C') (ks.drop j) C1=allE (fun k C'=>expE ds f k p sc C') ks C) ks.length ⟨0,C,[],rfl,by simpa using h,by omega,by omega,(fun p hp=>by cases hp),by simp,by simp,rfl⟩ ?_
 rintro n x τ' ⟨j,C1,X,rfl,S,rfl,hj,hX,hXl,hCl,e⟩ R' hR'
 simp only [lenK,RR]
 by_cases c:j<ks.length
 ·have g:(j:Int)<(ks.length:Int):=by omega
  have hm:=hks _ (QD c)
  have ev:=Qb2 (ds:=ds) c
  have ej:ks[j]=ks.getD j 0:=by simp [List.getD,c]
  rw [List.drop_eq_getElem_cons c,allE,ej] at e
  simp only [g,Q1 c,Qv,RR]
  refine hE σ _ p fr sc C1 (F++X) τ' _ hm.1 hm.2 S (hc.app X) (hF.app hX) (by omega) (by rw [List.length_append];omega) fun τ2 C' F' S2 hE2=>?_
  have hle:=Qe6 hd f (ks.getD j 0) p sc C1 hm.1
  simp only [RR]
  by_cases c2:(expE ds f (ks.getD j 0) p sc C1).2=0
  ·rw [if_neg (by simpa using c2)] at e
   obtain ⟨rfl,Y,rfl,hYl,hY⟩:=hE2 c2
   simp only [c2,Qj c (by omega),RR]
   rw [List.append_assoc] at S2
   have et:nvK ds (ks.take (j+1))=nvK ds (ks.take j)+nv ds (ks.getD j 0):=by
    rw [List.take_succ_eq_append_getElem c,QhA,ej];simp [nvK]
   exact hR' _ _ (ks.length - (j+1)) τ2 (by omega) (.refl _) ⟨j+1,_,X++Y,rfl,S2,rfl,c,hX.app hY,by rw [List.length_append];omega,by omega,e⟩
  ·rw [if_pos (by simpa using c2)] at e
   rw [←e] at h1
   simp only [c2,RR]
   exact Qa (h1 τ2 C' F' S2 fun h0=>absurd h0 c2)
 ·have g:¬(j:Int)<(ks.length:Int):=by omega
  obtain rfl:j=ks.length:=by omega
  rw [List.drop_length,allE] at e
  rw [←e] at h1
  rw [List.take_length] at hXl
  simp only [g,RR]
  exact Qa (h1 τ' C1 _ S fun _=>⟨rfl,X,rfl,hXl,hX⟩)
theorem bldC {k p a:Int}:bld [(.val (.int .i64 0)),(.val (.int .i64 0)),(.val (.int .i64 0)),(.val (.int .i64 0)),(.val (.string ⟨#[]⟩)),(.val (.slice none 0 0))] [(0,1),(1,1),(2,1),(3,1),(4,1),(5,1)] [(0,iv k),(1,iv p),(2,iv a)]=some (.agg [iv k,iv p,iv a,iv 0,str ⟨#[]⟩,nilS]):=rfl
theorem Qgf {k p:Int}:bld [(.val (.int .i64 0)),(.val (.int .i64 0)),(.val (.int .i64 0)),(.val (.int .i64 0)),(.val (.string ⟨#[]⟩)),(.val (.slice none 0 0))] [(0,1),(1,1),(2,1),(3,1),(4,1),(5,1)] [(0,iv k),(1,iv p)]=some (.agg [iv k,iv p,iv 0,iv 0,str ⟨#[]⟩,nilS]):=rfl
theorem QnG {k p:Int} {s:ByteArray}:bld [(.val (.int .i64 0)),(.val (.int .i64 0)),(.val (.int .i64 0)),(.val (.int .i64 0)),(.val (.string ⟨#[]⟩)),(.val (.slice none 0 0))] [(0,1),(1,1),(2,1),(3,1),(4,1),(5,1)] [(0,iv k),(1,iv p),(4,str s)]=some (.agg [iv k,iv p,iv 0,iv 0,str s,nilS]):=rfl
theorem QpK {p:Int} {d:List Dat}:bld [(.val (.int .i64 0)),(.val (.int .i64 0)),(.val (.int .i64 0)),(.val (.int .i64 0)),(.val (.string ⟨#[]⟩)),(.val (.slice none 0 0))] [(0,1),(1,1),(2,1),(3,1),(4,1),(5,1)] [(0,iv 1),(1,iv p),(5,roD d)]=some (.agg (Qr (konC p d))):=rfl
theorem Qv5 {p a b:Int}:bld [(.val (.int .i64 0)),(.val (.int .i64 0)),(.val (.int .i64 0)),(.val (.int .i64 0)),(.val (.string ⟨#[]⟩)),(.val (.slice none 0 0))] [(0,1),(1,1),(2,1),(3,1),(4,1),(5,1)] [(0,iv 2),(1,iv p),(2,iv a),(3,iv b)]=some (.agg [iv 2,iv p,iv a,iv b,str ⟨#[]⟩,nilS]):=rfl
theorem QcR {x:Nat} {ns:List ByteArray}:aext (QnF ds x ns) 0=some (if badP ds x ns then str ⟨#[]⟩ else str (dat ds x).name)∧aext (QnF ds x ns) 1=some (iv (if badP ds x ns then 1 else 0)):=by
 unfold QnF
 cases badP ds x ns<;>exact ⟨rfl,rfl⟩
section
variable {ks:List Nat} {p fr:Int} {sc:Sco}
theorem Qgg (hd:DOk ds) (hE:ExpC ds f φm) {kind:Int} (hk78:kind=7∨kind=8) (hks:∀k,k∈ks→k<ds.length∧ds.length≤f+k) (h:MSt σ τ φm (fdE ds C F)) (hc:Chain F fr sc) (hF:SmF F) (hC:C.length+2*nvK ds ks≤400) (hF2:F.length+nvK ds ks≤400)
  (h1:EndE σ φm ds (asgE ds (expE ds f) ks p sc C kind) F (nvK ds ks) R):acall TP QeM [.ptr φm 0 0 0,roK ks,iv p,iv fr,iv kind] τ R:=by
 refine QjY ?_
 unfold Qf0 x216;dsimp only [den,dE,di,tupL,lTup,dwat,Qe,List.map,Option.map,den0,den1,den2,den3,den4]
 unfold asgE at h1
 simp only [lenK,RR]
 by_cases c3:ks.length=3
 ·have g3:(ks.length:Int)=3:=by omega
  by_cases c8:kind=8∧p≠ -1
  ·rw [if_pos (.inr c8)] at h1
   obtain ⟨c8a,c8b⟩:=c8
   simp only [g3,c8a,c8b,ne_eq,not_false_iff,RR]
   exact Qa (h1.bad (by decide) (.refl _) h)
  ·rw [if_neg (by rintro (k|k);exact k c3;exact c8 k)] at h1
   have hm1:=hks _ (QD (ks:=ks) (j:=1) (by omega))
   have hm2:=hks _ (QD (ks:=ks) (j:=2) (by omega))
   have x1:∀τ,idx 1 (roK ks) (.val (.int .i64 1)) τ=some (.rop [iv ((ks.getD 1 0:Nat):Int)] 0):=fun τ=>Q1 (j:=1) (by omega)
   have x2:∀τ,idx 1 (roK ks) (.val (.int .i64 2)) τ=some (.rop [iv ((ks.getD 2 0:Nat):Int)] 0):=fun τ=>Q1 (j:=2) (by omega)
   have rest:acall TP Qcl [.ptr φm 0 0 0,iv ((ks.getD 1 0:Nat):Int),nilS] τ (onr (fun v32 σ=>
     og (aext v32 0) fun v33=>
     og (aext v32 1) fun v34=>
     og (ibin .neq v34 (.val (.int .i64 0))) fun v36=>
     apick v36 (
      aret v34 σ R) (
      acall TP QcK [.ptr φm 0 0 0,iv fr,v33] σ (onr (fun v42 σ=>
      og (aext v42 0) fun v43=>
      og (aext v42 1) fun v44=>
      og (aext v42 2) fun v45=>
      apick v45 (
       aret (.val (.int .i64 1)) σ R) (
       og (idx 1 (roK ks) (.val (.int .i64 2)) σ) fun v49=>
       og (lod v49 σ) fun v50=>
       og (bld [(.val (.int .i64 0)),(.val (.int .i64 0)),(.val (.int .i64 0)),(.val (.int .i64 0)),(.val (.string ⟨#[]⟩)),(.val (.slice none 0 0))] [(0,1),(1,1),(2,1),(3,1),(4,1),(5,1)] [(0,iv kind),(1,iv p),(4,v33)]) fun v55=>
       acall TP Qbs [.ptr φm 0 0 0,v55] σ (onr (fun v56 σ=>
       (lod v49 σ=some v50∧idx 1 (roK ks) (.val (.int .i64 2)) σ=some v49∧True)∧
       acall TP QbC [.ptr φm 0 0 0,v50,v56,iv fr] σ (onr (fun v58 σ=>
       (True)∧
       aret v58 σ R) (fun v σ=>apan v σ R))) (fun v σ=>apan v σ R)))) (fun v σ=>apan v σ R)))) (fun v σ=>apan v σ R)):=by
    refine QcQ h hm1.1 (by simp) RdN.nil ?_
    simp only [QcR.1,QcR.2,RR]
    cases hb:badP ds (ks.getD 1 0) [] with
    |true=>
     rw [if_pos hb] at h1
     simp only [if_true,Int.reduceEq,RR]
     exact Qa (h1.bad (by decide) (.refl _) h)
    |false=>
     rw [if_neg (by rw [hb];decide)] at h1
     simp only [Bool.false_eq_true,if_false,RR]
     refine QiX h (by omega) hF.le hc ?_
     cases hf:Jv sc (dat ds (ks.getD 1 0)).name with
     |some q=>
      rw [hf] at h1
      simp only [Option.isSome_some,if_true] at h1
      have a0:aext (fndV (some q)) 0=some (iv (q.1:Int)):=rfl
      have a1:aext (fndV (some q)) 1=some (iv (q.2:Int)):=rfl
      have a2:aext (fndV (some q)) 2=some (bv true):=rfl
      simp only [a0,a1,a2,RR]
      exact Qa (h1.bad (by decide) (.refl _) h)
     |none=>
      rw [hf] at h1
      simp only [Option.isSome_none,Bool.false_eq_true,if_false] at h1
      have a0:aext (fndV none) 0=some (iv 0):=rfl
      have a1:aext (fndV none) 1=some (iv 0):=rfl
      have a2:aext (fndV none) 2=some (bv false):=rfl
      simp only [a0,a1,a2,x2,Qv,QnG,RR]
      refine JS (nmdC kind p (dat ds (ks.getD 1 0)).name) rfl rfl ?_
      refine JC h (by omega) fun τ1 S1=>?_
      have o2:=Qao (ds:=ds) (ks:=ks) (j:=2) (by omega)
      have o1:=Qb2 (ds:=ds) (ks:=ks) (j:=1) (by omega)
      have o3:=Qao (ds:=ds) (ks:=ks.drop 2) (j:=0) (by rw [List.length_drop];omega)
      have e2:(ks.drop 2).getD 0 0=ks.getD 2 0:=by simp [List.getD]
      rw [e2] at o3
      simp only [Nat.reduceAdd] at o1
      have np:=QhB (ds:=ds) (ks.getD 1 0)
      simp only [RR,true_and,and_true]
      refine hE σ _ _ fr sc _ F τ1 _ hm2.1 hm2.2 S1 hc hF (by rw [List.length_append,List.length_singleton];omega) (by omega) ?_
      exact h1.onr.behind (.refl _) ⟨[],by simp,by rw [List.length_nil];omega,fun p hp=>by cases hp⟩
   rcases hk78 with rfl|rfl
   ·simp only [g3,x1,Qv,Int.reduceEq,RR] at rest ⊢
    exact rest
   ·have cp:p= -1:=by
     by_cases c:p= -1
     ·exact c
     ·exact absurd ⟨rfl,c⟩ c8
    simp only [g3,x1,Qv,cp,RR] at rest ⊢
    exact rest
 ·rw [if_pos (.inl c3)] at h1
  have g3:¬(ks.length:Int)=3:=by omega
  simp only [g3,RR]
  exact Qa (h1.bad (by decide) (.refl _) h)
end
end
end Go.Proofs.YtggnjjalfnhiiaaGreatDoor.E
/- Forms that are expanded to cores: the reference's way, the end of it. -/
namespace Go.Proofs.YtggnjjalfnhiiaaGreatDoor.E
open Go Go.RowKit
set_option maxRecDepth 100000
variable [L:Lam]
variable {σ σ1 τ τ':AH} {R:AEnd→AH→Prop}
section
variable {ds:List Dat} {φm f:Nat} {C:List Cor} {F:Frs} {ks:List Nat} {p fr:Int} {sc:Sco}
theorem Qig (x:Nat):(Qf ds x).length≤ds.length:=by
 unfold Qf
 exact Nat.le_trans (List.length_filter_le _ _) (by simp)
theorem aft1 {s:ByteArray}:Jy 1 [[.val (.string ⟨#[]⟩)]] [(0,str s)]=some [[str s]]:=rfl
theorem aftI {i:Int}:Jy 1 [[.val (.int .i64 0)]] [(0,iv i)]=some [[iv i]]:=rfl
theorem Qap {sz:Nat}:Buf σ sz .emp []:= .inl ⟨.inr rfl,rfl⟩
theorem Qmt {s:ByteArray}:∀y,y∈[str s]→y.one=true:=fun y hy=>by obtain rfl:=List.mem_singleton.1 hy;rfl
theorem Qyw {i:Int}:∀y,y∈[iv i]→y.one=true:=fun y hy=>by obtain rfl:=List.mem_singleton.1 hy;rfl
theorem QnH (hd:DOk ds) (hE:ExpC ds f φm) (hks:∀k,k∈ks→k<ds.length∧ds.length≤f+k) (h:MSt σ τ φm (fdE ds C F)) (hc:Chain F fr sc) (hF:SmF F) (hC:C.length+2*nvK ds ks≤400) (hF2:F.length+nvK ds ks≤400)
  (h1:EndE σ φm ds (lamE ds (expE ds f) ks p sc C) F (nvK ds ks) R):acall TP QeL [.ptr φm 0 0 0,roK ks,iv p,iv fr] τ R:=by
 refine QjW ?_
 unfold QfZ x214;dsimp only [den,dE,di,tupL,lTup,dwat,Qe,List.map,Option.map,den0,den1,den2,den3,den4]
 unfold lamE at h1
 have hdl:=hd.len
 simp only [lenK,RR]
 by_cases c3:ks.length=3
 ·have g3:(ks.length:Int)=3:=by omega
  have hm1:=hks _ (QD (ks:=ks) (j:=1) (by omega))
  have hm2:=hks _ (QD (ks:=ks) (j:=2) (by omega))
  have x1:∀τ,idx 1 (roK ks) (.val (.int .i64 1)) τ=some (.rop [iv ((ks.getD 1 0:Nat):Int)] 0):=fun τ=>Q1 (j:=1) (by omega)
  have x2:∀τ,idx 1 (roK ks) (.val (.int .i64 2)) τ=some (.rop [iv ((ks.getD 2 0:Nat):Int)] 0):=fun τ=>Q1 (j:=2) (by omega)
  have o2:=Qao (ds:=ds) (ks:=ks) (j:=2) (by omega)
  have o1:=Qb2 (ds:=ds) (ks:=ks) (j:=1) (by omega)
  have o3:=Qao (ds:=ds) (ks:=ks.drop 2) (j:=0) (by rw [List.length_drop];omega)
  have e2:(ks.drop 2).getD 0 0=ks.getD 2 0:=by simp [List.getD]
  rw [e2] at o3
  simp only [Nat.reduceAdd] at o1
  have np:=QhB (ds:=ds) (ks.getD 1 0)
  have e0:lod (.ptr φm 0 0 0) τ=some (roD ds):=h.fix rfl
  have l0:∀τ,lod (.rop (Qc (dat ds (ks.getD 1 0))) 0) τ=some (iv (dat ds (ks.getD 1 0)).kind):=fun _=>rfl
  by_cases c4:(dat ds (ks.getD 1 0)).kind=4
  ·rw [if_neg (by rintro (k|k);exact k c3;exact k c4)] at h1
   simp only [g3,x1,Qv,e0,Qu hm1.1 Qk,QY hm1.1,l0,c4,RR]
   refine QaY (by omega) ?_
   simp only [RR,true_and]
   refine bsl0 ?_
   have hkl:=Qig (ds:=ds) (ks.getD 1 0)
   have hkm:∀k,k∈Qf ds (ks.getD 1 0)→k<ds.length:=fun k hk=>(hd.kid hk).2
   generalize Qf ds (ks.getD 1 0)=lst at h1 hkl hkm ⊢
   refine QH (fun n x τ'=>∃(j:Nat) (u:AV) (ns:List ByteArray) (σ1:AH),x=(.ptr φm 0 0 0,roK ks,iv p,iv fr,roK lst,u,iv (j:Int),())∧MSt σ1 τ' φm (fdE ds C F)∧AH.Sub σ σ1∧Buf σ1 1 u (ns.map fun s=>[str s])∧(∀ψ,ψ∈famL u→σ ψ=none)∧lst.length - j=n∧j≤lst.length∧ns.length=j∧JT ds (lst.drop j) ns=JT ds lst []) lst.length
    ⟨0,.emp,[],σ,rfl,h,.refl σ,Qap,(fun ψ c=>by cases c),by omega,by omega,rfl,rfl⟩ ?_
   rintro n x τ' ⟨j,u,ns,σ1,rfl,S,hs,hB,hf,rfl,hj,hnl,e⟩ R' hR'
   simp only [lenK,RR]
   by_cases c:j<lst.length
   ·have g:(j:Int)<(lst.length:Int):=by omega
    have ej:lst[j]=lst.getD j 0:=by simp [List.getD,c]
    rw [List.drop_eq_getElem_cons c,JT,ej] at e
    simp only [g,Q1 c,Qv,RR]
    refine QcQ S (hkm _ (QD c)) (by omega) (RdN.buf (hB.up fun ψ hψ=>?_)) ?_
    ·obtain ⟨G,hG⟩:=hB.live hψ
     rw [hG,S.sub _ _ hG]
    simp only [QcR.1,QcR.2,RR]
    cases hb:badP ds (lst.getD j 0) ns with
    |true=>
     rw [if_pos hb] at e
     rw [←e] at h1
     simp only [if_true,Int.reduceEq,RR]
     exact Qa (h1.bad (by decide) hs S)
    |false=>
     rw [if_neg (by rw [hb];decide)] at e
     simp only [Bool.false_eq_true,if_false,RR]
     refine S.push2 (sz2:=1) (b:= .emp) (fs:=[]) hs hB hf Qap (fun ψ c=>by cases c) (fun ψ _ c=>by cases c) aft1 (by omega) rfl Qmt (by simp;omega) fun u' σ2 τ2 S2 hs2 hB2 hf2 _ _=>?_
     simp only [Qj c (by omega),RR]
     exact hR' _ _ (lst.length - (j+1)) τ2 (by omega) (.refl _) ⟨j+1,u',ns++[(dat ds (lst.getD j 0)).name],σ2,rfl,S2,hs2,by simpa using hB2,hf2,rfl,c,by simp;omega,e⟩
   ·have g:¬(j:Int)<(lst.length:Int):=by omega
    obtain rfl:j=lst.length:=by omega
    rw [List.drop_length,JT] at e
    rw [←e] at h1
    dsimp only at h1
    have hlen:lenS u=some (iv (ns.length:Int)):=by have:=Q9 hB;simpa using this
    simp only [g,hlen,RR]
    by_cases c5:3<ns.length
    ·have g5:(3:Int)<(ns.length:Int):=by omega
     rw [if_pos c5] at h1
     simp only [g5,RR]
     exact Qa (h1.bad (by decide) hs S)
    ·have g5:¬(3:Int)<(ns.length:Int):=by omega
     rw [if_neg c5] at h1
     simp only [g5,bldC,RR]
     refine JS (nodC 5 p ns.length) rfl rfl ?_
     refine JC S (by omega) fun τ2 S2=>?_
     simp only [x2,Qv,RR,true_and,and_true]
     obtain ⟨σ3,τ3,S3,hs3,hst,hfz,_⟩:=S2.give (sz2:=1) (b:= .emp) (fs:=[]) hs hB hf (by intro c hc;obtain ⟨x,_,rfl⟩:=List.mem_map.1 hc;rfl) Qap (fun ψ _ c=>by cases c)
     refine Ur (args':=[.ptr φm 0 0 0,roS ns,iv fr]) hst rfl (fun i hi=>?_) ?_
     ·match i,hi with
      |0,_=>exact .same _
      |1,_=>exact hfz
      |2,_=>exact .same _
     refine QiW (S3.drop hs3) (by omega) fun τ4 S4=>?_
     simp only [RR,true_and,and_true]
     refine hE σ _ _ _ (ns::sc) _ _ τ4 _ hm2.1 hm2.2 S4 (hc.new ns) (hF.app fun p hp=>?_) (by rw [List.length_append,List.length_singleton];omega) (by rw [List.length_append,List.length_singleton];omega) ?_
     ·obtain rfl:=List.mem_singleton.1 hp;show ns.length≤3;omega
     exact h1.onr.behind (.refl _) ⟨[(ns,fr)],rfl,by rw [List.length_singleton];omega,fun p hp=>by obtain rfl:=List.mem_singleton.1 hp;show ns.length≤3;omega⟩
  ·rw [if_pos (.inr c4)] at h1
   simp only [g3,x1,Qv,e0,Qu hm1.1 Qk,QY hm1.1,l0,c4,RR]
   exact Qa (h1.bad (by decide) (.refl _) h)
 ·rw [if_pos (.inl c3)] at h1
  have g3:¬(ks.length:Int)=3:=by omega
  simp only [g3,RR]
  exact Qa (h1.bad (by decide) (.refl _) h)
end
end Go.Proofs.YtggnjjalfnhiiaaGreatDoor.E

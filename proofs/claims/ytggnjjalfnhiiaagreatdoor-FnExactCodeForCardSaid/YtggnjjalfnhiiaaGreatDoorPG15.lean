import Derived.Test.YtggnjjalfnhiiaaGreatDoorPG14
import Derived.Tactics
/- Lists of lists that are owned: grown, written, frozen. -/
set_option linter.unusedSectionVars false
set_option linter.unusedSimpArgs false
set_option linter.unusedVariables false
namespace Go.Proofs.YtggnjjalfnhiiaaGreatDoor.E
open Go Go.RowKit
section
set_option maxRecDepth 100000
variable [L:Lam] {σ τ τ':AH} {R:AEnd→AH→Prop}
theorem JI {P:Program} {f:FuncId} {args args':List AV} {σ0 σ:AH} {R:AEnd→AH→Prop} (hs:AH.Sub σ0 σ) (hl:args.length=args'.length) (hf:∀i,i<args.length→Fz σ0 σ (args.getD i .any) (args'.getD i .any)) (h:acall P f args' σ0 R):acall P f args σ R:=by
 obtain ⟨fn,h1,h2,h3,h4⟩:=h;refine ⟨fn,h1,h2,h3,fun κ w vs hr hv=>?_⟩;obtain ⟨hS,hV⟩:=Qbh hs hr;refine (h4 _ w vs hS.rel ⟨hl▸hv.1,fun i hi=>hV _ _ _ (hf i (hl▸hi)) (hv.2 i (hl▸hi))⟩).mono ?_;rintro e w' ⟨κ1,ae,σ1,hq,hT,hE⟩;exact ⟨κ1,ae,σ1,hq,hS.trans hT,hE⟩
section
variable {X:Type}
def l2F (bs:List (X × AV)):List Nat:=bs.flatMap fun p=>famL p.2
theorem Uj (a b:List (X × AV)):l2F (a++b)=l2F a++l2F b:=by simp[l2F]
theorem Ul (p:X × AV) (b:List (X × AV)):l2F (p::b)=famL p.2++l2F b:=by simp[l2F]
theorem U0 {bs:List (X × AV)} {p:X × AV} (h:p∈bs) {ψ:Nat} (hψ:ψ∈famL p.2):ψ∈l2F bs:=List.mem_flatMap.2 ⟨p,h,hψ⟩
structure N2 (row:X→AV→List AV) (n:Nat) (inn:X→List (List AV)) (m:Nat) (σ τ:AH) (v:AV) (bs:List (X × AV)):Prop where
 out:Buf τ n v (bs.map fun p=>row p.1 p.2)
 ins:∀p,p∈bs→Buf τ m p.2 (inn p.1)
 nd:(famL v++l2F bs).Nodup
 fr:∀ψ,ψ∈famL v++l2F bs→σ ψ=none
 sub:AH.Sub σ τ
variable {row:X→AV→List AV} {n:Nat} {inn:X→List (List AV)} {m:Nat} {v:AV} {bs:List (X × AV)}
theorem N2.live (h:N2 row n inn m σ τ v bs) {ψ:Nat} (hψ:ψ∈famL v++l2F bs):∃F,τ ψ=some F:=by
 rcases List.mem_append.1 hψ with c|c
 ·exact J1 h.out c
 ·obtain ⟨p,hp,hm⟩:=List.mem_flatMap.1 c;exact J1 (h.ins p hp) hm
theorem N2.keep (h:N2 row n inn m σ τ v bs) (hk:∀ψ,ψ∈famL v++l2F bs→τ' ψ=τ ψ) (hs:AH.Sub σ τ'):N2 row n inn m σ τ' v bs:=
 ⟨Jw h.out fun ψ hψ=>hk ψ (List.mem_append_left _ hψ),fun p hp=>Jw (h.ins p hp) fun ψ hψ=>hk ψ (List.mem_append_right _ (U0 hp hψ)),h.nd,h.fr,hs⟩
theorem N2.grow (h:N2 row n inn m σ τ v bs) (hs:AH.Sub τ τ'):N2 row n inn m σ τ' v bs:=
 h.keep (fun ψ hψ=>by obtain ⟨F,e⟩:=h.live hψ;rw[e];exact hs _ _ e) (h.sub.trans hs)
theorem N2.nil (h:AH.Sub σ τ):N2 row n inn m σ τ nilS ([]:List (X × AV)):=⟨.inl ⟨.inl rfl,rfl⟩,(fun p hp=>by cases hp),.nil,(fun ψ c=>by cases c),h⟩
theorem N2.own (h:N2 row n inn m σ τ v bs) (hn:bs≠[]):∃φ st,v= .own φ st 0 bs.length∧τ φ=some ⟨st,n,bs.map fun p=>row p.1 p.2⟩:=by
 obtain ⟨φ,st,hv,hF⟩:=JU h.out (by intro c;exact hn (List.map_eq_nil_iff.1 c));exact ⟨φ,st,by rw[hv,List.length_map],hF⟩
theorem N2.one (h:N2 row n inn m σ τ v bs):v.one=true:=h.out.av1
theorem N2.len (h:N2 row n inn m σ τ v bs):lenS v=some (iv (bs.length:Int)):=by have:=Jj h.out;rwa [List.length_map] at this
theorem N2.app1 {p:X × AV} {x:AV} {k:AV→AH→Prop} (h:N2 row n inn m σ τ v bs) (hx:QL τ x=some [row p.1 p.2]) (hrl:(row p.1 p.2).length=n) (hq:Buf τ m p.2 (inn p.1))
  (hd:∀ψ,ψ∈famL p.2→ψ∉famL v++l2F bs) (hf:∀ψ,ψ∈famL p.2→σ ψ=none) (ho:∀y,y∈row p.1 p.2→y.one=true) (hn:bs.length+1≤4294967296)
  (hk:∀v' τ',N2 row n inn m σ τ' v' (bs++[p])→Kp (famL v) τ τ'→(∀ψ,ψ∈famL v'→ψ∈famL v∨τ ψ=none)→k v' τ'):E.app n v x τ k:=by
 refine Ui h.out hx (by intro c hc;obtain rfl:=List.mem_singleton.1 hc;exact hrl) (by intro c hc y hy;obtain rfl:=List.mem_singleton.1 hc;exact ho y hy) (by simpa using hn) fun v' τ' hB hK hfam=>hk v' τ' ?_ hK hfam
 obtain ⟨n1,n2,n3⟩:=Qo.1 h.nd;have e1:l2F (bs++[p])=l2F bs++famL p.2:=by rw[Uj];simp[l2F]
 have hdd:∀ψ,ψ∈l2F (bs++[p])→ψ∉famL v:=by
  intro ψ hψ c;rw[e1] at hψ;rcases List.mem_append.1 hψ with hψ|hψ
  ·exact n3 ψ c hψ
  ·exact hd ψ hψ (List.mem_append_left _ c)
 have hI:∀q,q∈bs++[p]→Buf τ m q.2 (inn q.1):=by
  intro q hq2;rcases List.mem_append.1 hq2 with hq2|hq2
  ·exact h.ins q hq2
  ·obtain rfl:=List.mem_singleton.1 hq2;exact hq
 have live:∀χ,χ∈l2F (bs++[p])→τ χ≠none:=fun χ hχ=>by
  obtain ⟨q,hq2,hm⟩:=List.mem_flatMap.1 hχ;exact JV (J1 (hI q hq2) hm)
 refine ⟨by rw[List.map_append];exact hB,fun q hq2=>hK.buf (hI q hq2) fun χ hχ=>hdd χ (U0 hq2 hχ),?_,?_,hK.sub h.sub fun ψ hψ=>h.fr ψ (List.mem_append_left _ hψ)⟩
 ·rw[Qo];refine ⟨Qae _,?_,fun χ hχ c=>?_⟩
  ·rw[e1,Qo];exact ⟨n2,Qae _,fun x hx c=>hd x c (List.mem_append_right _ hx)⟩
  rcases hfam χ hχ with h1|h1
  ·exact hdd χ c h1
  ·exact live χ c h1
 ·intro χ hχ;rcases List.mem_append.1 hχ with hχ|hχ
  ·rcases hfam χ hχ with h1|h1
   ·exact h.fr χ (List.mem_append_left _ h1)
   ·exact h.sub.none h1
  ·rw[e1] at hχ;rcases List.mem_append.1 hχ with hχ|hχ
   ·exact h.fr χ (List.mem_append_right _ hχ)
   ·exact hf χ hχ
theorem N2.repl {A C:List (X × AV)} {p:X × AV} {x':X} {w:AV} {j:Nat} {τ0:AH} {φ st:Nat} {k:AH→Prop} (h:N2 row n inn m σ τ0 v (A++p::C)) (hv:v= .own φ st 0 (A++p::C).length) (hw:Buf τ m w (inn x')) (hj:j<n) (hr:(row p.1 p.2).set j w=row x' w)
  (hkp:Kp (famL p.2) τ0 τ) (hfm:∀ψ,ψ∈famL w→ψ∈famL p.2∨τ0 ψ=none)
  (hk:∀τ',N2 row n inn m σ τ' v (A++(x',w)::C)→(∀ψ,ψ∉famL v→τ' ψ=τ ψ)→k τ'):sto 1 (.ptr φ st A.length j) w τ k:=by
 obtain ⟨φ',st',hv',hF⟩:=h.own (by simp);rw[hv'] at hv;obtain ⟨rfl,rfl⟩:φ'=φ∧st'=st:=by injection hv with a b;exact ⟨a,b⟩
 subst hv';have hfv:famL (.own φ' st' 0 (A++p::C).length)=[φ']:=rfl;have hnd:=h.nd;rw[Uj,Ul,hfv] at hnd;have hlive:∀ψ,ψ∈famL (.own φ' st' 0 (A++p::C).length)++l2F (A++p::C)→τ0 ψ≠none:=fun ψ hψ=>JV (h.live hψ)
 have mem:∀ψ,ψ∈famL (.own φ' st' 0 (A++p::C).length)++l2F (A++p::C)↔ψ=φ'∨ψ∈l2F A∨ψ∈famL p.2∨ψ∈l2F C:=by
  intro ψ;rw[Uj,Ul,hfv];simp
 obtain ⟨_,hnd2,hnd3⟩:=Qo.1 hnd;obtain ⟨hnA,hnd4,hnd5⟩:=Qo.1 hnd2;obtain ⟨_,hnC,hnd6⟩:=Qo.1 hnd4;have hφA:φ'∉l2F A:=fun c=>hnd3 φ' (by simp) (by simp[c])
 have hφp:φ'∉famL p.2:=fun c=>hnd3 φ' (by simp) (by simp[c])
 have hφC:φ'∉l2F C:=fun c=>hnd3 φ' (by simp) (by simp[c])
 have hφw:φ'∉famL w:=fun c=>(hfm φ' c).elim hφp fun d=>hlive φ' ((mem φ').2 (.inl rfl)) d
 have hwA:∀ψ,ψ∈famL w→ψ∉l2F A:=fun ψ c d=>(hfm ψ c).elim (fun e=>hnd5 ψ d (by simp[e])) fun e=>hlive ψ ((mem ψ).2 (by simp[d])) e
 have hwC:∀ψ,ψ∈famL w→ψ∉l2F C:=fun ψ c d=>(hfm ψ c).elim (fun e=>hnd6 ψ e d) fun e=>hlive ψ ((mem ψ).2 (by simp[d])) e
 have hFτ:τ φ'=some ⟨st',n,(A++p::C).map fun p=>row p.1 p.2⟩:=by rw[hkp φ' hφp (hlive φ' ((mem φ').2 (.inl rfl)))];exact hF
 have hset:τ=τ.set φ' ⟨st',n,(A.map fun p=>row p.1 p.2)++row p.1 p.2::C.map fun p=>row p.1 p.2⟩:=by rw[AH.set_self];rw[hFτ];simp
 rw[hset];refine Qbv (by simp) hj hw.av1 ?_;rw[hr];have h2:∀ψ,ψ≠φ'→(τ.set φ' ⟨st',n,(A.map fun p=>row p.1 p.2)++row x' w::C.map fun p=>row p.1 p.2⟩) ψ=τ ψ:=fun ψ hψ=>AH.set_ne' hψ
 have hq:∀q,q∈A∨q∈C→Buf (τ.set φ' ⟨st',n,(A.map fun p=>row p.1 p.2)++row x' w::C.map fun p=>row p.1 p.2⟩) m q.2 (inn q.1):=by
  intro q hq;refine Jw (h.ins q (by rcases hq with c|c<;>simp[c])) fun ψ hψ=>?_
  have hm:ψ∈l2F A∨ψ∈l2F C:=hq.imp (fun c=>U0 c hψ) fun c=>U0 c hψ
  have hne:ψ≠φ':=by rintro rfl;exact hm.elim hφA hφC
  have hnp:ψ∉famL p.2:=fun c=>hm.elim (fun d=>hnd5 ψ d (by simp[c])) fun d=>hnd6 ψ c d
  rw[h2 ψ hne];exact hkp ψ hnp (hlive ψ ((mem ψ).2 (by rcases hm with c|c<;>simp[c])))
 refine hk _ ⟨.inr ⟨φ',st',by simp,by rw[AH.set_same];simp⟩,?_,?_,?_,?_⟩ fun ψ hψ=>by rw[h2 ψ (by rintro rfl;exact hψ (by simp[famL]))]
 ·intro q hm;rcases List.mem_append.1 hm with c|c
  ·exact hq q (.inl c)
  ·rcases List.mem_cons.1 c with rfl|c
   ·exact Jw hw fun ψ hψ=>h2 ψ (by rintro rfl;exact hφw hψ)
   ·exact hq q (.inr c)
 ·have e:(A++p::C).length=(A++(x',w)::C).length:=by simp
  rw[Uj,Ul,hfv,Qo];refine ⟨by simp,Qo.2 ⟨hnA,Qo.2 ⟨Qae _,hnC,fun ψ hψ c=>hwC ψ hψ c⟩,fun ψ hψ c=>?_⟩,fun ψ hψ c=>?_⟩
  ·rcases List.mem_append.1 c with c|c
   ·exact hwA ψ c hψ
   ·exact hnd5 ψ hψ (by simp[c])
  ·obtain rfl:=List.mem_singleton.1 hψ;simp only[List.mem_append] at c;rcases c with c|c|c
   ·exact hφA c
   ·exact hφw c
   ·exact hφC c
 ·intro ψ hψ;rw[Uj,Ul,hfv] at hψ;simp only[List.mem_append,List.mem_singleton] at hψ;rcases hψ with c|c|c|c
  ·exact h.fr ψ ((mem ψ).2 (.inl c))
  ·exact h.fr ψ ((mem ψ).2 (by simp[c]))
  ·rcases hfm ψ c with d|d
   ·exact h.fr ψ ((mem ψ).2 (by simp[d]))
   ·exact h.sub.none d
  ·exact h.fr ψ ((mem ψ).2 (by simp[c]))
 ·intro ψ G hG;have hn:∀χ,χ∈famL (.own φ' st' 0 (A++p::C).length)++l2F (A++p::C)→ψ≠χ:=by rintro χ hχ rfl;rw[h.fr ψ hχ] at hG;cases hG
  rw[h2 ψ (hn φ' ((mem φ').2 (.inl rfl)))];have h1:=h.sub _ _ hG;rw[hkp ψ (fun c=>hn ψ ((mem ψ).2 (by simp[c])) rfl) (by rw[h1];simp),h1]
theorem N2.wr {A C:List (X × AV)} {p:X × AV} {x':X} {u:AV} {j:Nat} {es1 es2:List (List AV)} {r:List AV} {φ st:Nat} {k:AH→Prop} (h:N2 row n inn m σ τ v (A++p::C)) (hi:inn p.1=es1++r::es2) (hi':inn x'=es1++r.set j u::es2)
  (hr:row x' p.2=row p.1 p.2) (hj:j<m) (h1:u.one=true) (hp:p.2= .own φ st 0 (inn p.1).length)
  (hk:∀τ',N2 row n inn m σ τ' v (A++(x',p.2)::C)→(∀ψ,ψ≠φ→τ' ψ=τ ψ)→k τ'):sto 1 (.ptr φ st es1.length j) u τ k:=by
 have hb:=h.ins p (by simp);rw[hp] at hb;obtain ⟨φ',st',hv',hF⟩:=JU hb (by rw[hi];simp);obtain ⟨rfl,rfl⟩:φ'=φ∧st'=st:=by injection hv' with a b;exact ⟨a.symm,b.symm⟩
 have hset:τ=τ.set φ' ⟨st',m,es1++r::es2⟩:=by rw[AH.set_self];rw[hF,hi]
 have hfp:famL p.2=[φ']:=by rw[hp];rfl
 have hnd:=h.nd;rw[Uj,Ul,hfp] at hnd;obtain ⟨_,hnd2,hnd3⟩:=Qo.1 hnd;obtain ⟨_,hnd4,hnd5⟩:=Qo.1 hnd2;obtain ⟨_,_,hnd6⟩:=Qo.1 hnd4;have hφv:φ'∉famL v:=fun c=>hnd3 φ' c (by simp)
 have hφA:φ'∉l2F A:=fun c=>hnd5 φ' c (by simp)
 have hφC:φ'∉l2F C:=fun c=>hnd6 φ' (by simp) c
 rw[hset];refine Qbv rfl hj h1 ?_;have h2:∀ψ,ψ≠φ'→(τ.set φ' ⟨st',m,es1++r.set j u::es2⟩) ψ=τ ψ:=fun ψ hψ=>AH.set_ne' hψ
 refine hk _ ⟨?_,?_,?_,?_,?_⟩ h2
 ·have:=Jw h.out (τ':=τ.set φ' ⟨st',m,es1++r.set j u::es2⟩) fun ψ hψ=>h2 ψ (by rintro rfl;exact hφv hψ)
  simpa[hr] using this
 ·intro q hq;rcases List.mem_append.1 hq with c|c
  ·exact Jw (h.ins q (by simp[c])) fun ψ hψ=>h2 ψ (by rintro rfl;exact hφA (U0 c hψ))
  ·rcases List.mem_cons.1 c with rfl|c
   ·show Buf _ m p.2 (inn x');rw[hp,hi',hi];exact .inr ⟨φ',st',by simp,AH.set_same ..⟩
   ·exact Jw (h.ins q (by simp[c])) fun ψ hψ=>h2 ψ (by rintro rfl;exact hφC (U0 c hψ))
 ·have:=h.nd;rw[Uj,Ul] at this ⊢;exact this
 ·intro ψ hψ;refine h.fr ψ ?_;rw[Uj,Ul] at hψ ⊢;exact hψ
 ·intro ψ G hG;have hn:ψ≠φ':=by rintro rfl;rw[h.fr ψ (by rw[Uj,Ul,hfp];simp)] at hG;cases hG
  rw[h2 ψ hn];exact h.sub _ _ hG
theorem N2.fz (h:N2 row n inn m σ τ v bs) (hl:∀x a,(row x a).length=n) (hm:∀x c,c∈inn x→c.length=m) (hc:∀x c,c∈inn x→True)
  (hr:∀x a b j,Fz σ τ a b→Fz σ τ ((row x a).getD j .any) ((row x b).getD j .any)):Fz σ τ v (.ro (bs.map fun p=>row p.1 (.ro (inn p.1)))):=by
 refine Uq h.out (fun ψ hψ=>h.fr ψ (List.mem_append_left _ hψ)) (by simp) (by intro c hc;obtain ⟨p,_,rfl⟩:=List.mem_map.1 hc;exact hl _ _) fun i j hi hj=>?_
 have hi':i<bs.length:=by simpa using hi
 have e1:(bs.map fun p=>row p.1 p.2).getD i []=row bs[i].1 bs[i].2:=by simp[List.getD,hi']
 have e2:(bs.map fun p=>row p.1 (.ro (inn p.1))).getD i []=row bs[i].1 (.ro (inn bs[i].1)):=by simp[List.getD,hi']
 rw[e1,e2];refine hr _ _ _ j ?_;refine Uq (h.ins _ (List.getElem_mem hi')) (fun ψ hψ=>h.fr ψ (List.mem_append_right _ (U0 (List.getElem_mem hi') hψ))) rfl (hm _) fun _ _ _ _=> .same _
end
end
section
set_option maxRecDepth 100000
variable [L:Lam] {σ τ τ':AH} {R:AEnd→AH→Prop}
theorem nilB {sz:Nat}:Buf τ sz nilS []:= .inl ⟨.inl rfl,rfl⟩
theorem Qgv {X:Type} (A C:List X) (p:X) (f:X→X):(A++p::C).modify A.length f=A++f p::C:=by
 induction A with
 |nil=>rfl
 |cons a A ih=>simpa using ih
theorem QzJ {X:Type} (A C:List X) (p d:X):(A++p::C).getD A.length d=p:=by simp[List.getD]
theorem QkU {X:Type} {l:List X} {i:Nat} (h:i<l.length):∃A p C,l=A++p::C∧A.length=i:=by
 refine ⟨l.take i,l[i],l.drop (i+1),?_,by simp;omega⟩;rw[←List.drop_eq_getElem_cons h,List.take_append_drop]
abbrev rowB (p:Int × List OpD) (a:AV):List AV:=[iv p.1,a]
abbrev innB (p:Int × List OpD):List (List AV):=p.2.map Qk
structure CSt (pre:List AV) (σ τ:AH) (φm:Nat) (B:St):Prop where
 ex:∃v bs,τ φm=some ⟨0,pre.length+1,[pre++[v]]⟩∧N2 rowB 2 innB 7 σ τ v bs∧bs.map (·.1)=B∧φm∉famL v++l2F bs
 fr:σ φm=none
variable {pre:List AV} {φm:Nat} {B:St}
theorem Qgw {v:AV} (h:τ φm=some ⟨0,pre.length+1,[pre++[v]]⟩):lod (.ptr φm 0 0 pre.length) τ=some v:=Qz h rfl (by simp)
theorem CSt.len (h:CSt pre σ τ φm B):∃v,lod (.ptr φm 0 0 pre.length) τ=some v∧lenS v=some (iv (B.length:Int)):=by
 obtain ⟨v,bs,h1,h2,rfl,_⟩:=h.ex;exact ⟨v,Qgw h1,by rw[h2.len,List.length_map]⟩
theorem CSt.fix (h:CSt pre σ τ φm B) {i:Nat} {x:AV} (hx:pre[i]? =some x):lod (.ptr φm 0 0 i) τ=some x:=by
 obtain ⟨v,bs,h1,_⟩:=h.ex;refine Qz h1 rfl ?_;have hi:=(List.getElem?_eq_some_iff.1 hx).1;simp[List.getElem?_append_left hi,hx]
theorem CSt.sub (h:CSt pre σ τ φm B):AH.Sub σ τ:=by obtain ⟨v,bs,_,h2,_⟩:=h.ex;exact h2.sub
theorem CSt.grow (h:CSt pre σ τ φm B) (hs:AH.Sub τ τ'):CSt pre σ τ' φm B:=by
 obtain ⟨v,bs,h1,h2,h3,h4⟩:=h.ex;exact ⟨⟨v,bs,hs _ _ h1,h2.grow hs,h3,h4⟩,h.fr⟩
theorem CSt.open (h:CSt pre σ τ φm B) {i:Nat} (hi:i<B.length):∃v φ st w,lod (.ptr φm 0 0 pre.length) τ=some v∧idx 2 v (iv (i:Int)) τ=some (.ptr φ st i 0)∧lod (.ptr φ st i 1) τ=some w∧lenS w=some (iv (Qd B i:Int))∧
  (∀(o:OpD) (k:AV→AH→Prop),Qd B i+1≤4294967296→(∀w' τ1,lod (.ptr φm 0 0 pre.length) τ1=some v→idx 2 v (iv (i:Int)) τ1=some (.ptr φ st i 0)→
   (∀k':AH→Prop,(∀τ2,CSt pre σ τ2 φm (putS B i o)→lod (.ptr φm 0 0 pre.length) τ2=some v→idx 2 v (iv (i:Int)) τ2=some (.ptr φ st i 0)→lod (.ptr φ st i 1) τ2=some w'→lenS w'=some (iv ((Qd B i+1:Nat):Int))→k' τ2)→sto 1 (.ptr φ st i 1) w' τ1 k')→k w' τ1)→E.app 7 w (.ro [Qk o]) τ k)∧
  (∀j:Nat,j<Qd B i→∃φw stw,idx 7 w (iv (j:Int)) τ=some (.ptr φw stw j 0)∧∀(a:Int) (k:AH→Prop),(∀τ2,CSt pre σ τ2 φm (setS B i j a)→k τ2)→sto 1 (.ptr φw stw j 1) (iv a) τ k):=by
 obtain ⟨v,bs,h1,h2,rfl,h4⟩:=h.ex;rw[List.length_map] at hi;obtain ⟨A,p,C,rfl,rfl⟩:=QkU hi;obtain ⟨φ,st,rfl,hF⟩:=h2.own (by simp);have hlen:(A++p::C).length=A.length+(C.length+1):=by simp
 have ix:∀τ1,τ1 φ=some ⟨st,2,(A++p::C).map fun p=>rowB p.1 p.2⟩→idx 2 (.own φ st 0 (A++p::C).length) (iv (A.length:Int)) τ1=some (.ptr φ st A.length 0):=fun τ1 hF1=>by
  have:=Jg (st:=st) (off:=0) hF1 (show A.length<(A++p::C).length by simp)
  rwa [Nat.zero_add] at this
 have hb:Buf τ 7 p.2 (innB p.1):=h2.ins p (by simp);have hpl:Qd ((A++p::C).map (·.1)) A.length=p.1.2.length:=by
  unfold Qd;rw[List.map_append,List.map_cons];have:=QzJ (A.map (·.1)) (C.map (·.1)) p.1 ((0,[]):Int × List OpD)
  rw[List.length_map] at this;rw[this]
 have hlw:=Jj hb;rw[List.length_map] at hlw;refine ⟨_,φ,st,p.2,Qgw h1,ix τ hF,Qz hF rfl (by simp[List.getD]),by rw[hpl];exact hlw,fun o k hn hk=>?_,fun j hj=>?_⟩
 ·rw[hpl] at hn hk;have hφm:φm∉famL p.2:=fun c=>h4 (List.mem_append_right _ (U0 (by simp) c))
  have hφφ:φ∉famL p.2:=fun c=>(Qo.1 h2.nd).2.2 φ (by simp[famL]) (U0 (by simp) c)
  have hne:φm≠φ:=fun c=>h4 (List.mem_append_left _ (by simp[famL,c]))
  refine Ui hb (xs:=[Qk o]) rfl (by intro c hc;obtain rfl:=List.mem_singleton.1 hc;rfl) (by intro c hc;obtain rfl:=List.mem_singleton.1 hc;exact Qdg o) (by simpa using hn) fun w' τ1 hB hK hfam=>?_
  have hm1:τ1 φm=some ⟨0,pre.length+1,[pre++[.own φ st 0 (A++p::C).length]]⟩:=by rw[hK φm hφm (by rw[h1];simp)];exact h1
  have hF1:τ1 φ=some ⟨st,2,(A++p::C).map fun p=>rowB p.1 p.2⟩:=by rw[hK φ hφφ (by rw[hF];simp)];exact hF
  refine hk w' τ1 (Qgw hm1) (ix τ1 hF1) fun k' hk'=>?_
  refine h2.repl (x':=(p.1.1,p.1.2++[o])) rfl (by rw[show innB (p.1.1,p.1.2++[o])=innB p.1++[Qk o] by simp[innB]];exact hB) (by omega) rfl hK hfam fun τ2 hN hfr=>?_
  have hm2:τ2 φm=some ⟨0,pre.length+1,[pre++[.own φ st 0 (A++p::C).length]]⟩:=by rw[hfr φm (by simp[famL,hne])];exact hm1
  have hl2:(A++p::C).length=(A++((p.1.1,p.1.2++[o]),w')::C).length:=by simp
  obtain ⟨φ',st',e',hF'⟩:=hN.own (by simp);obtain ⟨rfl,rfl⟩:φ=φ'∧st=st':=by injection e' with a b;exact ⟨a,b⟩
  refine hk' τ2 ⟨⟨_,_,hm2,hN,?_,fun c=>?_⟩,h.fr⟩ (Qgw hm2) ?_ (Qz hF' rfl (by simp[List.getD])) ?_
  ·rw[List.map_append,List.map_cons,List.map_append,List.map_cons];unfold putS;have:=Qgv (A.map (·.1)) (C.map (·.1)) p.1 (fun q:Int × List OpD=>(q.1,q.2++[o]))
   rw[List.length_map] at this;exact this.symm
  ·rw[Uj,Ul] at c;rw[Uj,Ul] at h4;simp only[List.mem_append] at c h4;rcases c with c|c|c|c
   ·exact h4 (.inl c)
   ·exact h4 (.inr (.inl c))
   ·rcases hfam φm c with d|d
    ·exact hφm d
    ·rw[h1] at d;cases d
   ·exact h4 (.inr (.inr (.inr c)))
  ·rw[hl2];have:=Jg (st:=st) (off:=0) hF' (show A.length<(A++((p.1.1,p.1.2++[o]),w')::C).length by simp)
   rwa [Nat.zero_add] at this
  ·have:=Jj hB;simpa using this
 ·rw[hpl] at hj;obtain ⟨φw,stw,hw,hFw⟩:=JU hb (by intro c;have:=congrArg List.length c;simp at this;simp[this] at hj);have hwl:(innB p.1).length=p.1.2.length:=by simp
  obtain ⟨E1,o,E2,he,rfl⟩:=QkU hj;refine ⟨φw,stw,?_,fun a k hk=>?_⟩
  ·rw[hw];have:=Jg (st:=stw) (off:=0) hFw (show E1.length<(innB p.1).length by rw[hwl];exact hj)
   rwa [Nat.zero_add] at this
  ·have e1:(E1.map Qk).length=E1.length:=by simp
   rw[←e1];refine h2.wr (x':=(p.1.1,E1++{o with a:=a}::E2)) (es2:=E2.map Qk) (r:=Qk o) (by show p.1.2.map Qk=_;rw[he];simp) (by show (E1++_::E2).map Qk=_;simp[Qk]) rfl (by omega) rfl hw fun τ2 hN hfr=>?_
   have hφm:φm≠φw:=by
    rintro rfl;exact h4 (List.mem_append_right _ (U0 (p:=p) (by simp) (by rw[hw];simp[famL])))
   have hm2:τ2 φm=some ⟨0,pre.length+1,[pre++[.own φ st 0 (A++p::C).length]]⟩:=by rw[hfr φm hφm];exact h1
   refine hk τ2 ⟨⟨_,_,hm2,hN,?_,fun c=>?_⟩,h.fr⟩
   ·rw[List.map_append,List.map_cons,List.map_append,List.map_cons];unfold setS;have:=Qgv (A.map (·.1)) (C.map (·.1)) p.1 (fun q:Int × List OpD=>(q.1,q.2.modify E1.length fun o=>{o with a:=a}))
    rw[List.length_map] at this;rw[this,he,Qgv]
   ·rw[Uj,Ul] at c;rw[Uj,Ul] at h4;exact h4 c
theorem CSt.push (h:CSt pre σ τ φm B) {v:AV} (hv:lod (.ptr φm 0 0 pre.length) τ=some v) {x:AV} {a:Int} {k:AV→AH→Prop} (hx:QL τ x=some [[iv a,nilS]]) (hn:B.length+1≤4294967296)
  (hk:∀v' τ1,(∀k':AH→Prop,(∀τ2,CSt pre σ τ2 φm (B++[(a,[])])→lod (.ptr φm 0 0 pre.length) τ2=some v'→lenS v'=some (iv ((B.length+1:Nat):Int))→k' τ2)→sto 1 (.ptr φm 0 0 pre.length) v' τ1 k')→k v' τ1):E.app 2 v x τ k:=by
 obtain ⟨v0,bs,h1,h2,rfl,h4⟩:=h.ex;obtain rfl:v0=v:=by have:=Qgw h1;rw[this] at hv;exact Option.some.inj hv
 rw[List.length_map] at hn;refine h2.app1 (p:=((a,[]),nilS)) hx rfl nilB (fun ψ c=>by cases c) (fun ψ c=>by cases c) (by intro y hy;simp only[List.mem_cons,List.not_mem_nil,or_false] at hy;rcases hy with rfl|rfl<;>rfl) hn fun v' τ1 hN hK hfam=>hk v' τ1 fun k' hk'=>?_
 have hm1:τ1 φm=some ⟨0,pre.length+1,[pre++[v0]]⟩:=by rw[hK φm (fun c=>h4 (List.mem_append_left _ c)) (by rw[h1];simp)];exact h1
 refine Q4 (cs:=pre++[v0]) hm1 rfl (by omega) (JO hN.one) hN.one ?_;have e:[pre++[v0]].set 0 ((pre++[v0]).set pre.length v')=[pre++[v']]:=by simp
 rw[e];have h5:φm∉famL v'++l2F (bs++[((a,[]),nilS)]):=fun c=>by
  rw[Uj] at c;simp only[List.mem_append] at c;rcases c with c|c|c
  ·rcases hfam φm c with d|d
   ·exact h4 (List.mem_append_left _ d)
   ·rw[h1] at d;cases d
  ·exact h4 (List.mem_append_right _ c)
  ·simp[l2F,famL] at c
 have hs:AH.Sub σ (τ1.set φm ⟨0,pre.length+1,[pre++[v']]⟩):=fun ψ F hF=>by
  rw[AH.set_ne' (by rintro rfl;rw[h.fr] at hF;cases hF)];exact hN.sub _ _ hF
 refine hk' _ ⟨⟨v',_,AH.set_same ..,hN.keep (fun ψ hψ=>AH.set_ne' (by rintro rfl;exact h5 hψ)) hs,by simp,h5⟩,h.fr⟩ (Qgw (AH.set_same ..)) ?_;have:=hN.len;simpa using this
theorem CSt.fz (h:CSt pre σ τ φm B) {fs:List AV} (hpre:fs=pre++[roBk (B.map fun p=>⟨p.1,p.2⟩)]):Fz σ τ (.ptr φm 0 0 0) (.rop fs 0):=by
 obtain ⟨v,bs,h1,h2,rfl,h4⟩:=h.ex;subst hpre;refine .ptr h1 h.fr rfl (by simp) (by simp) (by simp) fun j hj=>?_
 have hj':j<pre.length+1:=by simpa using hj
 have e0:(⟨0,pre.length+1,[pre++[v]]⟩:Fam).es.getD 0 []=pre++[v]:=rfl;rw[e0];by_cases c:j<pre.length
 ·rw[show (pre++[v]).getD j .any=pre.getD j .any by simp[List.getD,List.getElem?_append_left c],show (pre++[roBk ((bs.map (·.1)).map fun p=>⟨p.1,p.2⟩)]).getD j .any=pre.getD j .any by simp[List.getD,List.getElem?_append_left c]]
  exact .same _
 ·obtain rfl:j=pre.length:=by omega
  rw[show (pre++[v]).getD pre.length .any=v by simp[List.getD],show (pre++[roBk ((bs.map (·.1)).map fun p=>⟨p.1,p.2⟩)]).getD pre.length .any=roBk ((bs.map (·.1)).map fun p=>⟨p.1,p.2⟩) by simp[List.getD]]
  have:=h2.fz (fun _ _=>rfl) (fun x c hc=>by obtain ⟨o,_,rfl⟩:=List.mem_map.1 hc;rfl) (fun _ _ _=>trivial) (fun x a b j hf=>by
   match j with
   |0=>exact .same _
   |1=>exact hf
   |j+2=>exact .same _)
  have e:(bs.map fun p=>rowB p.1 (.ro (innB p.1)))=((bs.map (·.1)).map fun p:Int × List OpD=>(⟨p.1,p.2⟩:Blk)).map QC:=by simp[QC]
  rw[e] at this;exact this
end
section
set_option maxRecDepth 100000
theorem Jp {B:St} {i:Nat} {o:OpD} (h:fits B) (hi:i<B.length):fits (putS B i o)↔Qd B i<200:=by
 constructor
 ·intro k;have:=k.2 i (by rw[Jc];exact hi);rw[Qac,if_pos ⟨rfl,hi⟩] at this;omega
 ·intro k;refine ⟨by rw[Jc];exact h.1,fun j hj=>?_⟩;rw[Jc] at hj;rw[Qac];split
  ·rename_i c;obtain ⟨rfl,_⟩:=c;omega
  ·exact h.2 j hj
theorem QrT {B:St} {i k:Nat} {a:Int}:fits (setS B i k a)↔fits B:=by
 unfold fits;rw[Qa0];simp only[QaO]
theorem Qql {B:St} {a:Int} (h:fits B):fits (B++[(a,[])])↔B.length<60:=by
 constructor
 ·intro k;have:=k.1;simp at this;omega
 ·intro k;refine ⟨by simp;omega,fun j hj=>?_⟩;unfold Qd;by_cases c:j<B.length
  ·simp only[List.getD,List.getElem?_append_left c];exact h.2 j c
  ·obtain rfl:j=B.length:=by simp at hj;omega
   simp[List.getD]
variable [L:Lam] {σ τ τ':AH} {R:AEnd→AH→Prop}
abbrev flt (c:Int):AV:= .ifc Qhs (.agg [iv c])
theorem QuY {f:FuncId} {o:OpD} {a b c:AV} {σ0:AH} {K:AEnd→AH→Prop} (hs:AH.Sub σ0 τ) (hf:Fz σ0 τ c (roD o.data)) (h:acall TP f [a,b,.agg (Qk o)] σ0 K):acall TP f [a,b,.agg (Qn o c)] τ K:=by
 refine JI (args':=[a,b,.agg (Qk o)]) hs rfl (fun i hi=>?_) h;match i,hi with
 |0,_=>exact .same _
 |1,_=>exact .same _
 |2,_=>
  refine .agg rfl fun j hj=>?_
  match j,hj with
  |0,_=>exact .same _
  |1,_=>exact .same _
  |2,_=>exact .same _
  |3,_=>exact .same _
  |4,_=>exact .same _
  |5,_=>exact .same _
  |6,_=>exact hf
theorem JJ {f:FuncId} (o:OpD) {a b:AV} {row:List AV} {K:AEnd→AH→Prop} (hr:row=Qn o nilS) (hd:o.data=[]) (h:acall TP f [a,b,.agg (Qk o)] τ K):acall TP f [a,b,.agg row] τ K:=by
 subst hr;refine QuY (.refl τ) ?_ h;rw[hd];exact .nil
theorem Qam {b:Bool} {c:Int} (h1:b=false→R (.ret (.tup [])) σ) (h2:b=true→R (.pan (flt c)) σ):acall TP QaW [bv b,iv c] σ R:=by
 refine QmZ ?_;unfold x158;dsimp only[den,dE,di,List.map,den0,den1];cases b with
 |false=>simp only[RR];exact Qa (h1 rfl)
 |true=>
  simp only[RR];have e:bld [(iv 0)] [(0,1)] [(0,iv c)]=some (.agg [iv c]):=rfl;have e2:aifc TT Qhs (.agg [iv c])=some (flt c):=rfl;simp only[e,e2,RR];exact QcO (.refl σ) (h2 rfl)
section
variable {pre:List AV} {φm:Nat} {B:St}
theorem lit1 {sz:Nat} {z row:List AV} {x:AV} (he:JD sz [z] [(0,x)]=some [row]) (hr:row.length=sz) (hs:sz≤1000):bslR sz z 1 [(0,x)]=some (.ro [row]):=by
 unfold bslR;have e:List.replicate 1 z=[z]:=rfl;rw[e,he];dsimp only;rw[if_pos ⟨by omega,by intro c hc;obtain rfl:=List.mem_singleton.1 hc;exact hr⟩,if_neg (by decide)]
abbrev Qeg (pre:List AV) (σ:AH) (φm:Nat) (R:AEnd→AH→Prop):Prop:=∀τ' B',CSt pre σ τ' φm B'→R (.pan (flt 2)) τ'
theorem J7 {x y:AV} (hp:pre=[x,y]) {i:Nat} {o:OpD} (h:CSt pre σ τ φm B) (hi:i<B.length) (hl:Qd B i≤200) (h1:Qd B i<200→∀τ',CSt pre σ τ' φm (putS B i o)→R (.ret (iv (Qd B i:Int))) τ') (h2:¬Qd B i<200→Qeg pre σ φm R):
  acall TP Jb [.ptr φm 0 0 0,iv (i:Int),.agg (Qk o)] τ R:=by
 obtain ⟨v,φ,st,w,e1,e2,e3,e4,e5,_⟩:=h.open hi;rw[show pre.length=2 by rw[hp];rfl] at e1 e5;refine Qfq ?_;unfold x156;dsimp only[den,dE,di,dwat,Qf,List.map,den0,den1];refine QjX ?_;simp only[e1,e2,e3,e4,RR];have hb:decide ((Qd B i:Int)=200)=decide (¬Qd B i<200):=by congr 1;apply propext;omega
 rw[hb];by_cases c:Qd B i<200
 ·refine Qam (fun _=>?_) (fun hh=>absurd c (by simpa using hh));simp only[e3,Qu (Q5 o),RR,anil];rw[lit1 (sz:=7) (row:=Qk o) rfl rfl (by omega)];simp only[RR];refine e5 o _ (by omega) fun w' τ1 g1 g2 g3=>?_
  simp only[RR,true_and];refine g3 _ fun τ2 k1 k2 k3 k4 k5=>?_
  have es:ibin .sub (iv ((Qd B i+1:Nat):Int)) (iv 1)=some (iv (Qd B i:Int)):=by
   rw[QU (by omega) (by omega)]
   congr 3;omega
  simp only[RR,true_and,k4,k5,es];exact Qa (h1 c τ2 k1)
 ·refine Qam (fun hh=>absurd c (by simpa using hh)) (fun _=>?_);exact QcO (.refl _) (h2 c _ _ h)
theorem Qml {x y:AV} (hp:pre=[x,y]) {i:Nat} (h:CSt pre σ τ φm B) (hi:i<B.length) (h1:R (.ret (iv (Qd B i:Int))) τ):acall TP Uf [.ptr φm 0 0 0,iv (i:Int)] τ R:=by
 obtain ⟨v,φ,st,w,e1,e2,e3,e4,_⟩:=h.open hi;rw[show pre.length=2 by rw[hp];rfl] at e1;refine Qfs ?_;unfold x191;dsimp only[den,dE,di,List.map,den0,den1];simp only[e1,e2,e3,e4,RR];exact Qa h1
theorem QkV {x y:AV} (hp:pre=[x,y]) {a:Int} (h:CSt pre σ τ φm B) (hl:B.length≤60) (h1:B.length<60→∀τ',CSt pre σ τ' φm (B++[(a,[])])→R (.ret (iv (B.length:Int))) τ') (h2:¬B.length<60→Qeg pre σ φm R):
  acall TP UP [.ptr φm 0 0 0,iv a] τ R:=by
 obtain ⟨v,e1,e2⟩:=h.len;have e1':=e1;rw[show pre.length=2 by rw[hp];rfl] at e1;refine Qe4 ?_;unfold x121;dsimp only[den,dE,di,List.map,den0,den1];simp only[e1,e2,RR];have hb:decide ((B.length:Int)=60)=decide (¬B.length<60):=by congr 1;apply propext;omega
 rw[hb];by_cases c:B.length<60
 ·refine Qam (fun _=>?_) (fun hh=>absurd c (by simpa using hh));have eb:bld [(iv 0),nilS] [(0,1),(1,1)] [(0,iv a)]=some (.agg [iv a,nilS]):=rfl;simp only[e1,eb,RR];refine bsl1 (row:=[iv a,nilS]) rfl (by omega) fun ψ hψ=>?_
  have hs:AH.Sub τ (τ.set ψ ⟨0,2,[[iv a,nilS]]⟩):= .set (.refl τ) _ hψ;refine (h.grow hs).push (v:=v) (a:=a) ?_ ael1 (by omega) fun v' τ1 k1=>?_
  ·obtain ⟨v0,bs,g1,_⟩:=h.ex;have:=Qgw g1;rw[this] at e1';obtain rfl:=Option.some.inj e1';exact Qgw (hs _ _ g1)
  rw[show pre.length=2 by rw[hp];rfl] at k1;refine k1 _ fun τ2 g1 g2 g3=>?_
  have es:ibin .sub (iv ((B.length+1:Nat):Int)) (iv 1)=some (iv (B.length:Int)):=by
   rw[QU (by omega) (by omega)]
   congr 3;omega
  simp only[RR,g2,g3,es];exact Qa (h1 c τ2 g1)
 ·refine Qam (fun hh=>absurd c (by simpa using hh)) (fun _=>?_);exact QcO (.refl _) (h2 c _ _ h)
theorem JQ {x:AV} (hp:pre=[x]) {i:Nat} {o:OpD} (h:CSt pre σ τ φm B) (hi:i<B.length) (hl:Qd B i≤1000000) (h1:∀τ',CSt pre σ τ' φm (putS B i o)→R (.ret (iv (Qd B i:Int))) τ'):
  acall TP Qbz [.ptr φm 0 0 0,iv (i:Int),.agg (Qk o)] τ R:=by
 obtain ⟨v,φ,st,w,e1,e2,e3,e4,e5,_⟩:=h.open hi;rw[show pre.length=1 by rw[hp];rfl] at e1 e5;refine Qn5 ?_;unfold x148;dsimp only[den,dE,di,dwat,Qf,List.map,den0,den1];refine QjX ?_;simp only[e1,e2,e3,Qu (Q5 o),RR];rw[lit1 (sz:=7) (row:=Qk o) rfl rfl (by omega)];simp only[RR];refine e5 o _ (by omega) fun w' τ1 g1 g2 g3=>?_
 simp only[g1,g2,RR,true_and,and_true];refine g3 _ fun τ2 k1 k2 k3 k4 k5=>?_
 have es:ibin .sub (iv ((Qd B i+1:Nat):Int)) (iv 1)=some (iv (Qd B i:Int)):=by
  rw[QU (by omega) (by omega)]
  congr 3;omega
 simp only[RR,true_and,k2,k3,k4,k5,es];exact Qa (h1 τ2 k1)
theorem Qfj {x:AV} (hp:pre=[x]) {i:Nat} {e:Bool} (h:CSt pre σ τ φm B) (hi:i<B.length) (hl:Qd B i≤1000000) (h1:∀τ',CSt pre σ τ' φm (endS B i e)→R (.ret (.tup [])) τ'):
  acall TP QbA [.ptr φm 0 0 0,iv (i:Int),bv e] τ R:=by
 refine Qn6 ?_;unfold x149;dsimp only[den,dE,di,List.map,den0,den1];cases e with
 |true=>
  have eb:bld [(iv 0),(iv 0),(iv 0),(iv 0),(iv 0),(.val (.string ⟨#[]⟩)),nilS] [(0,1),(1,1),(2,1),(3,1),(4,1),(5,1),(6,1)] [(0,(iv 12))]=some (.agg [iv 12,iv 0,iv 0,iv 0,iv 0,str ⟨#[]⟩,nilS]):=rfl;simp only[eb,RR];refine JJ (oc0 12) rfl rfl ?_;refine JQ hp h hi hl fun τ' g=>?_
  simp only[RR];exact Qa (h1 τ' g)
 |false=>simp only[RR];exact Qa (h1 τ h)
end
end
section
set_option maxRecDepth 100000
theorem Qaf {l:List Nat} {j:Nat} (h:j<l.length):l.getD j 0=l[j]:=by simp[List.getD,h]
theorem QcW (g:Nat→St→St) (h:St→St):∀(a b:List Nat) (B:St),Qr g h (a++b) B=Qr g h b (Qr g h a B):=by
 intro a
 induction a with
 |nil=>intro b B;rfl
 |cons k a ih=>intro b B;exact ih b _
theorem QwN {B:St} {i:Nat} {e:Bool} (h:fits B) (hi:i<B.length):fits (endS B i e)↔(e=true→Qd B i<200):=by
 cases e with
 |false=>exact ⟨fun _ c=>(by cases c),fun _=>h⟩
 |true=>exact (Jp h hi).trans ⟨fun k _=>k,fun k=>k rfl⟩
variable [L:Lam] {σ τ τ':AH} {R:AEnd→AH→Prop}
abbrev roK (ks:List Nat):AV:= .ro (ks.map fun k:Nat=>[iv (k:Int)])
def encK (ks:List Nat):List AV:=[roK ks]
theorem QwO (ks:List Nat):(encK ks).length=1:=rfl
def allK (cs:List Cor):List (List Nat):=(List.range cs.length).map (QG cs)
abbrev roKK (cs:List Cor):AV:= .ro ((allK cs).map encK)
theorem Q1 {ks:List Nat} {j:Nat} (hj:j<ks.length):idx 1 (roK ks) (iv (j:Int)) σ=some (.rop [iv ((ks.getD j 0:Nat):Int)] 0):=by
 have:=Qq (σ:=σ) (enc:=fun k:Nat=>[iv (k:Int)]) (es:=ks) hj (sz:=1) (fun _=>rfl);rw[this];simp[List.getD,hj]
theorem Qv {x:AV}:lod (.rop [x] 0) σ=some x:=rfl
theorem lenK {ks:List Nat}:lenS (roK ks)=some (iv (ks.length:Int)):=by simp[lenS]
theorem Jm {pre:List AV} {φm:Nat} {k:AV→AH→Prop} (h:Qeg pre σ φm R):Qeg pre σ φm (onr k fun v σ=>apan v σ R):=fun _ _ hS=>QcO (.refl _) (h _ _ hS)
theorem QcX {cs:List Cor} {x:Nat} (h:x<cs.length):cs[x]=Qj cs x:=by simp[Qj,List.getD,h]
section
variable {φm:Nat} {B:St} {cs:List Cor}
abbrev preI (cs:List Cor):List AV:=[roC cs,roKK cs]
def Qxw (cs:List Cor) (f:Nat) (σ:AH) (φm:Nat):Prop:=∀(x i:Nat) (e:Bool) (B:St) (τ:AH) (R:AEnd→AH→Prop),x<cs.length→cs.length≤f+x→i<B.length→CSt (preI cs) σ τ φm B→fits B→
 (fits (mkC cs f x i e B)→∀τ',CSt (preI cs) σ τ' φm (mkC cs f x i e B)→R (.ret (.tup [])) τ')→(¬fits (mkC cs f x i e B)→Qeg (preI cs) σ φm R)→acall TP JG [.ptr φm 0 0 0,iv (x:Int),iv (i:Int),bv e] τ R
theorem Qnj {i:Nat} {e:Bool} (h:CSt (preI cs) σ τ φm B) (hi:i<B.length) (hf:fits B) (h1:fits (endS B i e)→∀τ',CSt (preI cs) σ τ' φm (endS B i e)→R (.ret (.tup [])) τ') (h2:¬fits (endS B i e)→Qeg (preI cs) σ φm R):
  apick (bv e) (og (bld [(iv 0),(iv 0),(iv 0),(iv 0),(iv 0),(.val (.string ⟨#[]⟩)),nilS] [(0,1),(1,1),(2,1),(3,1),(4,1),(5,1),(6,1)] [(0,(iv 12))]) fun v157=>
    acall TP Jb [.ptr φm 0 0 0,iv (i:Int),v157] τ (onr (fun _ σ=>
    aret (.tup []) σ R) (fun v σ=>apan v σ R))) (aret (.tup []) τ R):=by
 have hf':=QwN (e:=e) hf hi;cases e with
 |true=>
  have eb:bld [(iv 0),(iv 0),(iv 0),(iv 0),(iv 0),(.val (.string ⟨#[]⟩)),nilS] [(0,1),(1,1),(2,1),(3,1),(4,1),(5,1),(6,1)] [(0,(iv 12))]=some (.agg [iv 12,iv 0,iv 0,iv 0,iv 0,str ⟨#[]⟩,nilS]):=rfl;simp only[eb,RR];refine JJ (oc0 12) rfl rfl ?_;refine J7 rfl h hi (hf.2 i hi) (fun c τ' g=>?_) fun c=>Jm (h2 fun k=>c (hf'.1 k rfl))
  simp only[RR];exact Qa (h1 (hf'.2 fun _=>c) τ' g)
 |false=>simp only[RR];exact Qa (h1 hf τ h)
theorem QqP {f:Nat} (hC:Qxw cs f σ φm) {k1 k2 k3 i:Nat} {e:Bool} (hx:∀k,k∈[k1,k2,k3]→k<cs.length∧cs.length≤f+k) (h:CSt (preI cs) σ τ φm B) (hi:i<B.length) (hf:fits B) {B1 B2 B3 B4 B5 D:St}
  (d1:B1=mkC cs f k1 i false B) (d2:B2=mkC cs f k2 i e (putS B1 i (oc0 6))) (d3:B3=if e then B2 else putS B2 i (oc0 5)) (d4:B4=setS B3 i (Qd B1 i) (Qd B3 i:Int)) (d5:B5=mkC cs f k3 i e B4) (hD:D=if e then B5 else setS B5 i (Qd B2 i) (Qd B5 i:Int))
  (h1:fits D→∀τ',CSt (preI cs) σ τ' φm D→R (.ret (.tup [])) τ') (h2:¬fits D→Qeg (preI cs) σ φm R):acall TP Qa4 [.ptr φm 0 0 0,roK [k1,k2,k3],iv (i:Int),bv e] τ R:=by
 have l1:leS B B1:=by rw[d1];exact QO ..
 have l2:leS (putS B1 i (oc0 6)) B2:=by rw[d2];exact QO ..
 have l3:leS B2 B3:=by rw[d3];cases e<;>first|exact QY _ _ _|exact leS.refl _
 have l4:leS B3 B4:=by rw[d4];exact Qap ..
 have l5:leS B4 B5:=by rw[d5];exact QO ..
 have l6:leS B5 D:=by rw[hD];cases e<;>first|exact Qap _ _ _ _|exact leS.refl _
 have i1:i<B1.length:=Nat.lt_of_lt_of_le hi l1.1;have i1':i<(putS B1 i (oc0 6)).length:=by rw[Jc];exact i1
 have i2:i<B2.length:=Nat.lt_of_lt_of_le i1' l2.1;have i3:i<B3.length:=Nat.lt_of_lt_of_le i2 l3.1;have i4:i<B4.length:=Nat.lt_of_lt_of_le i3 l4.1;have i5:i<B5.length:=Nat.lt_of_lt_of_le i4 l5.1;have n1:Qd B1 i<Qd B3 i:=by
  have:=l2.2 i i1';rw[Qac,if_pos ⟨rfl,i1⟩] at this;have:=l3.2 i i2;omega
 have x0:∀τ,idx 1 (roK [k1,k2,k3]) (iv 0) τ=some (.rop [iv (k1:Int)] 0):=fun τ=>Q1 (j:=0) (by simp)
 have x1:∀τ,idx 1 (roK [k1,k2,k3]) (iv 1) τ=some (.rop [iv (k2:Int)] 0):=fun τ=>Q1 (j:=1) (by simp)
 have x2:∀τ,idx 1 (roK [k1,k2,k3]) (iv 2) τ=some (.rop [iv (k3:Int)] 0):=fun τ=>Q1 (j:=2) (by simp)
 have eb6:bld [(iv 0),(iv 0),(iv 0),(iv 0),(iv 0),(.val (.string ⟨#[]⟩)),nilS] [(0,1),(1,1),(2,1),(3,1),(4,1),(5,1),(6,1)] [(0,(iv 6))]=some (.agg [iv 6,iv 0,iv 0,iv 0,iv 0,str ⟨#[]⟩,nilS]):=rfl;have eb5:bld [(iv 0),(iv 0),(iv 0),(iv 0),(iv 0),(.val (.string ⟨#[]⟩)),nilS] [(0,1),(1,1),(2,1),(3,1),(4,1),(5,1),(6,1)] [(0,(iv 5))]=some (.agg [iv 5,iv 0,iv 0,iv 0,iv 0,str ⟨#[]⟩,nilS]):=rfl;refine Qec ?_;unfold x157;dsimp only[den,dE,di,tupL,lTup,den2,den3,den4,dwat,Qf,List.map,den0,den1];simp only[x0,Qv,RR];refine hC k1 i false B τ _ (hx k1 (by simp)).1 (hx k1 (by simp)).2 hi h hf (fun f1 τ1 S1=>?_) fun c=>Jm (h2 fun k=>c (by rw[←d1];exact k.of_le ((((((QY B1 i (oc0 6)).trans l2).trans l3).trans l4).trans l5).trans l6)))
 rw[←d1] at f1 S1;simp only[eb6,RR];refine JJ (oc0 6) rfl rfl ?_;refine J7 rfl S1 i1 (f1.2 i i1) (fun c τ2 S2=>?_) fun c=>Jm (h2 fun k=>c ((Jp f1 i1).1 (k.of_le (((l2.trans l3).trans l4).trans (l5.trans l6)))))
 have f2:=(Jp (o:=oc0 6) f1 i1).2 c;simp only[x1,Qv,RR];refine hC k2 i e _ τ2 _ (hx k2 (by simp)).1 (hx k2 (by simp)).2 i1' S2 f2 (fun f3 τ3 S3=>?_) fun c=>Jm (h2 fun k=>c (by rw[←d2];exact k.of_le ((l3.trans l4).trans (l5.trans l6))))
 rw[←d2] at f3 S3;simp only[jn,RR];have fin:∀(τ:AH) (u:AV),CSt (preI cs) σ τ φm B3→fits B3→(e=false→u=iv (Qd B2 i:Int))→
   og (anil (.ptr φm 0 0 0)) fun v34=>og (fldA 2 v34) fun v35=>og (lod v35 τ) fun v36=>og (idx 2 v36 (iv (i:Int)) τ) fun v38=>og (fldA 1 v38) fun v39=>og (lod v39 τ) fun v40=>
   acall TP Uf [.ptr φm 0 0 0,iv (i:Int)] τ (onr (fun v44 σ=>
   (lod v39 σ=some v40∧idx 2 v36 (iv (i:Int)) σ=some v38∧lod v35 σ=some v36∧True)∧
   og (idx 7 v40 (iv (Qd B1 i:Int)) σ) fun v45=>og (fldA 1 v45) fun v46=>sto 1 v46 v44 σ fun σ=>
   (True)∧
   og (idx 1 (roK [k1,k2,k3]) (iv 2) σ) fun v49=>og (lod v49 σ) fun v50=>
   acall TP JG [.ptr φm 0 0 0,v50,iv (i:Int),bv e] σ (onr (fun _ σ=>
   og (aun .not (bv e)) fun v55=>
   apick v55 (
    og (anil (.ptr φm 0 0 0)) fun v57=>og (fldA 2 v57) fun v58=>og (lod v58 σ) fun v59=>og (idx 2 v59 (iv (i:Int)) σ) fun v61=>og (fldA 1 v61) fun v62=>og (lod v62 σ) fun v63=>
    acall TP Uf [.ptr φm 0 0 0,iv (i:Int)] σ (onr (fun v67 σ=>
    (lod v62 σ=some v63∧idx 2 v59 (iv (i:Int)) σ=some v61∧lod v58 σ=some v59∧True)∧
    og (idx 7 v63 u σ) fun v68=>og (fldA 1 v68) fun v69=>sto 1 v69 v67 σ fun σ=>
    (True)∧
    aret (.tup []) σ R) (fun v σ=>apan v σ R))) (
    aret (.tup []) σ R)) (fun v σ=>apan v σ R))) (fun v σ=>apan v σ R)):=by
  intro τ u S fB hu;obtain ⟨v,φ,st,w,e1,e2,e3,e4,_,e6⟩:=S.open i3;replace e1:lod (.ptr φm 0 0 2) τ=some v:=e1;simp only[e1,e2,e3,RR];refine Qml rfl S i3 ?_;simp only[e1,e2,e3,RR,true_and,and_true];obtain ⟨φw,stw,g1,g2⟩:=e6 (Qd B1 i) n1;simp only[g1,RR];refine g2 _ _ fun τ4 S4=>?_
  rw[←d4] at S4;simp only[x2,Qv,RR,true_and];have f4:fits B4:=by rw[d4];exact QrT.2 fB
  refine hC k3 i e B4 τ4 _ (hx k3 (by simp)).1 (hx k3 (by simp)).2 i4 S4 f4 (fun f5 τ5 S5=>?_) fun c=>Jm (h2 fun k=>c (by rw[←d5];exact k.of_le l6))
  rw[←d5] at f5 S5;cases e with
  |true=>
   rw[if_pos rfl] at hD;subst hD;simp only[RR];exact Qa (h1 f5 τ5 S5)
  |false=>
   rw[if_neg (by decide)] at hD d3;obtain rfl:=hu rfl;have n2:Qd B2 i<Qd B5 i:=by
    have a1:=l4.2 i i3;have a2:=l5.2 i i4;have a3:Qd B3 i=Qd B2 i+1:=by rw[d3,Qac,if_pos ⟨rfl,i2⟩]
    omega
   obtain ⟨v',φ',st',w',q1,q2,q3,q4,_,q6⟩:=S5.open i5;replace q1:lod (.ptr φm 0 0 2) τ5=some v':=q1;simp only[q1,q2,q3,RR];refine Qml rfl S5 i5 ?_;simp only[q1,q2,q3,RR,true_and,and_true];obtain ⟨φw',stw',g1',g2'⟩:=q6 (Qd B2 i) n2;simp only[g1',RR];refine g2' _ _ fun τ6 S6=>?_
   rw[←hD] at S6;exact Qa (h1 (by rw[hD];exact QrT.2 f5) τ6 S6)
 cases e with
 |true=>
  rw[if_pos rfl] at d3;subst d3;simp only[RR];exact fin τ3 (iv 0) S3 f3 (fun c=>by cases c)
 |false=>
  rw[if_neg (by decide)] at d3;simp only[eb5,RR];refine JJ (oc0 5) rfl rfl ?_;refine J7 rfl S3 i2 (f3.2 i i2) (fun c τ4 S4=>?_) fun c=>Jm (h2 fun k=>c ((Jp (o:=oc0 5) f3 i2).1 (by rw[←d3];exact k.of_le ((l4.trans l5).trans l6))))
  rw[←d3] at S4;simp only[RR];exact fin τ4 _ S4 (by rw[d3];exact (Jp f3 i2).2 c) fun _=>rfl
theorem QuZ {x:Nat} (h:x<cs.length):idx 1 (roKK cs) (iv (x:Int)) σ=some (.rop [roK (QG cs x)] 0):=by
 have hl:x<(allK cs).length:=by simpa[allK] using h
 have:=Qq (σ:=σ) (enc:=encK) (es:=allK cs) hl (sz:=1) QwO;rw[this];simp[allK,encK]
theorem QB4 {ks:List Nat} (hn:ks≠[]):slc 1 (roK ks) none (some (iv ((ks.length:Int) - 1))) none σ=some (roK ks.dropLast):=by
 have hl:ks.length≠0:=fun c=>hn (List.length_eq_zero_iff.1 c)
 have e1:(ks.length:Int) - 1=((ks.length - 1:Nat):Int):=by omega
 rw[e1];have e:abd none 0=some 0:=rfl;have e2:abd (some (iv ((ks.length - 1:Nat):Int))) ((ks.map fun k:Nat=>[iv (k:Int)]).length)=some (ks.length - 1):=Qb7 _ _;have e3:abd none ((ks.map fun k:Nat=>[iv (k:Int)]).length)=some (ks.map fun k:Nat=>[iv (k:Int)]).length:=rfl;simp only[slc,e,e2,e3];rw[if_pos ⟨Nat.zero_le _,by simp,by simp,by simp,by rw[List.all_eq_true];intro c hc;obtain ⟨x,_,rfl⟩:=List.mem_map.1 hc;rfl⟩];rw[List.dropLast_eq_take,List.drop_zero,←List.map_take]
set_option maxHeartbeats 2000000 in
theorem QwP (hw:WfC cs):∀f,Qxw cs f σ φm:=by
 intro f
 induction f with
 |zero=>intro x i e B τ R hx hf;omega
 |succ f ih=>
  intro x i e B τ R hx hfx hi h hf h1 h2;have hkd:∀k,k∈QG cs x→k<cs.length∧cs.length≤f+k:=fun k hk=>by have:=hw.kid hk;omega
  have hkk:=hw.kids x hx;have hkind:=hw.kind x hx;have ex:∀τ,idx 6 (roC cs) (iv (x:Int)) τ=some (.rop (Qs (Qj cs x)) 0):=fun τ=>by rw[←QcX hx];exact Qq hx UJ
  have p0:∀{τ},CSt (preI cs) σ τ φm B→lod (.ptr φm 0 0 0) τ=some (roC cs):=fun h=>h.fix rfl
  have p1:∀{τ},CSt (preI cs) σ τ φm B→lod (.ptr φm 0 0 1) τ=some (roKK cs):=fun h=>h.fix rfl
  refine Qfp ?_;unfold x120;dsimp only[den,dE,di,tupL,lTup,den2,den3,den4,dwat,Qf,List.map,den0,den1,Option.map];simp only[p0 h,p1 h,ex,QuZ hx,Qv,Qu (UJ _),RR];intro φ8 hφ8;refine ⟨trivial,?_⟩;refine QH (es:=[[iv 0,iv 0,iv 0,iv 0,str ⟨#[]⟩,nilS]]) (cs:=Qs (Qj cs x)) (by rw[AH.set_same];rfl) (by simp) rfl rfl rfl (Qea _) ?_;have hg:CSt (preI cs) σ (τ.set φ8 ⟨0,6,[Qs (Qj cs x)]⟩) φm B:=h.grow (.set (.refl τ) _ hφ8);simp only[List.set_cons_zero,AH.set_set,p1 hg,Qv,QuZ hx,RR,true_and,and_true,jn];refine QK hφ8 rfl ?_;have l0:∀τ,lod (.rop (Qs (Qj cs x)) 0) τ=some (iv (Qj cs x).kind):=fun _=>rfl
  have l2:∀τ,lod (.rop (Qs (Qj cs x)) 2) τ=some (iv (Qj cs x).a):=fun _=>rfl
  have l3:∀τ,lod (.rop (Qs (Qj cs x)) 3) τ=some (iv (Qj cs x).b):=fun _=>rfl
  have l4:∀τ,lod (.rop (Qs (Qj cs x)) 4) τ=some (str (Qj cs x).name):=fun _=>rfl
  have l5:∀τ,lod (.rop (Qs (Qj cs x)) 5) τ=some (roD (Qj cs x).data):=fun _=>rfl
  simp only[l0,l2,l3,l4,l5,RR];rw[mkC] at h1 h2;dsimp only at h1 h2;generalize hks:QG cs x=ks at*;generalize hc:Qj cs x=c at*;have one:∀(o:OpD),(fits (endS (putS B i o) i e)→∀τ',CSt (preI cs) σ τ' φm (endS (putS B i o) i e)→R (.ret (.tup [])) τ')→(¬fits (endS (putS B i o) i e)→Qeg (preI cs) σ φm R)→
    acall TP Jb [.ptr φm 0 0 0,iv (i:Int),.agg (Qk o)] τ (onr (fun _ σ=>
    apick (bv e) (og (bld [(iv 0),(iv 0),(iv 0),(iv 0),(iv 0),(.val (.string ⟨#[]⟩)),nilS] [(0,1),(1,1),(2,1),(3,1),(4,1),(5,1),(6,1)] [(0,(iv 12))]) fun v157=>
    acall TP Jb [.ptr φm 0 0 0,iv (i:Int),v157] σ (onr (fun _ σ=>
    aret (.tup []) σ R) (fun v σ=>apan v σ R))) (aret (.tup []) σ R)) (fun v σ=>apan v σ R)):=by
   intro o g1 g2;refine J7 rfl h hi (hf.2 i hi) (fun c τ' S=>?_) fun c=>Jm (g2 fun k=>c ((Jp hf hi).1 (k.of_le (JS ..))))
   exact Qnj S (by rw[Jc];exact hi) ((Jp hf hi).2 c) g1 g2
  by_cases c1:c.kind=1
  ·rw[if_pos c1] at h1 h2;have eb:bld [(iv 0),(iv 0),(iv 0),(iv 0),(iv 0),(.val (.string ⟨#[]⟩)),nilS] [(0,1),(1,1),(2,1),(3,1),(4,1),(5,1),(6,1)] [(0,(iv 1)),(6,roD c.data)]=some (.agg (Qk (ocD 1 c.data))):=rfl;simp only[c1,eb,RR];exact one _ h1 h2
  rw[if_neg c1] at h1 h2;by_cases c2:c.kind=2
  ·rw[if_pos c2] at h1 h2;have eb:bld [(iv 0),(iv 0),(iv 0),(iv 0),(iv 0),(.val (.string ⟨#[]⟩)),nilS] [(0,1),(1,1),(2,1),(3,1),(4,1),(5,1),(6,1)] [(0,(iv 2)),(1,iv c.a),(2,iv c.b)]=some (.agg (Qn (ocAB 2 c.a c.b) nilS)):=rfl;simp only[c2,eb,Int.reduceEq,RR];exact JJ _ rfl rfl (one _ h1 h2)
  rw[if_neg c2] at h1 h2;by_cases c3:c.kind=3
  ·rw[if_pos c3] at h1 h2;have eb:bld [(iv 0),(iv 0),(iv 0),(iv 0),(iv 0),(.val (.string ⟨#[]⟩)),nilS] [(0,1),(1,1),(2,1),(3,1),(4,1),(5,1),(6,1)] [(0,(iv 3)),(5,str c.name)]=some (.agg (Qn (ocN 3 c.name) nilS)):=rfl;simp only[c3,eb,Int.reduceEq,RR];exact JJ _ rfl rfl (one _ h1 h2)
  rw[if_neg c3] at h1 h2;have z0:∀{k:Nat} {r:List Nat} τ,idx 1 (roK (k::r)) (iv 0) τ=some (.rop [iv (k:Int)] 0):=fun {k r} τ=>by have:=Q1 (σ:=τ) (ks:=k::r) (j:=0) (by simp);simpa using this
  by_cases c5:c.kind=5
  ·rw[if_pos c5] at h1 h2;unfold hasK at hkk;rw[if_neg (by omega),if_pos (.inl c5)] at hkk;obtain ⟨k,rfl⟩:∃k,ks=[k]:=by
    match ks,hkk with
    |[k],_=>exact ⟨k,rfl⟩
   have eb:bld [(iv 0),(iv 0),(iv 0),(iv 0),(iv 0),(.val (.string ⟨#[]⟩)),nilS] [(0,1),(1,1),(2,1),(3,1),(4,1),(5,1),(6,1)] [(0,(iv 4)),(1,iv (B.length:Int))]=some (.agg (Qn (ocA 4 (B.length:Int)) nilS)):=rfl;simp only[c5,Int.reduceEq,RR];simp only[List.getD_cons_zero] at h1 h2;have hlP:leS (B++[(c.a,[])]) (endS (mkC cs f k B.length true (putS (B++[(c.a,[])]) i (ocA 4 (B.length:Int)))) i e):=((QY ..).trans (QO ..)).trans (JS ..);have hi1:i<(B++[(c.a,[])]).length:=by simp;omega
   refine QkV rfl h hf.1 (fun c60 τ1 S1=>?_) fun c60=>Jm (h2 fun k=>c60 ((Qql hf).1 (k.of_le hlP)))
   have f1:=(Qql (a:=c.a) hf).2 c60;simp only[eb,RR];refine JJ _ rfl rfl (J7 rfl S1 hi1 (f1.2 i hi1) (fun q τ2 S2=>?_) fun c=>Jm (h2 fun k=>c ((Jp f1 hi1).1 (k.of_le ((QO ..).trans (JS ..))))));have f2:=(Jp (o:=ocA 4 (B.length:Int)) f1 hi1).2 q;simp only[z0,Qv,RR];have hk:=hkd k (by simp);refine ih k B.length true _ τ2 _ hk.1 hk.2 (by rw[Jc];simp) S2 f2 (fun f3 τ3 S3=>?_) fun c=>Jm (h2 fun k=>c (k.of_le (JS ..)))
   have hi3:i<(mkC cs f k B.length true (putS (B++[(c.a,[])]) i (ocA 4 (B.length:Int)))).length:=Nat.lt_of_lt_of_le (by rw[Jc];exact hi1) (QO ..).1;simp only[RR];exact Qnj S3 hi3 f3 h1 h2
  rw[if_neg c5] at h1 h2;by_cases c78:c.kind=7∨c.kind=8
  ·rw[if_pos c78] at h1 h2;unfold hasK at hkk;rw[if_neg (by omega),if_pos (by omega)] at hkk;obtain ⟨k,rfl⟩:∃k,ks=[k]:=by
    match ks,hkk with
    |[k],_=>exact ⟨k,rfl⟩
   simp only[List.getD_cons_zero] at h1 h2;have hk:=hkd k (by simp);have es:ibin .sub (iv c.kind) (iv 7)=some (iv (c.kind - 7)):=QU (by omega) (by omega);have ea:ibin .add (iv (c.kind - 7)) (iv 8)=some (iv (c.kind - 7+8)):=Jk (by omega) (by omega);have eb:bld [(iv 0),(iv 0),(iv 0),(iv 0),(iv 0),(.val (.string ⟨#[]⟩)),nilS] [(0,1),(1,1),(2,1),(3,1),(4,1),(5,1),(6,1)] [(0,iv (c.kind - 7+8)),(5,str c.name)]=some (.agg (Qn (ocN (c.kind - 7+8) c.name) nilS)):=rfl;have go:acall TP JG [.ptr φm 0 0 0,iv (k:Int),iv (i:Int),bv false] τ (onr (fun _ σ=>
     acall TP Jb [.ptr φm 0 0 0,iv (i:Int),.agg (Qn (ocN (c.kind - 7+8) c.name) nilS)] σ (onr (fun _ σ=>
     apick (bv e) (og (bld [(iv 0),(iv 0),(iv 0),(iv 0),(iv 0),(.val (.string ⟨#[]⟩)),nilS] [(0,1),(1,1),(2,1),(3,1),(4,1),(5,1),(6,1)] [(0,(iv 12))]) fun v157=>
     acall TP Jb [.ptr φm 0 0 0,iv (i:Int),v157] σ (onr (fun _ σ=>
     aret (.tup []) σ R) (fun v σ=>apan v σ R))) (aret (.tup []) σ R)) (fun v σ=>apan v σ R))) (fun v σ=>apan v σ R)):=by
    refine ih k i false B τ _ hk.1 hk.2 hi h hf (fun f1 τ1 S1=>?_) fun c=>Jm (h2 fun k=>c (k.of_le ((QY ..).trans (JS ..))))
    have hi1:i<(mkC cs f k i false B).length:=Nat.lt_of_lt_of_le hi (QO ..).1;simp only[RR];refine JJ _ rfl rfl (J7 rfl S1 hi1 (f1.2 i hi1) (fun c τ2 S2=>?_) fun c=>Jm (h2 fun k=>c ((Jp f1 hi1).1 (k.of_le (JS ..)))));exact Qnj S2 (by rw[Jc];exact hi1) ((Jp f1 hi1).2 c) h1 h2
   rcases c78 with c7|c8
   ·simp only[c7,z0,Qv,Int.reduceEq,RR] at es ea eb go ⊢;simp only[es,ea,eb,RR];exact go
   ·simp only[c8,z0,Qv,Int.reduceEq,RR] at es ea eb go ⊢;simp only[es,ea,eb,RR];exact go
  rw[if_neg c78] at h1 h2;have c7:¬c.kind=7:=fun k=>c78 (.inl k)
  have c8:¬c.kind=8:=fun k=>c78 (.inr k)
  by_cases c4:c.kind=4
  ·rw[if_pos c4] at h1 h2;unfold hasK at hkk;rw[if_pos c4] at hkk;obtain ⟨k1,k2,k3,rfl⟩:∃k1 k2 k3,ks=[k1,k2,k3]:=by
    match ks,hkk with
    |[k1,k2,k3],_=>exact ⟨k1,k2,k3,rfl⟩
   simp only[List.getD_cons_zero,List.getD_cons_succ] at h1 h2;simp only[c4,Int.reduceEq,RR];refine QqP ih hkd h hi hf rfl rfl rfl rfl rfl rfl (fun fD τ' S=>?_) fun c=>Jm (h2 c)
   simp only[RR];exact Qa (h1 fD τ' S)
  rw[if_neg c4] at h1 h2;by_cases c6:c.kind=6
  ·rw[if_pos c6] at h1 h2;unfold hasK at hkk;rw[if_neg c4,if_neg (by omega),if_pos c6] at hkk;have hne:ks≠[]:=by intro c;rw[c] at hkk;simp at hkk
   have hsp:=Qdu hne;have hmem:∀k,k∈ks.dropLast→k∈ks:=fun k hm=>by rw[←hsp];exact List.mem_append_left _ hm
   have hlm:ks.getLastD 0∈ks:=by
    have:ks.getLastD 0∈ks.dropLast++[ks.getLastD 0]:=List.mem_append_right _ (List.mem_singleton.2 rfl)
    rwa [hsp] at this
   have hdl:ks.dropLast.length=ks.length - 1:=List.length_dropLast;have hkl:ks.length≤160:=by
    have:=hw.len.2;rw[←hks];unfold QG;exact Nat.le_trans (List.length_filter_le _ _) (by simpa using this)
   have es:ibin .sub (iv (ks.length:Int)) (iv 1)=some (iv ((ks.length:Int) - 1)):=QU (by omega) (by omega);have eb:bld [(iv 0),(iv 0),(iv 0),(iv 0),(iv 0),(.val (.string ⟨#[]⟩)),nilS] [(0,1),(1,1),(2,1),(3,1),(4,1),(5,1),(6,1)] [(0,(iv 7))]=some (.agg (Qn (oc0 7) nilS)):=rfl;simp only[c6,lenK,es,QB4 hne,eb,Int.reduceEq,RR];refine QeB ks.dropLast.length (fun j=>(.ptr φm 0 0 0,iv (i:Int),bv e,roK ks,iv ((ks.length:Int) - 1),roK ks.dropLast,iv (ks.dropLast.length:Int),iv (j:Int),())) (fun j τ'=>CSt (preI cs) σ τ' φm (Qr (fun k B=>mkC cs f k i false B) (fun B=>putS B i (oc0 7)) (ks.dropLast.take j) B)∧fits (Qr (fun k B=>mkC cs f k i false B) (fun B=>putS B i (oc0 7)) (ks.dropLast.take j) B)) rfl ⟨h,hf⟩ ?_;rintro j τ1 hj ⟨S,fS⟩ R' hR';have hall:∀l B,leS B (Qr (fun k B=>mkC cs f k i false B) (fun B=>putS B i (oc0 7)) l B):=Qad (fun k B=>QO ..) (fun B=>QY ..);have hij:i<(Qr (fun k B=>mkC cs f k i false B) (fun B=>putS B i (oc0 7)) (ks.dropLast.take j) B).length:=Nat.lt_of_lt_of_le hi (hall _ _).1;by_cases hlt:j<ks.dropLast.length
   ·have g:(j:Int)<(ks.dropLast.length:Int):=by omega
    simp only[g,Q1 hlt,Qv,RR];have hm:ks.dropLast.getD j 0∈ks:=hmem _ (by rw[Qaf hlt];exact List.getElem_mem hlt);have htk:Qr (fun k B=>mkC cs f k i false B) (fun B=>putS B i (oc0 7)) ks.dropLast B=Qr (fun k B=>mkC cs f k i false B) (fun B=>putS B i (oc0 7)) (ks.dropLast.drop (j+1)) (putS (mkC cs f (ks.dropLast.getD j 0) i false (Qr (fun k B=>mkC cs f k i false B) (fun B=>putS B i (oc0 7)) (ks.dropLast.take j) B)) i (oc0 7)):=by
     conv=>lhs;rw[←List.take_append_drop j ks.dropLast,QcW,List.drop_eq_getElem_cons hlt]
     simp only[Qr];rw[Qaf hlt]
    have hD:leS (putS (mkC cs f (ks.dropLast.getD j 0) i false (Qr (fun k B=>mkC cs f k i false B) (fun B=>putS B i (oc0 7)) (ks.dropLast.take j) B)) i (oc0 7)) (mkC cs f (ks.getLastD 0) i e (Qr (fun k B=>mkC cs f k i false B) (fun B=>putS B i (oc0 7)) ks.dropLast B)):=by
     rw[htk];exact (hall _ _).trans (QO ..)
    refine ih _ i false _ τ1 _ (hkd _ hm).1 (hkd _ hm).2 hij S fS (fun f1 τ2 S2=>?_) fun q=>Jm (h2 fun k=>q (k.of_le ((QY ..).trans hD)))
    have hi1:i<(mkC cs f (ks.dropLast.getD j 0) i false (Qr (fun k B=>mkC cs f k i false B) (fun B=>putS B i (oc0 7)) (ks.dropLast.take j) B)).length:=Nat.lt_of_lt_of_le hij (QO ..).1;simp only[RR];refine JJ _ rfl rfl (J7 rfl S2 hi1 (f1.2 i hi1) (fun q τ3 S3=>?_) fun q=>Jm (h2 fun k=>q ((Jp f1 hi1).1 (k.of_le hD))));simp only[Qh hlt (by omega),RR];have e1:Qr (fun k B=>mkC cs f k i false B) (fun B=>putS B i (oc0 7)) (ks.dropLast.take (j+1)) B=putS (mkC cs f (ks.dropLast.getD j 0) i false (Qr (fun k B=>mkC cs f k i false B) (fun B=>putS B i (oc0 7)) (ks.dropLast.take j) B)) i (oc0 7):=by
     rw[List.take_succ_eq_append_getElem hlt,QcW,Qaf hlt];rfl
    exact hR' hlt _ _ (.refl _) (by rw[e1];exact ⟨S3,(Jp f1 hi1).2 q⟩)
   ·have g:¬(j:Int)<(ks.dropLast.length:Int):=by omega
    obtain rfl:j=ks.dropLast.length:=by omega
    rw[List.take_length] at S fS hij;have hlast:ks.getD (ks.length - 1) 0=ks.getLastD 0:=by
     rw[List.getLastD_eq_getLast?,List.getLast?_eq_getElem?];rfl
    have ix:idx 1 (roK ks) (iv ((ks.length:Int) - 1)) τ1=some (.rop [iv ((ks.getLastD 0:Nat):Int)] 0):=by
     have:=Q1 (σ:=τ1) (ks:=ks) (j:=ks.length - 1) (by omega);rw[hlast,show ((ks.length - 1:Nat):Int)=(ks.length:Int) - 1 by omega] at this;exact this
    simp only[g,ix,Qv,RR];refine ih _ i e _ τ1 _ (hkd _ hlm).1 (hkd _ hlm).2 hij S fS (fun f1 τ2 S2=>?_) fun q=>Jm (h2 q)
    simp only[RR];exact Qa (h1 f1 τ2 S2)
  rw[if_neg c6] at h1 h2;have c9:c.kind=9:=by omega
  have hkl:ks.length≤160:=by
   have:=hw.len.2;rw[←hks];unfold QG;exact Nat.le_trans (List.length_filter_le _ _) (by simpa using this)
  simp only[c9,lenK,Int.reduceEq,RR];refine QeB ks.length (fun j=>(.ptr φm 0 0 0,iv (i:Int),bv e,roK ks,roK ks,iv (ks.length:Int),iv (j:Int),())) (fun j τ'=>CSt (preI cs) σ τ' φm (Qr (fun k B=>mkC cs f k i false B) id (ks.take j) B)∧fits (Qr (fun k B=>mkC cs f k i false B) id (ks.take j) B)) rfl ⟨h,hf⟩ ?_;rintro j τ1 hj ⟨S,fS⟩ R' hR';have hall:∀l B,leS B (Qr (fun k B=>mkC cs f k i false B) id l B):=Qad (fun k B=>QO ..) (fun B=> .refl B);have hij:i<(Qr (fun k B=>mkC cs f k i false B) id (ks.take j) B).length:=Nat.lt_of_lt_of_le hi (hall _ _).1;by_cases hlt:j<ks.length
  ·have g:(j:Int)<(ks.length:Int):=by omega
   simp only[g,Q1 hlt,Qv,RR];have hm:ks.getD j 0∈ks:=by simp[List.getD,hlt]
   have htk:Qr (fun k B=>mkC cs f k i false B) id ks B=Qr (fun k B=>mkC cs f k i false B) id (ks.drop (j+1)) (mkC cs f (ks.getD j 0) i false (Qr (fun k B=>mkC cs f k i false B) id (ks.take j) B)):=by
    conv=>lhs;rw[←List.take_append_drop j ks,QcW,List.drop_eq_getElem_cons hlt]
    simp only[Qr,id];rw[show ks.getD j 0=ks[j] by simp[List.getD,hlt]]
   refine ih _ i false _ τ1 _ (hkd _ hm).1 (hkd _ hm).2 hij S fS (fun f1 τ2 S2=>?_) fun q=>Jm (h2 fun k=>q (k.of_le (by rw[htk];exact (hall _ _).trans (QY ..))))
   simp only[Qh hlt (by omega),RR];have e1:Qr (fun k B=>mkC cs f k i false B) id (ks.take (j+1)) B=mkC cs f (ks.getD j 0) i false (Qr (fun k B=>mkC cs f k i false B) id (ks.take j) B):=by
    rw[List.take_succ_eq_append_getElem hlt,QcW,show ks.getD j 0=ks[j] by simp[List.getD,hlt]];rfl
   exact hR' hlt _ _ (.refl _) (by rw[e1];exact ⟨S2,f1⟩)
  ·have g:¬(j:Int)<(ks.length:Int):=by omega
   obtain rfl:j=ks.length:=by omega
   rw[List.take_length] at S fS hij;have es:ibin .sub (iv (ks.length:Int)) (iv 1)=some (iv ((ks.length:Int) - 1)):=QU (by omega) (by omega);have eb:∀q:Int,bld [(iv 0),(iv 0),(iv 0),(iv 0),(iv 0),(.val (.string ⟨#[]⟩)),nilS] [(0,1),(1,1),(2,1),(3,1),(4,1),(5,1),(6,1)] [(0,iv q),(1,iv ((ks.length:Int) - 1))]=some (.agg (Qn (ocA q ((ks.length:Int) - 1)) nilS)):=fun q=>rfl
   cases e with
   |true=>
    simp only[g,jn,lenK,es,eb,RR];refine JJ _ rfl rfl (J7 rfl S hij (fS.2 i hij) (fun q τ3 S3=>?_) fun q=>Jm (h2 fun k=>q ((Jp fS hij).1 k)));simp only[RR];exact Qa (h1 ((Jp fS hij).2 q) τ3 S3)
   |false=>
    simp only[g,jn,lenK,es,eb,RR];refine JJ _ rfl rfl (J7 rfl S hij (fS.2 i hij) (fun q τ3 S3=>?_) fun q=>Jm (h2 fun k=>q ((Jp fS hij).1 k)));simp only[RR];exact Qa (h1 ((Jp fS hij).2 q) τ3 S3)
end
end
section
set_option maxRecDepth 100000
variable [L:Lam]
def ordK:Sx→Sx
 | .ord _ _ k=>k
 |x=>x
def Qlm:Sx→Bool
 | .rets []=>true
 |_=>false
theorem wf_c:WF 3 ([.var 0,.var 1,.var 2,.cst (.bool true)]++List.replicate 8 .any):=by
 intro s hs;rcases List.mem_append.1 hs with hs|hs
 ·rcases List.mem_cons.1 hs with rfl|hs
  ·exact (show 0<3 by omega)
  rcases List.mem_cons.1 hs with rfl|hs
  ·exact (show 1<3 by omega)
  rcases List.mem_cons.1 hs with rfl|hs
  ·exact (show 2<3 by omega)
  obtain rfl:=List.mem_singleton.1 hs;exact True.intro
 ·obtain rfl:=List.eq_of_mem_replicate hs;exact True.intro
theorem QzK (w:World):Sem.run TP (Instr.typeAssert Value.nilIface 20 154 true) w= .ok (.tuple #[.agg #[.int .i64 0],.bool false]) w:=rfl
theorem QzL (c:Int) (w:World):Sem.run TP (Instr.typeAssert (Value.iface 154 (.agg #[.int .i64 c])) 20 154 true) w= .ok (.tuple #[.agg #[.int .i64 c],.bool true]) w:=rfl
theorem Qu0 (w:World):Sem.run TP (zeroValue 154) w= .ok (.agg #[.int .i64 0]) w:=rfl
set_option maxHeartbeats 1000000 in
theorem QwQ (v2 v3:Value) (w:World):CallsDIn (FR none) 0 TP 118 #[v2,v3] .returning w fun e u' w'=>(∃t,e= .returned t)∧u'= .returning∧∃o,w'=w.alloc o:=by
 refine callsDIn_of_wpSIn Tryz.func118 rfl trivial fun c₀ cs hu=>?_
 apply wpSIn_seq
 apply wpSIn_region
 simp[wpOpsSIn,go_sem,recoverD,hu,Tryz.ntmps118,Exit.thenS,QzK,Qu0];apply wpSIn_seq;apply wpSIn_region;simp[wpOpsSIn,go_sem,Exit.thenS];refine wpSIn_cond (t:=false) (by simp[Act.eval,Array.replicate]) ?_;simp only[Bool.false_eq_true,if_false];refine wpSIn_of_wpIn rfl (wpIn_skip ?_);cases c₀
 simp_all [bodyPostS,results,Tryz.results118]
 exact ⟨_,rfl⟩
set_option maxHeartbeats 1000000 in
theorem QtV (κ:Kap) (σ:AH) (w:World) (c:Int) (φa φb:Nat) (x y:AV) (v2 v3:Value) (hr:Rel κ σ w) (h2:VR κ (.ptr φa 0 0 0) v2) (h3:VR κ (.ptr φb 0 0 0) v3) (hne:φa≠φb) (ha:σ φa=some ⟨0,1,[[x]]⟩) (hb:σ φb=some ⟨0,1,[[y]]⟩):
  CallsDIn (FR none) 0 TP 118 #[v2,v3] (.panicking [{v:= .iface 154 (.agg #[.int .i64 c]),recovered:=false}]) w fun e u' w'=>(∃t,e= .returned t)∧settle u'= .returning∧
   ∃κ',Stp κ σ w κ' ((σ.set φa ⟨0,1,[[.val (.slice none 0 0)]]⟩).set φb ⟨0,1,[[.val (.int .i64 c)]]⟩) w':=by
 refine callsDIn_of_wpSIn Tryz.func118 rfl trivial fun c₀ cs hu=>?_
 apply wpSIn_seq
 apply wpSIn_region
 simp[wpOpsSIn,go_sem,recoverD,hu,Tryz.ntmps118,Exit.thenS,QzL,Qu0];obtain ⟨φ5,h50,h51⟩:=hr.newId;obtain ⟨κ1,hs1,hv5⟩:=Stp.newVar hr h51 154 (xs:=[.val (.int .i64 c)]) (vs:=[.int .i64 c]) (VRs.cons (.val _) (.nil _));have n5a:φa≠φ5:=by rintro rfl;rw[ha] at h50;cases h50
 have n5b:φb≠φ5:=by rintro rfl;rw[hb] at h50;cases h50
 generalize htm:(#[v2,v3]++_:Array Value)=tm;have htt:tm=#[v2,v3,.pointer (some ⟨w.heap.size,0,none⟩),.bool true,.tuple #[.agg #[.int .i64 c],.bool true],.iface 154 (.agg #[.int .i64 c]),.tuple #[.agg #[.int .i64 c],.bool true],.agg #[.int .i64 c],.bool true,undef,undef,undef]:=by rw[←htm];simp[Array.replicate,List.replicate]
 have he:EnvR κ1 ([.ptr φa 0 0 0,.ptr φb 0 0 0,.ptr φ5 0 0 0,.val (.bool true)]++List.replicate 8 .any) tm:=by
  have ht:=htt;rw[ht];exact .ofList (VRs.cons (h2.mono hs1.ext) (VRs.cons (h3.mono hs1.ext) (VRs.cons hv5 (VRs.cons (.val _) (VRs.cons (.any _) (VRs.cons (.any _) (VRs.cons (.any _) (VRs.cons (.any _) (VRs.cons (.any _) (VRs.cons (.any _) (VRs.cons (.any _) (VRs.cons (.any _) (.nil _)))))))))))))
 apply wpSIn_seq
 apply wpSIn_region
 simp only[Array.size,List.length_cons,List.length_nil];simp only[List.range,List.range.loop,wpOpsSIn];simp[go_sem,Exit.thenS,Region.wanted];generalize htm2:tm.setIfInBounds 9 _=tm2;have he2:EnvR κ1 (([.ptr φa 0 0 0,.ptr φb 0 0 0,.ptr φ5 0 0 0,.val (.bool true)]++List.replicate 8 .any:List AV).set 9 .any) tm2:=by rw[←htm2];exact he.set 9 (.any _)
 refine wpSIn_cond (t:=true) (by simp only[Act.eval,←htm2,htt];rfl) ?_;rw[if_pos rfl];refine wpSIn_of_wpIn rfl ?_;have hmap:(([.var 0,.var 1,.var 2,.cst (.bool true)]++List.replicate 8 .any:List SV).set 9 .any).map (dv [.ptr φ5 0 0 0,.ptr φb 0 0 0,.ptr φa 0 0 0])=([.ptr φa 0 0 0,.ptr φb 0 0 0,.ptr φ5 0 0 0,.val (.bool true)]++List.replicate 8 .any:List AV).set 9 .any:=rfl;rw[←hmap] at he2;have hden:den TP TT (fun e σ'=>e= .ret (.tup [])∧AH.Sub ((σ.set φa ⟨0,1,[[.val (.slice none 0 0)]]⟩).set φb ⟨0,1,[[.val (.int .i64 c)]]⟩) σ') (ordK x118) [.ptr φ5 0 0 0,.ptr φb 0 0 0,.ptr φa 0 0 0] [] (σ.set φ5 ⟨0,1,[[.val (.int .i64 c)]]⟩):=by
  unfold x118 ordK;simp only[den,di,List.getD_cons_zero,List.getD_cons_succ];refine (?_:og (fldA 0 (.ptr φ5 0 0 0)) fun v=>og (lod v (σ.set φ5 ⟨0,1,[[.val (.int .i64 c)]]⟩)) fun v1=>sto 1 (.ptr φa 0 0 0) nilS (σ.set φ5 ⟨0,1,[[.val (.int .i64 c)]]⟩) fun σ1=>(lod v σ1=some v1∧True)∧sto 1 (.ptr φb 0 0 0) v1 σ1 fun σ2=>True∧aret (.tup []) σ2 fun e σ'=>e= .ret (.tup [])∧AH.Sub ((σ.set φa ⟨0,1,[[.val (.slice none 0 0)]]⟩).set φb ⟨0,1,[[.val (.int .i64 c)]]⟩) σ');have l0:lod (.ptr φ5 0 0 0) (σ.set φ5 ⟨0,1,[[.val (.int .i64 c)]]⟩)=some (.val (.int .i64 c)):=Qz (AH.set_same ..) rfl rfl;simp only[RR,l0];refine Q4 (cs:=[x]) (by rw[AH.set_ne' n5a];exact ha) rfl (by decide) rfl rfl ?_;refine ⟨⟨Qz (F:=⟨0,1,[[.val (.int .i64 c)]]⟩) (by rw[AH.set_ne' (Ne.symm n5a)];exact AH.set_same ..) rfl rfl,trivial⟩,?_⟩;refine Q4 (cs:=[y]) (by rw[AH.set_ne' (Ne.symm hne),AH.set_ne' n5b];exact hb) rfl (by decide) rfl rfl ?_;refine ⟨trivial,Uk (.refl _) ⟨rfl,fun ψ F hF=>?_⟩⟩;by_cases cb:ψ=φb
  ·subst cb;rw[AH.set_same] at hF ⊢;exact hF
  ·rw[AH.set_ne' cb] at hF ⊢;by_cases ca:ψ=φa
   ·subst ca;rw[AH.set_same] at hF ⊢;exact hF
   ·rw[AH.set_ne' ca] at hF ⊢;rw[AH.set_ne' (by rintro rfl;rw[h50] at hF;cases hF)];exact hF
 refine Qty Qg (C:=[0,1,2,3]) (ancs:=[0,1,0,7]) (T:=TT) (K:=fun _ σ'=>∃σ'',Imp (.tup []) σ' (.tup []) σ''∧AH.Sub ((σ.set φa ⟨0,1,[[.val (.slice none 0 0)]]⟩).set φb ⟨0,1,[[.val (.int .i64 c)]]⟩) σ'') (Kp:=fun _ _=>False) (by kernel_rfl) hs1.rel he2 rfl ?_ (fun _ _ _ _ _ _ _ h=>h.elim) (Qg5 (R:=fun e σ'=>e= .ret (.tup [])∧AH.Sub ((σ.set φa ⟨0,1,[[.val (.slice none 0 0)]]⟩).set φb ⟨0,1,[[.val (.int .i64 c)]]⟩) σ') (ks:=[]) (K:=fun _ _ x=>Qlm x) ?_ ?_ [0,1,2,3] [] _ _ ⟨[.ptr φ5 0 0 0,.ptr φb 0 0 0,.ptr φa 0 0 0],(([.var 0,.var 1,.var 2,.cst (.bool true)]++List.replicate 8 .any:List SV).set 9 .any),ordK x118,by kernel_rfl,wf_c.set (s:= .any) 9 True.intro,rfl,hden⟩)
 ·rintro κ' t' σ' a' w' ⟨σ'',hi,hsub⟩ hs he' hd';obtain ⟨κ2,k1,_⟩:=hi κ' w' _ hs.rel (.tup (vs:=[]) rfl fun i hi=>by cases hi);exact ⟨hd',_,rfl,.tuple #[],by simp[results,Tryz.results118],⟨_,rfl⟩,rfl,κ2,(hs1.trans (hs.trans k1)).trans (Stp.sub k1.rel hsub)⟩
 ·rintro a σ' ⟨ρ',t',x',g1,g2,rfl,g3⟩;replace g1:Qlm x'=true:=g1;unfold Qlm at g1;split at g1
  case h_2=>cases g1
  obtain ⟨v',σ'',hi,hv,hsub⟩:=g3;obtain rfl:v'= .tup []:=by injection hv
  exact ⟨σ'',hi,hsub⟩
 ·rintro v σ' ⟨v',σ'',_,h,_⟩;cases h
theorem Qu1:Catch TP 118 154:=⟨⟨_,Tryz.func118,rfl,rfl⟩,QwQ,QtV⟩
theorem QzM (w:World):Sem.run TP (Instr.typeAssert Value.nilIface 20 154 true) w= .ok (.tuple #[.agg #[.int .i64 0],.bool false]) w:=rfl
theorem QzN (c:Int) (w:World):Sem.run TP (Instr.typeAssert (Value.iface 154 (.agg #[.int .i64 c])) 20 154 true) w= .ok (.tuple #[.agg #[.int .i64 c],.bool true]) w:=rfl
theorem Qu2 (w:World):Sem.run TP (zeroValue 154) w= .ok (.agg #[.int .i64 0]) w:=rfl
set_option maxHeartbeats 1000000 in
theorem QwR (v2 v3:Value) (w:World):CallsDIn (FR none) 0 TP 189 #[v2,v3] .returning w fun e u' w'=>(∃t,e= .returned t)∧u'= .returning∧∃o,w'=w.alloc o:=by
 refine callsDIn_of_wpSIn Tryz.func189 rfl trivial fun c₀ cs hu=>?_
 apply wpSIn_seq
 apply wpSIn_region
 simp[wpOpsSIn,go_sem,recoverD,hu,Tryz.ntmps189,Exit.thenS,QzM,Qu2];apply wpSIn_seq;apply wpSIn_region;simp[wpOpsSIn,go_sem,Exit.thenS];refine wpSIn_cond (t:=false) (by simp[Act.eval,Array.replicate]) ?_;simp only[Bool.false_eq_true,if_false];refine wpSIn_of_wpIn rfl (wpIn_skip ?_);cases c₀
 simp_all [bodyPostS,results,Tryz.results189]
 exact ⟨_,rfl⟩
set_option maxHeartbeats 1000000 in
theorem QtW (κ:Kap) (σ:AH) (w:World) (c:Int) (φa φb:Nat) (x y:AV) (v2 v3:Value) (hr:Rel κ σ w) (h2:VR κ (.ptr φa 0 0 0) v2) (h3:VR κ (.ptr φb 0 0 0) v3) (hne:φa≠φb) (ha:σ φa=some ⟨0,1,[[x]]⟩) (hb:σ φb=some ⟨0,1,[[y]]⟩):
  CallsDIn (FR none) 0 TP 189 #[v2,v3] (.panicking [{v:= .iface 154 (.agg #[.int .i64 c]),recovered:=false}]) w fun e u' w'=>(∃t,e= .returned t)∧settle u'= .returning∧
   ∃κ',Stp κ σ w κ' ((σ.set φa ⟨0,1,[[.val (.slice none 0 0)]]⟩).set φb ⟨0,1,[[.val (.int .i64 c)]]⟩) w':=by
 refine callsDIn_of_wpSIn Tryz.func189 rfl trivial fun c₀ cs hu=>?_
 apply wpSIn_seq
 apply wpSIn_region
 simp[wpOpsSIn,go_sem,recoverD,hu,Tryz.ntmps189,Exit.thenS,QzN,Qu2];obtain ⟨φ5,h50,h51⟩:=hr.newId;obtain ⟨κ1,hs1,hv5⟩:=Stp.newVar hr h51 154 (xs:=[.val (.int .i64 c)]) (vs:=[.int .i64 c]) (VRs.cons (.val _) (.nil _));have n5a:φa≠φ5:=by rintro rfl;rw[ha] at h50;cases h50
 have n5b:φb≠φ5:=by rintro rfl;rw[hb] at h50;cases h50
 generalize htm:(#[v2,v3]++_:Array Value)=tm;have htt:tm=#[v2,v3,.pointer (some ⟨w.heap.size,0,none⟩),.bool true,.tuple #[.agg #[.int .i64 c],.bool true],.iface 154 (.agg #[.int .i64 c]),.tuple #[.agg #[.int .i64 c],.bool true],.agg #[.int .i64 c],.bool true,undef,undef,undef]:=by rw[←htm];simp[Array.replicate,List.replicate]
 have he:EnvR κ1 ([.ptr φa 0 0 0,.ptr φb 0 0 0,.ptr φ5 0 0 0,.val (.bool true)]++List.replicate 8 .any) tm:=by
  have ht:=htt;rw[ht];exact .ofList (VRs.cons (h2.mono hs1.ext) (VRs.cons (h3.mono hs1.ext) (VRs.cons hv5 (VRs.cons (.val _) (VRs.cons (.any _) (VRs.cons (.any _) (VRs.cons (.any _) (VRs.cons (.any _) (VRs.cons (.any _) (VRs.cons (.any _) (VRs.cons (.any _) (VRs.cons (.any _) (.nil _)))))))))))))
 apply wpSIn_seq
 apply wpSIn_region
 simp only[Array.size,List.length_cons,List.length_nil];simp only[List.range,List.range.loop,wpOpsSIn];simp[go_sem,Exit.thenS,Region.wanted];generalize htm2:tm.setIfInBounds 9 _=tm2;have he2:EnvR κ1 (([.ptr φa 0 0 0,.ptr φb 0 0 0,.ptr φ5 0 0 0,.val (.bool true)]++List.replicate 8 .any:List AV).set 9 .any) tm2:=by rw[←htm2];exact he.set 9 (.any _)
 refine wpSIn_cond (t:=true) (by simp only[Act.eval,←htm2,htt];rfl) ?_;rw[if_pos rfl];refine wpSIn_of_wpIn rfl ?_;have hmap:(([.var 0,.var 1,.var 2,.cst (.bool true)]++List.replicate 8 .any:List SV).set 9 .any).map (dv [.ptr φ5 0 0 0,.ptr φb 0 0 0,.ptr φa 0 0 0])=([.ptr φa 0 0 0,.ptr φb 0 0 0,.ptr φ5 0 0 0,.val (.bool true)]++List.replicate 8 .any:List AV).set 9 .any:=rfl;rw[←hmap] at he2;have hden:den TP TT (fun e σ'=>e= .ret (.tup [])∧AH.Sub ((σ.set φa ⟨0,1,[[.val (.slice none 0 0)]]⟩).set φb ⟨0,1,[[.val (.int .i64 c)]]⟩) σ') (ordK x189) [.ptr φ5 0 0 0,.ptr φb 0 0 0,.ptr φa 0 0 0] [] (σ.set φ5 ⟨0,1,[[.val (.int .i64 c)]]⟩):=by
  unfold x189 ordK;simp only[den,di,List.getD_cons_zero,List.getD_cons_succ];refine (?_:og (fldA 0 (.ptr φ5 0 0 0)) fun v=>og (lod v (σ.set φ5 ⟨0,1,[[.val (.int .i64 c)]]⟩)) fun v1=>sto 1 (.ptr φa 0 0 0) nilS (σ.set φ5 ⟨0,1,[[.val (.int .i64 c)]]⟩) fun σ1=>(lod v σ1=some v1∧True)∧sto 1 (.ptr φb 0 0 0) v1 σ1 fun σ2=>True∧aret (.tup []) σ2 fun e σ'=>e= .ret (.tup [])∧AH.Sub ((σ.set φa ⟨0,1,[[.val (.slice none 0 0)]]⟩).set φb ⟨0,1,[[.val (.int .i64 c)]]⟩) σ');have l0:lod (.ptr φ5 0 0 0) (σ.set φ5 ⟨0,1,[[.val (.int .i64 c)]]⟩)=some (.val (.int .i64 c)):=Qz (AH.set_same ..) rfl rfl;simp only[RR,l0];refine Q4 (cs:=[x]) (by rw[AH.set_ne' n5a];exact ha) rfl (by decide) rfl rfl ?_;refine ⟨⟨Qz (F:=⟨0,1,[[.val (.int .i64 c)]]⟩) (by rw[AH.set_ne' (Ne.symm n5a)];exact AH.set_same ..) rfl rfl,trivial⟩,?_⟩;refine Q4 (cs:=[y]) (by rw[AH.set_ne' (Ne.symm hne),AH.set_ne' n5b];exact hb) rfl (by decide) rfl rfl ?_;refine ⟨trivial,Uk (.refl _) ⟨rfl,fun ψ F hF=>?_⟩⟩;by_cases cb:ψ=φb
  ·subst cb;rw[AH.set_same] at hF ⊢;exact hF
  ·rw[AH.set_ne' cb] at hF ⊢;by_cases ca:ψ=φa
   ·subst ca;rw[AH.set_same] at hF ⊢;exact hF
   ·rw[AH.set_ne' ca] at hF ⊢;rw[AH.set_ne' (by rintro rfl;rw[h50] at hF;cases hF)];exact hF
 refine Qty Qg (C:=[0,1,2,3]) (ancs:=[0,1,0,7]) (T:=TT) (K:=fun _ σ'=>∃σ'',Imp (.tup []) σ' (.tup []) σ''∧AH.Sub ((σ.set φa ⟨0,1,[[.val (.slice none 0 0)]]⟩).set φb ⟨0,1,[[.val (.int .i64 c)]]⟩) σ'') (Kp:=fun _ _=>False) (by kernel_rfl) hs1.rel he2 rfl ?_ (fun _ _ _ _ _ _ _ h=>h.elim) (Qg5 (R:=fun e σ'=>e= .ret (.tup [])∧AH.Sub ((σ.set φa ⟨0,1,[[.val (.slice none 0 0)]]⟩).set φb ⟨0,1,[[.val (.int .i64 c)]]⟩) σ') (ks:=[]) (K:=fun _ _ x=>Qlm x) ?_ ?_ [0,1,2,3] [] _ _ ⟨[.ptr φ5 0 0 0,.ptr φb 0 0 0,.ptr φa 0 0 0],(([.var 0,.var 1,.var 2,.cst (.bool true)]++List.replicate 8 .any:List SV).set 9 .any),ordK x189,by kernel_rfl,wf_c.set (s:= .any) 9 True.intro,rfl,hden⟩)
 ·rintro κ' t' σ' a' w' ⟨σ'',hi,hsub⟩ hs he' hd';obtain ⟨κ2,k1,_⟩:=hi κ' w' _ hs.rel (.tup (vs:=[]) rfl fun i hi=>by cases hi);exact ⟨hd',_,rfl,.tuple #[],by simp[results,Tryz.results189],⟨_,rfl⟩,rfl,κ2,(hs1.trans (hs.trans k1)).trans (Stp.sub k1.rel hsub)⟩
 ·rintro a σ' ⟨ρ',t',x',g1,g2,rfl,g3⟩;replace g1:Qlm x'=true:=g1;unfold Qlm at g1;split at g1
  case h_2=>cases g1
  obtain ⟨v',σ'',hi,hv,hsub⟩:=g3;obtain rfl:v'= .tup []:=by injection hv
  exact ⟨σ'',hi,hsub⟩
 ·rintro v σ' ⟨v',σ'',_,h,_⟩;cases h
theorem Qu3:Catch TP 189 154:=⟨⟨_,Tryz.func189,rfl,rfl⟩,QwR,QtW⟩
end
section
set_option maxRecDepth 100000
def QcA (cs:List Cor) (i x:Nat):List Nat:=(List.range i).filter fun j=>decide ((Qj cs j).parent=(x:Int))
theorem Qda (cs:List Cor) (i x:Nat):QcA cs (i+1) x=QcA cs i x++(if (Qj cs i).parent=(x:Int) then [i] else []):=by
 unfold QcA;rw[List.range_succ,List.filter_append]
 congr 1
 by_cases c:(Qj cs i).parent=(x:Int)<;>simp[c]
theorem Qqm (cs:List Cor) (i x:Nat):(QcA cs i x).length≤i:=by
 unfold QcA;exact Nat.le_trans (List.length_filter_le _ _) (by simp)
theorem QtX {X:Type} (n p:Nat) (f g:Nat→X) (h:X→X) (hp:∀q,q<n→g q=if p=q then h (f q) else f q):((List.range n).map f).modify p h=(List.range n).map g:=by
 apply List.ext_getElem (by simp)
 intro k h1 h2;have hk:k<n:=by simpa using h2
 simp only[List.getElem_modify,List.getElem_map,List.getElem_range,hp k hk]
variable [L:Lam] {σ τ τ':AH} {R:AEnd→AH→Prop}
theorem QrU {x:AV} {xs:List AV} {k:AV→AH→Prop} (hx:JF x=some xs) (h:∀φ,σ φ=none→k (.ptr φ 0 0 0) (σ.set φ ⟨0,xs.length,[xs]⟩)):abox x σ k:=by
 unfold abox;rw[hx];exact h
abbrev rowK (_:List Nat) (a:AV):List AV:=[a]
abbrev innK (l:List Nat):List (List AV):=l.map fun k:Nat=>[iv (k:Int)]
theorem QsD {cs:List Cor} (hl:cs.length≤1000000) (hp:∀i,i<cs.length→ -1≤(Qj cs i).parent∧(Qj cs i).parent<i) (h:R (.ret (roKK cs)) σ):acall TP QeR [roC cs] σ R:=by
 refine Qpi ?_;unfold x119;dsimp only[den,dE,di,tupL,lTup,den2,den3,den4,dwat,Qf,List.map,den0,den1];simp only[QA,RR];refine QAE (by omega) (by omega) (by omega) fun φ hφ=>?_
 simp only[Int.toNat_natCast];have h0:N2 rowK 1 innK 1 σ (σ.set φ ⟨0,1,List.replicate cs.length [nilS]⟩) (.own φ 0 0 cs.length) (List.replicate cs.length ([],nilS)):=by
  refine ⟨.inr ⟨φ,0,by simp,by rw[AH.set_same];simp⟩,fun p hp=>?_,?_,fun ψ hψ=>?_,.set (.refl σ) _ hφ⟩
  ·obtain rfl:=List.eq_of_mem_replicate hp;exact nilB
  ·have:l2F (List.replicate cs.length (([]:List Nat),nilS))=[]:=by
    unfold l2F;rw[List.flatMap_eq_nil_iff];intro p hp;obtain rfl:=List.eq_of_mem_replicate hp;rfl
   rw[this];simp[famL]
  ·have:l2F (List.replicate cs.length (([]:List Nat),nilS))=[]:=by
    unfold l2F;rw[List.flatMap_eq_nil_iff];intro p hp;obtain rfl:=List.eq_of_mem_replicate hp;rfl
   rw[this] at hψ;simp[famL] at hψ;subst hψ;exact hφ
 refine Ua cs.length (fun i x τ=>∃bs,x=(.own φ 0 0 cs.length,roC cs,iv (cs.length:Int),iv (i:Int),())∧N2 rowK 1 innK 1 σ τ (.own φ 0 0 cs.length) bs∧bs.map (·.1)=(List.range cs.length).map (QcA cs i)) ⟨_,rfl,h0,?_⟩ ?_
 ·apply List.ext_getElem (by simp)
  intro k h1 h2;simp[QcA]
 rintro i _ τ hi ⟨bs,rfl,hN,hbs⟩ R' hR';have hbl:bs.length=cs.length:=by have:=congrArg List.length hbs;simpa using this
 by_cases hlt:i<cs.length
 ·have g:(i:Int)<(cs.length:Int):=by omega
  simp only[g,Qq hlt UJ,QcX hlt,Qu (UJ _),RR];refine QtF rfl ?_;have l1:∀τ,lod (.rop (Qs (Qj cs i)) 1) τ=some (iv (Qj cs i).parent):=fun _=>rfl
  simp only[l1,jn,RR];obtain ⟨p1,p2⟩:=hp i hlt;by_cases c0:0≤(Qj cs i).parent
  ·simp only[c0,RR];obtain ⟨p,hpp⟩:∃p:Nat,(Qj cs i).parent=(p:Int):=⟨(Qj cs i).parent.toNat,by omega⟩;rw[hpp];have hpl:p<bs.length:=by omega
   obtain ⟨A,q,C,rfl,hA⟩:=QkU hpl;obtain ⟨φ',st',e',hF⟩:=hN.own (by simp);obtain ⟨rfl,rfl,_⟩:φ=φ'∧0=st'∧True:=by injection e' with a b;exact ⟨a,b,trivial⟩
   rw[hbl] at e';have ix:∀τ1:AH,τ1 φ=some ⟨0,1,(A++q::C).map fun p=>rowK p.1 p.2⟩→idx 1 (.own φ 0 0 cs.length) (iv (p:Int)) τ1=some (.ptr φ 0 p 0):=fun τ1 hF1=>by
    have:=Jg (st:=0) (off:=0) hF1 (show p<cs.length by omega)
    rwa [Nat.zero_add] at this
   have el:lod (.ptr φ 0 p 0) τ=some q.2:=Qz hF rfl (by subst hA;simp[List.getD]);simp only[ix τ hF,el,RR];rw[lit1 (sz:=1) (row:=[iv (i:Int)]) rfl rfl (by omega)];simp only[RR];have hq1:q.1=QcA cs i p:=by
    have:=congrArg (fun l=>l[p]?) hbs;subst hA;simp at this;have h2:A.length<cs.length:=by omega
    simpa[h2] using this
   have hb:Buf τ 1 q.2 (innK q.1):=hN.ins q (by simp);have hql:q.1.length≤i:=by rw[hq1];exact Qqm cs i p
   have hφφ:φ∉famL q.2:=fun c=>(Qo.1 hN.nd).2.2 φ (by simp[famL]) (U0 (by simp) c)
   refine Ui hb (xs:=[[iv (i:Int)]]) rfl (by intro c hc;obtain rfl:=List.mem_singleton.1 hc;rfl) (by intro c hc y hy;obtain rfl:=List.mem_singleton.1 hc;obtain rfl:=List.mem_singleton.1 hy;rfl) (by simp;omega) fun w' τ1 hB hK hfam=>?_
   have hF1:τ1 φ=some ⟨0,1,(A++q::C).map fun p=>rowK p.1 p.2⟩:=by rw[hK φ hφφ (by rw[hF];simp)];exact hF
   refine ⟨⟨trivial,trivial⟩,?_⟩;simp only[ix τ1 hF1,RR];have hB':Buf τ1 1 w' (innK (q.1++[i])):=by simpa[innK] using hB
   have hle:(A++q::C).length=cs.length:=hbl;rw[←hle,←hA];refine (hle▸hN:N2 rowK 1 innK 1 σ τ (.own φ 0 0 (A++q::C).length) (A++q::C)).repl (x':=q.1++[i]) rfl hB' (by omega) rfl hK hfam fun τ2 hN2 _=>?_
   simp only[Qh hlt (by omega),RR,true_and];rw[hle] at hN2 ⊢;refine hR' _ _ _ hlt (.refl _) ⟨_,rfl,hN2,?_⟩;have e1:=Qgv (A.map (·.1)) (C.map (·.1)) q.1 (fun l:List Nat=>l++[i])
   rw[List.map_append,List.map_cons,←e1,List.length_map,←List.map_cons (f:=(·.1)) (a:=q),←List.map_append,hbs]
   refine QtX _ _ _ _ _ fun x hx=>?_
   rw[Qda,hpp,hA];by_cases c:p=x
   ·subst c;simp
   ·have:¬(p:Int)=(x:Int):=by omega
    simp[c,this]
  ·simp only[c0,Qh hlt (by omega),RR];refine hR' _ _ _ hlt (.refl _) ⟨bs,rfl,hN,?_⟩;rw[hbs];refine List.map_congr_left fun x _=>?_
   rw[Qda,if_neg (by omega),List.append_nil]
 ·have g:¬(i:Int)<(cs.length:Int):=by omega
  obtain rfl:i=cs.length:=by omega
  simp only[g,RR];have hz:=hN.fz (fun _ _=>rfl) (fun x c hc=>by obtain ⟨o,_,rfl⟩:=List.mem_map.1 hc;rfl) (fun _ _ _=>trivial) (fun x a b j hf=>by
   match j with
   |0=>exact hf
   |j+1=>exact .same _)
  refine QW hN.sub hz ?_;have e:(bs.map fun p=>rowK p.1 (.ro (innK p.1)))=(allK cs).map encK:=by
   have e2:(bs.map fun p=>rowK p.1 (.ro (innK p.1)))=(bs.map (·.1)).map encK:=by simp[encK]
   rw[e2,hbs];rfl
  rw[e];exact h
def toBk (B:St):List Blk:=B.map fun p=>⟨p.1,p.2⟩
def fin0 (cs:List Cor):St:=mkC cs cs.length 0 0 true [(0,[])]
set_option maxHeartbeats 1000000 in
theorem Qou {cs:List Cor} (hw:WfC cs) (hbd:∀i,(Qj cs i).data.length≤1048576) (h1:fits (fin0 cs)→∀v B τ,cont B=toBk (fin0 cs)→NewB σ τ v B→R (.ret (.tup [v,iv 0])) τ)
  (h2:¬fits (fin0 cs)→∀τ,AH.Sub σ τ→R (.ret (.tup [nilS,iv 2])) τ):acall TP QeN [roC cs] σ R:=by
 refine Qkj (tF:=Qhs) Qu1 fun φa φb hφa hφb=>?_
 unfold Qgf;have hs1:AH.Sub σ ((σ.set φa ⟨0,1,[[.val (.slice none 0 0)]]⟩).set φb ⟨0,1,[[.val (.int .i64 0)]]⟩):=(AH.Sub.set (.refl σ) _ hφa).trans (.set (.refl _) _ hφb);have hne:φa≠φb:=by rintro rfl;rw[AH.set_same] at hφb;cases hφb
 have hFa:((σ.set φa ⟨0,1,[[.val (.slice none 0 0)]]⟩).set φb ⟨0,1,[[.val (.int .i64 0)]]⟩) φa=some ⟨0,1,[[.val (.slice none 0 0)]]⟩:=by rw[AH.set_ne' hne,AH.set_same]
 have hFb:((σ.set φa ⟨0,1,[[.val (.slice none 0 0)]]⟩).set φb ⟨0,1,[[.val (.int .i64 0)]]⟩) φb=some ⟨0,1,[[.val (.int .i64 0)]]⟩:=AH.set_same ..;generalize (σ.set φa ⟨0,1,[[.val (.slice none 0 0)]]⟩).set φb ⟨0,1,[[.val (.int .i64 0)]]⟩=σ1 at*;have hl:=hw.len;refine QsD (by omega) (fun i hi=>?_) ?_
 ·rcases Nat.eq_zero_or_pos i with c|c
  ·subst c;rw[hw.top];omega
  ·have:=hw.par i c hi;omega
 have eb:bld [nilS,nilS,nilS] [(0,1),(1,1),(2,1)] [(0,roC cs),(1,roKK cs)]=some (.agg [roC cs,roKK cs,nilS]):=rfl;simp only[eb,RR];refine QrU rfl fun φm hφm=>?_
 have hS0:CSt (preI cs) σ1 (σ1.set φm ⟨0,3,[[roC cs,roKK cs,nilS]]⟩) φm []:=⟨⟨nilS,[],AH.set_same ..,N2.nil (.set (.refl _) _ hφm),rfl,by simp[famL,l2F]⟩,hφm⟩;have hpan:¬fits (fin0 cs)→Qeg (preI cs) σ1 φm (RD φa φb Qhs R):=fun c τ' B' S'=>⟨2,_,_,rfl,S'.sub _ _ hFa,S'.sub _ _ hFb,h2 c _ fun ψ F hF=>by
  rw[AH.set_ne' (by rintro rfl;rw[AH.set_none] at hφb;rw[hφb.2] at hF;cases hF),AH.set_ne' (by rintro rfl;rw[hφa] at hF;cases hF)];exact S'.sub _ _ (hs1 _ _ hF)⟩
 refine QkV rfl hS0 (by simp) (fun _ τ1 S1=>?_) (fun c=>absurd (by simp) c);simp only[RR];refine QwP hw cs.length 0 0 true [(0,[])] τ1 _ (by omega) (by omega) (by simp) S1 ⟨by simp,fun i hi=>by simp at hi;subst hi;simp[Qd]⟩ (fun fD τ2 S2=>?_) fun c=>Jm (hpan c)
 change fits (fin0 cs) at fD;change CSt (preI cs) σ1 τ2 φm (fin0 cs) at S2;simp only[RR];refine ⟨_,σ1,S2.sub,S2.fz rfl,?_⟩;have e2:∀τ,lod (.rop (preI cs++[roBk (toBk (fin0 cs))]) 2) τ=some (roBk (toBk (fin0 cs))):=fun _=>rfl
 simp only[e2,RR];have hAll:AllO (fun o=>o.data.length≤1048576) (fin0 cs):=Qs1 ⟨fun o _ h=>by rw[h];simp,fun k i=>by simp[ocN],fun i=>hbd i,fun o a h=>h⟩ _ _ _ _ _ (fun p hp q hq=>by simp at hp;subst hp;cases hq);refine Qbg (by have:=fD.1;simp only[toBk,List.length_map];omega) (fun b hb=>?_) fun v B τ3 hcB hN=>?_
 ·obtain ⟨p,hp,rfl⟩:=List.mem_map.1 hb;refine ⟨?_,fun o ho=>hAll p hp o ho⟩;obtain ⟨k,hk,rfl⟩:=List.mem_iff_getElem.1 hp;have:=fD.2 k hk;unfold Qd at this;rw[show (fin0 cs).getD k (0,[])=(fin0 cs)[k] by simp[List.getD,hk]] at this;show (fin0 cs)[k].2.length≤_;omega
 simp only[RR];have hφaF:φa∉Jz v B:=fun c=>by have:=hN.fr φa c;rw[hFa] at this;cases this
 have hφbF:φb∉Jz v B:=fun c=>by have:=hN.fr φb c;rw[hFb] at this;cases this
 refine Q4 (cs:=[.val (.slice none 0 0)]) (hN.sub _ _ hFa) rfl (by decide) (JO hN.one) hN.one ?_;refine Q4 (cs:=[.val (.int .i64 0)]) (by rw[AH.set_ne' (Ne.symm hne)];exact hN.sub _ _ hFb) rfl (by decide) rfl rfl ?_;have la:lod (.ptr φa 0 0 0) ((τ3.set φa ⟨0,1,[[v]]⟩).set φb ⟨0,1,[[.val (.int .i64 0)]]⟩)=some v:=Qz (i:=0) (by rw[AH.set_ne' hne];exact AH.set_same ..) rfl rfl;have lb:lod (.ptr φb 0 0 0) ((τ3.set φa ⟨0,1,[[v]]⟩).set φb ⟨0,1,[[.val (.int .i64 0)]]⟩)=some (iv 0):=Qz (i:=0) (AH.set_same ..) rfl rfl;show og (lod (.ptr φa 0 0 0) ((τ3.set φa ⟨0,1,[[v]]⟩).set φb ⟨0,1,[[.val (.int .i64 0)]]⟩)) _;rw[la];show og (lod (.ptr φb 0 0 0) ((τ3.set φa ⟨0,1,[[v]]⟩).set φb ⟨0,1,[[.val (.int .i64 0)]]⟩)) _;rw[lb];refine Qa (h1 fD v B _ hcB ⟨hN.own.keep fun ψ hψ=>?_,hN.nd,fun ψ hψ=>hs1.none (hN.fr ψ hψ),fun ψ F hF=>?_⟩)
 ·rw[AH.set_ne' (by rintro rfl;exact hφbF hψ),AH.set_ne' (by rintro rfl;exact hφaF hψ)]
 ·rw[AH.set_ne' (by rintro rfl;rw[AH.set_none] at hφb;rw[hφb.2] at hF;cases hF),AH.set_ne' (by rintro rfl;rw[hφa] at hF;cases hF)];exact hN.sub _ _ (hs1 _ _ hF)
end
section
set_option maxRecDepth 100000
def hop (os:List OpD):Nat→Nat→Nat
 |0,t=>t
 |n+1,t=>if (opA os t).kind=5 then hop os n (opA os t).a.toNat else t
def J8 (os:List OpD) (o:OpD):OpD:=if o.kind=5∨o.kind=6 then {o with a:=(hop os os.length o.a.toNat:Int)} else o
def Qln (os:List OpD) (o:OpD):OpD:=if o.kind=5∧(opA os o.a.toNat).kind=12 then oc0 12 else o
def QbF (os:List OpD):List OpD:=os.map fun o=>Qln os (J8 os o)
def Qeh (b:Blk):Blk:=⟨b.args,QbF b.ops⟩
structure FwO (os:List OpD):Prop where
 jump:∀k,k<os.length→jmp (opA os k)→(k:Int)<(opA os k).a∧(opA os k).a<(os.length:Int)
 sm:smB os
 kind:∀o,o∈os→o.kind≤12
 len:os.length≤200
theorem Qu4 {os:List OpD} (h:FwO os):∀n t,t<os.length→t≤hop os n t∧hop os n t<os.length:=by
 intro n
 induction n with
 |zero=>intro t ht;exact ⟨Nat.le_refl _,ht⟩
 |succ n ih=>
  intro t ht;rw[hop];split
  ·rename_i c;have h1:=h.jump t ht (.inl c);have h2:=ih (opA os t).a.toNat (by omega);omega
  ·exact ⟨Nat.le_refl _,ht⟩
theorem QkW (os:List OpD):(QbF os).length=os.length:=by simp[QbF]
theorem QBF (k:Int):smO (oc0 k):=⟨Int.le_refl 0,by show (0:Int)≤999;omega,Int.le_refl 0,by show (0:Int)≤999;omega,Int.le_refl 0,by show (0:Int)≤999;omega,Int.le_refl 0,by show (0:Int)≤999;omega⟩
variable [L:Lam]
theorem Qs7 {os:List OpD} {o:OpD} (h:o∈os):∃k,k<os.length∧opA os k=o:=by
 obtain ⟨k,hk,rfl⟩:=List.mem_iff_getElem.1 h;exact ⟨k,hk,(QaY hk).symm⟩
theorem Qnk {os:List OpD} (h:FwO os) {o:OpD} (ho:o∈os):smO (J8 os o)∧(J8 os o).kind=o.kind∧tgtN (J8 os o)<(os.length:Int)∧(o.kind=5∨o.kind=6→0≤(J8 os o).a∧(J8 os o).a<(os.length:Int)):=by
 obtain ⟨k,hk,rfl⟩:=Qs7 ho;have hl:=h.len;have hs:=h.sm _ ho;have hkd:=h.kind _ ho;by_cases c:(opA os k).kind=5∨(opA os k).kind=6
 ·have h1:=h.jump k hk c;have h2:=Qu4 h os.length (opA os k).a.toNat (by omega);have e:J8 os (opA os k)={opA os k with a:=(hop os os.length (opA os k).a.toNat:Int)}:=by unfold J8;rw[if_pos c]
  rw[e];obtain ⟨-, -,s3⟩:=hs;refine ⟨⟨by show (0:Int)≤(hop os os.length (opA os k).a.toNat:Int);omega,by show (hop os os.length (opA os k).a.toNat:Int)≤999;omega,s3⟩,rfl,?_,fun _=>⟨by show (0:Int)≤(hop os os.length (opA os k).a.toNat:Int);omega,by show (hop os os.length (opA os k).a.toNat:Int)<_;omega⟩⟩;unfold tgtN;rw[if_pos c];show (hop os os.length (opA os k).a.toNat:Int)<_;omega
 ·have e:J8 os (opA os k)=opA os k:=by unfold J8;rw[if_neg c]
  rw[e];refine ⟨hs,rfl,?_,fun d=>absurd d c⟩;unfold tgtN;rw[if_neg c,if_neg (by omega)];omega
theorem QwS {os:List OpD} (h:FwO os):smB (QbF os)∧∀o,o∈QbF os→tgtN o<((QbF os).length:Int):=by
 have key:∀o,o∈QbF os→smO o∧tgtN o<((QbF os).length:Int):=fun o ho=>by
  obtain ⟨p,hp,rfl⟩:=List.mem_map.1 ho;obtain ⟨h1,h2,h3, -⟩:=Qnk h hp;rw[QkW];unfold Qln;split
  ·refine ⟨QBF 12,?_⟩;show (-1:Int)<_;omega
  ·exact ⟨h1,h3⟩
 exact ⟨fun o ho=>(key o ho).1,fun o ho=>(key o ho).2⟩
theorem FwO.tgt {os:List OpD} (h:FwO os):∀o,o∈os→tgtN o<(os.length:Int):=fun o ho=>by
 obtain ⟨k,hk,rfl⟩:=Qs7 ho;have hkd:=h.kind _ ho;unfold tgtN;split
 ·rename_i c;exact (h.jump k hk c).2
 ·rw[if_neg (by omega)];omega
def FwC (bs:List Blk):Prop:=bs.length≤60∧∀b,b∈bs→FwO b.ops
theorem FwC.fok {bs:List Blk} (h:FwC bs):FOk bs:=⟨h.1,fun b hb=>⟨(h.2 b hb).sm,(h.2 b hb).len,(h.2 b hb).tgt⟩⟩
theorem FwC.peep {bs:List Blk} (h:FwC bs):FOk (bs.map Qeh):=by
 refine ⟨by rw[List.length_map];exact h.1,fun b hb=>?_⟩;obtain ⟨p,hp,rfl⟩:=List.mem_map.1 hb;have:=QwS (h.2 p hp);refine ⟨this.1,?_,this.2⟩;show (QbF p.ops).length≤200;rw[QkW];exact (h.2 p hp).len
theorem QBG {B:St} (hf:fits B) (h:∀j k,j<B.length→k<Qd B j→OpK B.length (Qd B j) k true (opAt B j k)):FwC (toBk B):=by
 have key:=QzE hf.1 hf.2 h;refine ⟨by simpa[toBk] using hf.1,fun b hb=>?_⟩;obtain ⟨p,hp,rfl⟩:=List.mem_map.1 hb;obtain ⟨h1,h2,h3⟩:=key p hp;refine ⟨h1,fun o ho=>?_,fun o ho=>(h2 o ho).2.2.2.2.2,h3⟩;obtain ⟨a,b,c,d, -⟩:=h2 o ho;unfold smO;rw[c,d];omega
end
section
set_option maxRecDepth 100000
variable [L:Lam] {σ τ τ':AH} {R:AEnd→AH→Prop}
set_option maxHeartbeats 4000000 in
theorem QpF {σ1:AH} {φ st i:Nat} {F:Fam} {n tab:Int} {av:AV} {its:Its} {os:List OpD} (h0:0≤tab) (h1:tab≤15) (hF:τ φ=some F) (hst:F.st=st) (hsz:F.sz=2) (hr:F.es[i]? =some [iv n,av]) (hH:OpsH τ av its) (hbo:its.map (·.1)=os) (hol:os.length≤200) (hsm:smB os) (htg:∀o,o∈os→tgtN o<os.length)
  (hbase:AH.Sub σ1 τ) (hitf:∀ψ,ψ∈itsF its→σ1 ψ=none) (hitn:(itsF its).Nodup)
  (h:∀w τ',OpsH τ' w ((Q7 tab (isT os) 0 its).map (QQ (plF tab (isT os) (fun m=>m) 0 0 os)))→AH.Sub τ τ'→(∀ψ,ψ∈famL w→τ ψ=none)→R (.ret w) τ'):acall TP QfW [.ptr φ st i 0,iv tab] τ R:=by
 have hrg:F.es.getD i []=[iv n,av]:=by simp[List.getD,hr]
 have hbl:its.length=os.length:=by rw[←hbo];simp
 have hitl:∀ψ,ψ∈itsF its→τ ψ≠none:=fun ψ hψ=>JV (hH.2.live hψ)
 have el:∀τ2,AH.Sub τ τ2→lod (.ptr φ st i 1) τ2=some av:=fun τ2 hs=>Qz (hs _ _ hF) hst (by rw[hrg];rfl)
 refine QlG ?_;unfold x84;dsimp only[den,dE,di,tupL,lTup,den2,den3,den4,dwat,Qf,List.map,den0,den1];refine bsl0 ?_;refine bsl0 ?_;refine QF (fun n x τ'=>∃(pre rest W:Its) (xs:List Int) (w u:AV),its=pre++rest∧rest.length=n∧x=(.ptr φ st i 0,iv tab,w,u,iv (pre.length:Int),())∧
   NewO σ1 τ' w W∧W++Q7 tab (isT os) pre.length rest=Q7 tab (isT os) 0 its∧W.length≤pre.length∧xs++plF tab (isT os) (fun m=>m) pre.length (W.length:Int) (rest.map (·.1))=plF tab (isT os) (fun m=>m) 0 0 os∧xs.length=pre.length∧
   Buf τ' 1 u (ivs xs)∧AH.Sub τ τ'∧(∀ψ,ψ∈famL w→τ ψ=none)∧(∀ψ,ψ∈famL u→τ ψ=none)∧∀ψ,ψ∈famL w→ψ∉famL u) its.length
  ⟨[],its,[],[],.emp,.emp,rfl,rfl,rfl,.emp hbase,rfl,Nat.le_refl _,by rw[hbo];rfl,rfl,.inl ⟨.inr rfl,rfl⟩,.refl τ,(fun ψ c=>by cases c),(fun ψ c=>by cases c),fun ψ c=>by cases c⟩ ?_
 rintro n0 x τ1 ⟨pre,rest,W,xs,w,u,hit,hrl,rfl,hO,hfu,hWl,hpl,hxl,hU1,hsub,hwf,huf,hwu⟩ R2 hR2;have hn:its.length=pre.length+rest.length:=by rw[hit];simp
 have hlw:=Jj hO.own.1;rw[List.length_map] at hlw;have hbH1:OpsH τ1 av its:=(Kp.of_sub (F:=[]) hsub).ops hH fun _ _ c=>by cases c
 have hlb:=Jj hbH1.1;rw[show (its.map fun p=>Qn p.1 p.2).length=its.length by simp] at hlb;have el1:=el τ1 hsub;simp only[el1,hlb,RR];cases rest with
 |nil=>
  have g2:¬(pre.length:Int)<(its.length:Int):=by rw[hn];simp
  simp only[g2,RR];have hW:W=Q7 tab (isT os) 0 its:=by rw[←hfu];simp[Q7]
  have hX:xs=plF tab (isT os) (fun m=>m) 0 0 os:=by rw[←hpl];simp[plF]
  have hWs:W.map (·.1)=UL tab (isT os) 0 os:=by rw[hW,QkS tab _ its.length 0 its (Nat.le_refl _),hbo]
  have hxl2:xs.length=os.length:=by rw[hX];exact Qs6 tab _ _ os.length 0 0 _ (Nat.le_refl _)
  refine QpE hO.own.1 hU1 hwu (fun p hpm=>?_) (by omega) fun τ4 hB4 hK4=>?_
  ·have hm:p.1∈UL tab (isT os) 0 os:=by rw[←hWs];exact List.mem_map.2 ⟨p,hpm,rfl⟩
   obtain ⟨s1,s2,s3,_⟩:=Qni tab (isT os) os.length os.length 0 _ (Nat.le_refl _) hsm htg _ hm;rw[hxl2];exact ⟨s1,s2,s3⟩
  obtain ⟨_,_,hn3⟩:=Qo.1 hO.nd;simp only[RR];rw[←hW,←hX] at h;refine Qa (h w τ4 ⟨hB4,Qqj (hO.own.2.keep fun ψ hψ=>hK4 ψ fun c=>hn3 ψ c hψ)⟩ (fun ψ G hG=>?_) hwf);rw[hK4 ψ fun c=>by rw[hwf ψ c] at hG;cases hG];exact hsub _ _ hG
 |cons p r=>
  have g2:(pre.length:Int)<(its.length:Int):=by rw[hn];simp;omega
  have hpk:pre.length<its.length:=by omega
  have hpat:its[pre.length]=p:=by simp[hit]
  have hpm:p∈its:=by rw[hit];simp
  have hpD:Buf τ 4 p.2 (p.1.data.map Qc):=hH.2 p hpm;have hp1:p.2.one=true:=hpD.av1;have hpF:∀ψ,ψ∈famL p.2→ψ∈itsF its:=fun ψ hψ=>List.mem_flatMap.2 ⟨p,hpm,hψ⟩
  simp only[jn,g2,hlw,RR];refine QrO (row:=[iv (W.length:Int)]) hU1 rfl rfl (fun y hy=>by rw[List.mem_singleton.1 hy];rfl) (by omega) (by simp;omega) fun u2 τ2 hU2 hK2 hf2=>?_
  have hU2:Buf τ2 1 u2 (ivs (xs++[(W.length:Int)])):=by rw[ivs,List.map_append];exact hU2
  have hsub2:AH.Sub τ τ2:=hK2.sub hsub huf;have hWsub:(itsF (W++Q7 tab (isT os) pre.length (p::r))).Sublist (itsF its):=by rw[hfu];exact Qgu tab _ its.length 0 its (Nat.le_refl _)
  have hWin:∀ψ,ψ∈itsF W→ψ∈itsF its:=fun ψ hψ=>hWsub.subset (by rw[J6];exact List.mem_append_left _ hψ)
  have hWnd:(itsF W++itsF (Q7 tab (isT os) pre.length (p::r))).Nodup:=by rw[←J6];exact hitn.sublist hWsub
  have hO2:NewO σ1 τ2 w W:=hO.kp hK2 (fun ψ hψ c=>by
   rcases List.mem_append.1 hψ with d|d
   ·exact hwu ψ d c
   ·exact hitl ψ (hWin ψ d) (huf ψ c)) fun ψ hψ=>hbase.none (huf ψ hψ)
  have hu2f:∀ψ,ψ∈famL u2→τ ψ=none:=fun ψ hψ=>by
   rcases hf2 ψ hψ with d|d
   ·exact huf ψ d
   ·exact hsub.none d
  have hwu2:∀ψ,ψ∈famL w→ψ∉famL u2:=fun ψ hψ c=>by
   rcases hf2 ψ c with d|d
   ·exact hwu ψ hψ d
   ·exact JV (J1 hO.own.1 hψ) d
  have hbH2:OpsH τ2 av its:=(Kp.of_sub (F:=[]) hsub2).ops hH fun _ _ c=>by cases c
  have hlb2:=Jj hbH2.1;rw[show (its.map fun p=>Qn p.1 p.2).length=its.length by simp] at hlb2;have hpDu:Buf τ2 4 p.2 (p.1.data.map Qc):=hbH2.2 p hpm;have el2:=el τ2 hsub2;obtain ⟨φo,sto,hav,hFo⟩:=JU hbH2.1 (by intro c;rw[List.map_eq_nil_iff] at c;rw[c] at hpk;cases hpk);have ixo:=Jg (st:=sto) (off:=0) hFo (show pre.length<(its.map fun p=>Qn p.1 p.2).length by simpa using hpk);rw[Nat.zero_add,←hav] at ixo;have lo:lodA 7 (.ptr φo sto pre.length 0) τ2=some (.agg (Qi p)):=UG (cs:=Qi p) hFo rfl (by simp[hit]) rfl;have push:∀(p':OpD × AV) (K:AV→AH→Prop),Buf τ2 4 p'.2 (p'.1.data.map Qc)→(∀ψ,ψ∈famL p'.2→ψ∈famL p.2)→(∀ψ,ψ∈famL p'.2→ψ∉itsF W)→p'.2.one=true→
    (∀w' τ4,NewO σ1 τ4 w' (W++[p'])→Kp (famL w) τ2 τ4→(∀ψ,ψ∈famL w'→ψ∈famL w∨τ2 ψ=none)→K w' τ4)→bsl 7 [(iv 0),(iv 0),(iv 0),(iv 0),(iv 0),(.val (.string ⟨#[]⟩)),nilS] 1 [(0,.agg (Qi p'))] τ2 fun x σ=>E.app 7 w x σ K:=by
   intro p' K f1 f2 f3 f4 f5;refine hO2.push rfl f1 (fun ψ hψ c=>?_) (fun ψ hψ=>hitf ψ (hpF ψ (f2 ψ hψ))) f4 (by omega) f5;rcases List.mem_append.1 c with c|c
   ·exact hitl ψ (hpF ψ (f2 ψ hψ)) (hwf ψ c)
   ·exact f3 ψ hψ c
  have next:∀(p':OpD × AV) (pre' rest':Its) (xs':List Int) (w' u':AV) (τ4:AH),NewO σ1 τ4 w' (W++[p'])→its=pre'++rest'→rest'.length<n0→(W++[p'])++Q7 tab (isT os) pre'.length rest'=Q7 tab (isT os) 0 its→
    xs'++plF tab (isT os) (fun m=>m) pre'.length ((W.length:Int)+1) (rest'.map (·.1))=plF tab (isT os) (fun m=>m) 0 0 os→xs'.length=pre'.length→W.length+1≤pre'.length→Buf τ4 1 u' (ivs xs')→AH.Sub τ τ4→(∀ψ,ψ∈famL w'→τ ψ=none)→(∀ψ,ψ∈famL u'→τ ψ=none)→(∀ψ,ψ∈famL w'→ψ∉famL u')→∀{k:Nat},k=pre'.length→
    R2 (.ptr φ st i 0,iv tab,w',u',iv (k:Int),()) τ4:=by
   intro p' pre' rest' xs' w' u' τ4 f1 f4 f5 f6 f7 f8 f9 f10 f11 f12 f13 f14 k hk;subst hk;exact hR2 _ _ rest'.length τ4 f5 (.refl _) ⟨pre',rest',W++[p'],xs',w',u',f4,rfl,rfl,f1,f6,by simpa using f9,by rw[←f7];simp,f8,f10,f11,f12,f13,f14⟩
  have hpW:(r=[]∨isT os (pre.length+1)=true∨∃q r',r=q::r'∧twoD tab p.1 q.1=none)→∀ψ,ψ∈famL p.2→ψ∉itsF W:=fun hne ψ hψ c=>by
   rw[QcV hne,Ub] at hWnd;exact (Qo.1 hWnd).2.2 ψ c (List.mem_append_left _ hψ)
  have hneD:(r=[]∨isT os (pre.length+1)=true∨∃q r',r=q::r'∧twoD tab p.1 q.1=none)→(r.map (·.1)=[]∨isT os (pre.length+1)=true∨∃q r',r.map (·.1)=q::r'∧twoD tab p.1 q=none):=by
   rintro (h|h|⟨q,r',rfl,h⟩)
   ·exact .inl (by rw[h];rfl)
   ·exact .inr (.inl h)
   ·exact .inr (.inr ⟨q.1,r'.map (·.1),rfl,h⟩)
  have up1:=Qh hpk (show its.length≤9223372036854775807 by omega)
  -- one operation as it is
  have plain:(r=[]∨isT os (pre.length+1)=true∨∃q r',r=q::r'∧twoD tab p.1 q.1=none)→
    bsl 7 [(iv 0),(iv 0),(iv 0),(iv 0),(iv 0),(.val (.string ⟨#[]⟩)),nilS] 1 [(0,.agg (Qi p))] τ2 fun x σ=>E.app 7 w x σ fun v81 σ=>R2 (.ptr φ st i 0,iv tab,v81,u2,iv ((pre.length+1:Nat):Int),()) σ:=fun hne=>by
   refine push p _ hpDu (fun ψ hψ=>hψ) (hpW hne) hp1 fun w' τ4 a1 a2 a3=>?_
   refine next p (pre++[p]) r (xs++[(W.length:Int)]) w' u2 τ4 a1 (by simp[hit]) (by rw[←hrl];simp) (by rw[←hfu,QcV hne];simp) (by rw[←hpl,List.map_cons,Qot (hneD hne)];simp) (by simp[hxl]) (by simp;omega) (a2.buf hU2 fun ψ h c=>hwu2 ψ c h) (a2.sub hsub2 hwf) (fun ψ hψ=>?_) hu2f (fun ψ hψ c=>?_) (by simp)
   ·rcases a3 ψ hψ with d|d
    ·exact hwf ψ d
    ·exact hsub2.none d
   ·rcases a3 ψ hψ with d|d
    ·exact hwu2 ψ d c
    ·exact JV (J1 hU2 c) d
  cases r with
  |nil=>
   have g3:¬((pre.length+1:Nat):Int)<(its.length:Int):=by rw[hn];simp
   simp only[up1,el2,hlb2,g3,ixo,lo,RR];exact plain (.inl rfl)
  |cons q r'=>
   have hpk1:pre.length+1<its.length:=by rw[hn];simp
   have g3:((pre.length+1:Nat):Int)<(its.length:Int):=by omega
   simp only[up1,el2,hlb2,g3,RR];refine QqM (hsub2 _ _ hF) hst hsz hr hbH2 (by omega) ?_;rw[hbo];cases hT:isT os (pre.length+1)
   case true=>
    simp only[el2,ixo,lo,RR];exact plain (.inr (.inl hT))
   case false=>
    have ixo1:=Jg (st:=sto) (off:=0) hFo (show pre.length+1<(its.map fun p=>Qn p.1 p.2).length by simpa using hpk1);rw[Nat.zero_add,←hav] at ixo1;simp only[el2,up1,ixo,ixo1,RR];refine QqL (p:=p) (q:=q) h0 h1 hFo rfl (by simp[hit]) (by simp[hit]) hpDu fun row ok hTw=>?_
    simp only[true_and,Qxu,Qxv,RR];refine Ji rfl hTw.len rfl hTw.one ?_;cases hD:twoD tab p.1 q.1 with
    |none=>
     rw[hTw.no hD];simp only[el2,ixo,lo,RR];exact plain (.inr (.inr ⟨q,r',rfl,hD⟩))
    |some o=>
     obtain ⟨t1,t2⟩:=hTw.yes o hD;subst t1 t2;have hA1:(twoA p).one=true:=QrR hp1;have e7:∀τ,lodA 7 (.rop (Qi (o,twoA p)) 0) τ=some (.agg (Qi (o,twoA p))):=fun _=>rfl
     simp only[e7,RR];have hfe:=QrS (r:=r') hT hD;refine push (o,twoA p) _ (QrQ hD hpDu) (fun ψ hψ=>(QiJ p).subset hψ) (fun ψ hψ c=>?_) hA1 fun w' τ3 a1 a2 a3=>?_
     ·rw[hfe,Ub] at hWnd;exact (Qo.1 hWnd).2.2 ψ c (List.mem_append_left _ hψ)
     have hlw3:=Jj a1.own.1;rw[List.length_map,List.length_append] at hlw3;have e1:ibin .sub (iv ((W.length+[(o,twoA p)].length:Nat):Int)) (iv 1)=some (iv (W.length:Int)):=by
      rw[QU (by simp) (by simp;omega)];simp
     have up2:=Qh hpk1 (show its.length≤9223372036854775807 by omega);simp only[hlw3,e1,RR];have hU3:Buf τ3 1 u2 (ivs (xs++[(W.length:Int)])):=a2.buf hU2 fun ψ h c=>hwu2 ψ c h
     have hsub3:AH.Sub τ τ3:=a2.sub hsub2 hwf;have hwf3:∀ψ,ψ∈famL w'→τ ψ=none:=fun ψ hψ=>by
      rcases a3 ψ hψ with d|d
      ·exact hwf ψ d
      ·exact hsub2.none d
     have hwu3:∀ψ,ψ∈famL w'→ψ∉famL u2:=fun ψ hψ c=>by
      rcases a3 ψ hψ with d|d
      ·exact hwu2 ψ d c
      ·exact JV (J1 hU2 c) d
     refine QrO (row:=[iv (W.length:Int)]) hU3 rfl rfl (fun y hy=>by rw[List.mem_singleton.1 hy];rfl) (by omega) (by simp;omega) fun u4 τ4 hU4 hK4 hf4=>?_
     have hU4:Buf τ4 1 u4 (ivs (xs++[(W.length:Int),(W.length:Int)])):=by
      have e:ivs (xs++[(W.length:Int),(W.length:Int)])=ivs (xs++[(W.length:Int)])++[[iv (W.length:Int)]]:=by simp[ivs]
      rw[e];exact hU4
     simp only[up1,up2,RR];refine next (o,twoA p) (pre++[p,q]) r' (xs++[(W.length:Int),(W.length:Int)]) w' u4 τ4 (a1.kp hK4 (fun ψ hψ c=>?_) fun ψ hψ=>hbase.none (hu2f ψ hψ)) (by simp[hit]) (by rw[←hrl];simp;omega) (by rw[←hfu,hfe];simp) ?_ (by simp[hxl]) (by simp;omega) hU4 (hK4.sub hsub3 hu2f) hwf3 (fun ψ hψ=>?_) (fun ψ hψ c=>?_) (by simp)
     ·rcases List.mem_append.1 hψ with d|d
      ·exact hwu3 ψ d c
      ·have hm:ψ∈itsF its:=by
        rw[J6] at d;rcases List.mem_append.1 d with d|d
        ·exact hWin ψ d
        ·exact hpF ψ ((QiJ p).subset (by simpa[itsF] using d))
       exact hitl ψ hm (hu2f ψ c)
     ·rw[←hpl,List.map_cons,List.map_cons,QuW hT hD];simp
     ·rcases hf4 ψ hψ with d|d
      ·exact hu2f ψ d
      ·exact hsub3.none d
     ·rcases hf4 ψ c with d|d
      ·exact hwu3 ψ hψ d
      ·exact JV (J1 a1.own.1 hψ) d
end
section
set_option maxRecDepth 100000
variable [L:Lam] {σ τ τ':AH} {R:AEnd→AH→Prop}
theorem NewB.fz' {v:AV} {B:List BI} (h:NewB σ τ v B):Fz σ τ v (roBk (cont B)):=QzF h.own h.fr
theorem QwT {v v':AV} (hs:AH.Sub σ τ) (hf:Fz σ τ v v') (h:R (.ret v') σ):aret v τ R:=⟨v',σ,QaT hs hf,h⟩
set_option maxHeartbeats 2000000 in
theorem Ql0 {bs:List Blk} {tab:Int} (hb:bC 1048576 bs) (h0:0≤tab) (h1:tab≤15) (hF:FOk bs) (h:∀v B τ,cont B=bs.map (fusB tab)→NewB σ τ v B→R (.ret v) τ):acall TP QaC [roBk bs,iv tab] σ R:=by
 have hl:=hF.1;refine Qir ?_;unfold x59;dsimp only[den,dE,di,tupL,lTup,den2,den3,den4,List.map,den0,den1];refine Qjy hb.1 (fun b hm=>⟨(hb.2 b hm).1,fun o ho=>((hb.2 b hm).2 o ho).2.1⟩) fun v B0 τ0 hc0 hN0=>?_
 simp only[RR];refine Ua bs.length (fun i x τ=>∃B,x=(iv tab,v,iv (i:Int),())∧cont B=(bs.take i).map (fusB tab)++bs.drop i∧NewB σ τ v B) ⟨B0,rfl,by simpa using hc0,hN0⟩ ?_;rintro i _ τ hi ⟨B,rfl,hcB,hN⟩ R' hR';have hlv:=Jj hN.own.1;have hBl:(B.map fun b=>[iv b.args,b.av]).length=bs.length:=by have:=congrArg List.length hcB;simp[cont] at this;simp[this];omega
 rw[hBl] at hlv;simp only[hlv,RR];by_cases hlt:i<bs.length
 case neg=>
  have g:¬(i:Int)<(bs.length:Int):=by omega
  obtain rfl:i=bs.length:=by omega
  rw[List.take_length,List.drop_length,List.append_nil] at hcB;simp only[g,RR];exact Qa (h v B τ hcB hN)
 have g:(i:Int)<(bs.length:Int):=by omega
 obtain ⟨hsmb,hol,htg⟩:=hF.2 _ (List.getElem_mem hlt);rw[List.drop_eq_getElem_cons hlt] at hcB;obtain ⟨BA,b,BC,rfl,hcA,hcb,hcC,hAl⟩:=Qef hcB;have hAl:BA.length=i:=by rw[hAl];simp;omega
 have hba:b.args=bs[i].args:=congrArg Blk.args hcb;have hbo:b.its.map (·.1)=bs[i].ops:=congrArg Blk.ops hcb
 have hbH:OpsH τ b.av b.its:=hN.own.2 b (by simp);obtain ⟨φ,st,rfl,hF⟩:=JU hN.own.1 (by simp);have ix:=Jg (st:=st) (off:=0) hF (show i<((BA++b::BC).map fun b=>[iv b.args,b.av]).length by simp;omega);rw[Nat.zero_add] at ix;have hrow:((BA++b::BC).map fun b=>[iv b.args,b.av])[i]? =some [iv b.args,b.av]:=by subst hAl;simp
 simp only[g,ix,RR];have hitf:∀ψ,ψ∈itsF b.its→σ ψ=none:=fun ψ hψ=>hN.fr ψ (by
  refine List.mem_append_right _ (List.mem_flatMap.2 ⟨b,by simp,List.mem_append_right _ hψ⟩))
 have hitn:(itsF b.its).Nodup:=by
  have:=hN.nd;have e:Jz (.own φ st 0 ((BA++b::BC).map fun b=>[iv b.args,b.av]).length) (BA++b::BC)=famL (.own φ st 0 ((BA++b::BC).map fun b=>[iv b.args,b.av]).length)++(bsF BA++((famL b.av++itsF b.its)++bsF BC)):=by
   have:bsF (BA++b::BC)=bsF BA++((famL b.av++itsF b.its)++bsF BC):=by rw[UZ,UR];rfl
   rw[←this];rfl
  rw[e] at this;exact (Qo.1 (Qo.1 (Qo.1 (Qo.1 this).2.1).2.1).1).2.1
 refine QpF h0 h1 hF rfl rfl hrow hbH hbo hol hsmb htg hN.sub hitf hitn fun w τ4 hO4 hs4 hwf=>?_
 have hWs:(((Q7 tab (isT bs[i].ops) 0 b.its).map (QQ (plF tab (isT bs[i].ops) (fun m=>m) 0 0 bs[i].ops))).map (·.1))=fusO tab bs[i].ops:=by
  rw[Qqh,QkS tab _ b.its.length 0 b.its (Nat.le_refl _),hbo];rfl
 simp only[RR];obtain ⟨φ',st',hv,_,_,ix',hst⟩:=NewB.repl (τ:=τ4) (w:=w) (W:=(Q7 tab (isT bs[i].ops) 0 b.its).map (QQ (plF tab (isT bs[i].ops) (fun m=>m) 0 0 bs[i].ops))) hN hO4 (by rw[Qqi];exact Qgu tab _ b.its.length 0 b.its (Nat.le_refl _)) hwf (fun ψ h1 h2=>by
  cases e:τ ψ with
  |none=>exact absurd e h2
  |some F=>exact hs4 _ _ e) hO4.av1
 rw[hAl] at ix' hst;simp only[ix',RR];refine hst _ fun τ5 hN5=>?_
 simp only[Qh hlt (by omega),RR];refine hR' _ _ _ hlt (.refl _) ⟨_,rfl,?_,hN5⟩;have:cont (BA++⟨b.args,w,(Q7 tab (isT bs[i].ops) 0 b.its).map (QQ (plF tab (isT bs[i].ops) (fun m=>m) 0 0 bs[i].ops))⟩::BC)=cont BA++⟨b.args,((Q7 tab (isT bs[i].ops) 0 b.its).map (QQ (plF tab (isT bs[i].ops) (fun m=>m) 0 0 bs[i].ops))).map (·.1)⟩::cont BC:=by simp[cont]
 rw[this,hcA,hcC,hWs,hba,List.take_succ_eq_append_getElem hlt,List.map_append,List.append_assoc];try rfl
theorem Ql1 {t:Int} (h:R (.ret (iv (if inB 0 15 t=true then 0 else 3))) σ):acall TP Qdi [iv t] σ R:=by
 refine Qis ?_;unfold x61;dsimp only[den,dE,di,List.map,den0,den1];refine JX ?_;cases hB:inB 0 15 t<;>rw[hB] at h
 ·simp only[RR];exact Qa h
 ·simp only[RR];exact Qa h
end
section
set_option maxRecDepth 100000
variable [L:Lam] {σ τ τ':AH} {R:AEnd→AH→Prop}
theorem NewB.at {v:AV} {BA BC:List BI} {b:BI} {W:Its} (h:NewB σ τ v (BA++b::BC)) (hsub:(itsF W).Sublist (itsF b.its)) (hW:Buf τ' 7 b.av (W.map Qi)) (hI:ItsH τ W) (hk:∀ψ,ψ∉famL b.av→τ' ψ=τ ψ):NewB σ τ' v (BA++⟨b.args,b.av,W⟩::BC):=by
 have hnd:(famL v++(bsF BA++((famL b.av++itsF b.its)++bsF BC))).Nodup:=by
  have:=h.nd;rw[Jz] at this;have e:bsF (BA++b::BC)=bsF BA++((famL b.av++itsF b.its)++bsF BC):=by rw[UZ,UR];rfl
  rw[←e];exact this
 have mem:∀ψ,ψ∈Jz v (BA++b::BC)↔ψ∈famL v∨ψ∈bsF BA∨ψ∈famL b.av∨ψ∈itsF b.its∨ψ∈bsF BC:=by
  intro ψ;have e:bsF (BA++b::BC)=bsF BA++((famL b.av++itsF b.its)++bsF BC):=by rw[UZ,UR];rfl
  have e2:Jz v (BA++b::BC)=famL v++bsF (BA++b::BC):=rfl;rw[e2,e];simp
 have e3:Jz v (BA++⟨b.args,b.av,W⟩::BC)=famL v++(bsF BA++((famL b.av++itsF W)++bsF BC)):=by
  have:bsF (BA++⟨b.args,b.av,W⟩::BC)=bsF BA++((famL b.av++itsF W)++bsF BC):=by rw[UZ,UR];rfl
  rw[←this];rfl
 have hsl:(famL v++(bsF BA++((famL b.av++itsF W)++bsF BC))).Sublist (famL v++(bsF BA++((famL b.av++itsF b.its)++bsF BC))):=
  (List.Sublist.refl _).append ((List.Sublist.refl _).append (((List.Sublist.refl _).append hsub).append (List.Sublist.refl _)))
 obtain ⟨n1,n2,n3⟩:=Qo.1 hnd;obtain ⟨m1,m2,m3⟩:=Qo.1 n2;obtain ⟨p1,p2,p3⟩:=Qo.1 m2;obtain ⟨q1,q2,q3⟩:=Qo.1 p1;have out:∀ψ,(ψ∈famL v∨ψ∈bsF BA∨ψ∈bsF BC∨ψ∈itsF b.its)→ψ∉famL b.av:=by
  rintro ψ (c|c|c|c) d
  ·exact n3 ψ c (by simp[d])
  ·exact m3 ψ c (by simp[d])
  ·exact p3 ψ (by simp[d]) c
  ·exact q3 ψ d c
 refine ⟨⟨?_,fun q hq=>?_⟩,by rw[e3];exact hnd.sublist hsl,fun ψ hψ=>?_,fun ψ G hG=>?_⟩
 ·have e:((BA++⟨b.args,b.av,W⟩::BC).map fun b=>[iv b.args,b.av])=((BA++b::BC).map fun b=>[iv b.args,b.av]):=by simp
  rw[e];exact Jw h.own.1 fun ψ hψ=>hk ψ (out ψ (.inl hψ))
 ·rw[List.mem_append,List.mem_cons] at hq;rcases hq with hq|rfl|hq
  ·exact (h.own.2 q (by simp[hq])).keep fun ψ hψ=>hk ψ (out ψ (.inr (.inl (List.mem_flatMap.2 ⟨q,hq,hψ⟩))))
  ·exact ⟨hW,hI.keep fun ψ hψ=>hk ψ (out ψ (.inr (.inr (.inr (hsub.subset hψ)))))⟩
  ·exact (h.own.2 q (by simp[hq])).keep fun ψ hψ=>hk ψ (out ψ (.inr (.inr (.inl (List.mem_flatMap.2 ⟨q,hq,hψ⟩)))))
 ·rw[e3] at hψ;exact h.fr ψ ((mem ψ).2 (by have:=hsl.subset hψ;simpa using this))
 ·rw[hk ψ fun c=>?_]
  ·exact h.sub ψ G hG
  ·have:=h.fr ψ ((mem ψ).2 (by simp[c]));rw[this] at hG;cases hG
def pk1 (os:List OpD) (p:OpD × AV):OpD × AV:=(J8 os p.1,p.2)
def pk2 (os:List OpD) (p:OpD × AV):OpD × AV:=if p.1.kind=5∧(opA os p.1.a.toNat).kind=12 then (oc0 12,nilS) else p
theorem QzO (os:List OpD) (W:Its):(W.map (pk1 os)).map (·.1)=(W.map (·.1)).map (J8 os):=by rw[List.map_map,List.map_map];rfl
theorem QzP (os:List OpD) (W:Its):(W.map (pk2 os)).map (·.1)=(W.map (·.1)).map (Qln os):=by
 rw[List.map_map,List.map_map];refine List.map_congr_left fun p _=>?_
 show (pk2 os p).1=Qln os p.1;unfold pk2 Qln;split<;>rfl
theorem Qs8 (os:List OpD) (W:Its):(itsF (W.map (pk2 os))).Sublist (itsF W):=by
 induction W with
 |nil=>exact .refl _
 |cons p r ih=>
  have e1:itsF ((p::r).map (pk2 os))=famL (pk2 os p).2++itsF (r.map (pk2 os)):=by simp[itsF]
  have e2:itsF (p::r)=famL p.2++itsF r:=by simp[itsF]
  rw[e1,e2];refine List.Sublist.append ?_ ih;unfold pk2;split
  ·exact List.nil_sublist _
  ·exact .refl _
theorem Qs9 (os:List OpD) (W:Its):itsF (W.map (pk1 os))=itsF W:=by
 unfold itsF;rw[List.flatMap_map];rfl
theorem QtY (os:List OpD) (o:OpD):(J8 os o).data=o.data:=by unfold J8;split<;>rfl
theorem ItsH.pk1 {os:List OpD} {W:Its} (h:ItsH τ W):ItsH τ (W.map (pk1 os)):=fun p hp=>by
 obtain ⟨q,hq,rfl⟩:=List.mem_map.1 hp;show Buf τ 4 q.2 ((J8 os q.1).data.map Qc);rw[QtY];exact h q hq
theorem ItsH.pk2 {os:List OpD} {W:Its} (h:ItsH τ W):ItsH τ (W.map (pk2 os)):=fun p hp=>by
 obtain ⟨q,hq,rfl⟩:=List.mem_map.1 hp;unfold E.pk2;split
 ·exact .inl ⟨.inl rfl,rfl⟩
 ·exact h q hq
theorem Qta {os:List OpD} {W:Its} (h:W.map (·.1)=os):((W.map (pk1 os)).map (pk2 os)).map (·.1)=QbF os:=by
 rw[QzP,QzO,h];unfold QbF;rw[List.map_map];rfl
end
section
set_option maxRecDepth 100000
variable [L:Lam] {σ τ τ':AH} {R:AEnd→AH→Prop}
theorem QrV {os:List OpD} {t:Nat} (h:(opA os t).kind≠5):∀n,hop os n t=t:=by
 intro n;cases n with
 |zero=>rfl
 |succ n=>rw[hop,if_neg h]
theorem QgR {o:OpD} {a:AV} (h:a.one=true):∀y,y∈Qn o a→y.one=true:=by
 intro y hy;simp only[Qn,List.mem_cons,List.not_mem_nil,or_false] at hy;rcases hy with rfl|rfl|rfl|rfl|rfl|rfl|rfl<;>first|rfl|exact h
theorem QzQ {av:AV} {A C:Its} {p q:OpD × AV} {off:Nat} {x:AV} (hB:Buf τ 7 av ((A++p::C).map Qi)) (ho:off<7) (h1:x.one=true) (hq:(Qi p).set off x=Qi q):
  ∃φ st,idx 7 av (iv (A.length:Int)) τ=some (.ptr φ st A.length 0)∧∀k:AH→Prop,(∀τ',Buf τ' 7 av ((A++q::C).map Qi)→(∀ψ,ψ∉famL av→τ' ψ=τ ψ)→k τ')→sto 1 (.ptr φ st A.length off) x τ k:=by
 obtain ⟨φ,st,hv,hF⟩:=JU hB (by simp);subst hv;have ix:=Jg (st:=st) (off:=0) hF (show A.length<((A++p::C).map Qi).length by simp);rw[Nat.zero_add] at ix;refine ⟨φ,st,ix,fun k h=>?_⟩;have hset:τ=τ.set φ ⟨st,7,A.map Qi++Qi p::C.map Qi⟩:=by rw[AH.set_self];rw[hF];simp
 rw[hset];refine Qbv (by simp) ho h1 ?_;rw[hq];refine h _ (.inr ⟨φ,st,by simp,by rw[AH.set_same];simp⟩) fun ψ hψ=>?_
 rw[AH.set_ne' (by rintro rfl;exact hψ (by simp[famL]))]
theorem QzR {av:AV} {A C:Its} {p q:OpD × AV} (hB:Buf τ 7 av ((A++p::C).map Qi)) (h1:q.2.one=true):
  ∃φ st,idx 7 av (iv (A.length:Int)) τ=some (.ptr φ st A.length 0)∧lodA 7 (.ptr φ st A.length 0) τ=some (.agg (Qi p))∧∀k:AH→Prop,(∀τ',Buf τ' 7 av ((A++q::C).map Qi)→(∀ψ,ψ∉famL av→τ' ψ=τ ψ)→k τ')→sto 7 (.ptr φ st A.length 0) (.agg (Qi q)) τ k:=by
 obtain ⟨φ,st,hv,hF⟩:=JU hB (by simp);subst hv;have ix:=Jg (st:=st) (off:=0) hF (show A.length<((A++p::C).map Qi).length by simp);rw[Nat.zero_add] at ix;refine ⟨φ,st,ix,UG hF rfl (by simp) rfl,fun k h=>?_⟩;refine QH (cs:=Qi q) hF (by simp) (by simp[List.getD,Qn]) rfl rfl (QgR h1) ?_;have e:((A++p::C).map Qi).set A.length (Qi q)=(A++q::C).map Qi:=by simp
 rw[e];refine h _ (.inr ⟨φ,st,by simp,AH.set_same ..⟩) fun ψ hψ=>?_
 rw[AH.set_ne' (by rintro rfl;exact hψ (by simp[famL]))]
set_option maxHeartbeats 4000000 in
theorem QqQ {bs:List Blk} (hb:bC 1048576 bs) (hFw:FwC bs) (h:∀v B τ,cont B=bs.map Qeh→NewB σ τ v B→R (.ret v) τ):acall TP Qhb [roBk bs] σ R:=by
 have hl:=hFw.1;refine QmM ?_;unfold x63;dsimp only[den,dE,di,tupL,lTup,den2,den3,den4,List.map,den0,den1];refine Qbg hb.1 (fun b hm=>⟨(hb.2 b hm).1,fun o ho=>((hb.2 b hm).2 o ho).2.1⟩) fun v B0 τ0 hc0 hN0=>?_
 simp only[QA,RR];refine Ua bs.length (fun i x τ=>∃B,x=(v,roBk bs,iv (bs.length:Int),iv (i:Int),())∧cont B=(bs.take i).map Qeh++bs.drop i∧NewB σ τ v B) ⟨B0,rfl,by simpa using hc0,hN0⟩ ?_;rintro i _ τ hi ⟨B,rfl,hcB,hN⟩ R' hR';by_cases hlt:i<bs.length
 case neg=>
  have g:¬(i:Int)<(bs.length:Int):=by omega
  obtain rfl:i=bs.length:=by omega
  rw[List.take_length,List.drop_length,List.append_nil] at hcB;simp only[g,RR];exact Qa (h v B τ hcB hN)
 have g:(i:Int)<(bs.length:Int):=by omega
 have hfw:=hFw.2 _ (List.getElem_mem hlt);rw[List.drop_eq_getElem_cons hlt] at hcB;obtain ⟨BA,b,BC,rfl,hcA,hcb,hcC,hAl⟩:=Qef hcB;have hAl:BA.length=i:=by rw[hAl];simp;omega
 have hba:b.args=bs[i].args:=congrArg Blk.args hcb;have hbo:b.its.map (·.1)=bs[i].ops:=congrArg Blk.ops hcb
 have hbH:OpsH τ b.av b.its:=hN.own.2 b (by simp);obtain ⟨φ,st,hv,hFv⟩:=JU hN.own.1 (by simp);have ix:=Jg (st:=st) (off:=0) hFv (show i<((BA++b::BC).map fun b=>[iv b.args,b.av]).length by simp;omega);rw[Nat.zero_add] at ix;rw[←hv] at ix;have hrow:((BA++b::BC).map fun b=>[iv b.args,b.av]).getD i []=[iv b.args,b.av]:=by subst hAl;simp[List.getD]
 have lav:lod (.ptr φ st i 1) τ=some b.av:=Qz hFv rfl (by rw[hrow];rfl);have hlb:=Jj hbH.1;rw[show (b.its.map fun p=>Qn p.1 p.2).length=b.its.length by simp] at hlb;have lb1:∀τ,lod (.rop (QC bs[i]) 1) τ=some (roO bs[i].ops):=fun _=>rfl
 have fin:∀τ1,Buf τ1 7 b.av (((b.its.map (pk1 bs[i].ops)).map (pk2 bs[i].ops)).map Qi)→(∀ψ,ψ∉famL b.av→τ1 ψ=τ ψ)→R' (v,roBk bs,iv (bs.length:Int),iv ((i+1:Nat):Int),()) τ1:=fun τ1 hB1 hk1=>by
  refine hR' _ τ1 τ1 hlt (.refl _) ⟨BA++⟨b.args,b.av,(b.its.map (pk1 bs[i].ops)).map (pk2 bs[i].ops)⟩::BC,rfl,?_,hN.at ?_ hB1 ?_ hk1⟩
  ·have e1:cont (BA++⟨b.args,b.av,(b.its.map (pk1 bs[i].ops)).map (pk2 bs[i].ops)⟩::BC)=cont BA++⟨b.args,((b.its.map (pk1 bs[i].ops)).map (pk2 bs[i].ops)).map (·.1)⟩::cont BC:=by simp[cont]
   rw[e1,hcA,hcC,Qta hbo,hba,List.take_succ_eq_append_getElem hlt,List.map_append,List.append_assoc];rfl
  ·have:=Qs8 bs[i].ops (b.its.map (pk1 bs[i].ops))
   rwa [Qs9] at this
  ·exact (ItsH.pk1 hbH.2).pk2
 simp only[g,Qq hlt Jr,Qu (Jr _),RR];refine Ji rfl (Jr _) rfl (QnT _) ?_;simp only[ix,lav,lb1,QA,RR];generalize bs[i].ops=os at*;have hol:=hfw.len;have hbl:b.its.length=os.length:=by rw[←hbo];simp
 refine Ua os.length (fun k x τ1=>x=(v,.rop (QC bs[i]) 0,b.av,roBk bs,iv (bs.length:Int),iv (i:Int),roO os,iv (os.length:Int),iv (k:Int),())∧Buf τ1 7 b.av (((b.its.take k).map (pk1 os)++b.its.drop k).map Qi)∧∀ψ,ψ∉famL b.av→τ1 ψ=τ ψ) ⟨rfl,by simpa using hbH.1,fun _ _=>rfl⟩ ?_;rintro k _ τ1 hk ⟨rfl,hB1,hk1⟩ R2 hR2;have ilen:∀{A:Its} {m:Nat},m≤b.its.length→A=b.its.take m→A.length=m:=fun {A m} hm e=>by rw[e,List.length_take];omega
 by_cases hkl:k<os.length
 case neg=>
  have g1:¬(k:Int)<(os.length:Int):=by omega
  obtain rfl:k=os.length:=by omega
  rw[←hbl,List.take_length,List.drop_length,List.append_nil] at hB1;have hlb1:=Jj hB1;rw[show ((b.its.map (pk1 os)).map Qi).length=os.length by simp[hbl]] at hlb1;simp only[g1,hlb1,RR];generalize hW:b.its.map (pk1 os)=W at*;have hWl:W.length=os.length:=by rw[←hW];simp[hbl]
  have hW1:∀p,p∈W→p.2.one=true∧0≤p.1.a∧((p.1.kind=5∨p.1.kind=6)→p.1.a<(os.length:Int)):=fun p hp=>by
   rw[←hW] at hp;obtain ⟨q,hq,rfl⟩:=List.mem_map.1 hp;have hqo:q.1∈os:=by rw[←hbo];exact List.mem_map.2 ⟨q,hq,rfl⟩
   obtain ⟨s1,s2,s3,s4⟩:=Qnk hfw hqo;exact ⟨(hbH.2 q hq).av1,s1.1,fun c=>(s4 (by rw[show (pk1 os q).1.kind=q.1.kind from s2] at c;exact c)).2⟩
  refine Ua os.length (fun k x τ2=>x=(v,.rop (QC bs[i]) 0,b.av,roBk bs,iv (bs.length:Int),iv (i:Int),b.av,iv (os.length:Int),iv (k:Int),())∧Buf τ2 7 b.av (((W.take k).map (pk2 os)++W.drop k).map Qi)∧∀ψ,ψ∉famL b.av→τ2 ψ=τ ψ) ⟨rfl,by simpa using hB1,hk1⟩ ?_;rintro k _ τ2 hk ⟨rfl,hB2,hk2⟩ R3 hR3;by_cases hkl:k<os.length
  case neg=>
   have g1:¬(k:Int)<(os.length:Int):=by omega
   obtain rfl:k=os.length:=by omega
   rw[←hWl,List.take_length,List.drop_length,List.append_nil] at hB2;simp only[g1,Qh hlt (by omega),RR];exact fin τ2 hB2 hk2
  have g1:(k:Int)<(os.length:Int):=by omega
  rw[List.drop_eq_getElem_cons (show k<W.length by omega)] at hB2;obtain ⟨h1o,h1a,h1t⟩:=hW1 _ (List.getElem_mem (show k<W.length by omega));have eN:∀C:Its,(W.take (k+1)).map (pk2 os)++C=(W.take k).map (pk2 os)++pk2 os W[k]::C:=fun C=>by
   rw[List.take_succ_eq_append_getElem (show k<W.length by omega),List.map_append,List.append_assoc];rfl
  have hAl2:((W.take k).map (pk2 os)).length=k:=by rw[List.length_map,List.length_take];omega
  generalize (W.take k).map (pk2 os)=A at hB2 eN hAl2;generalize hp:W[k]=p at hB2 eN h1o h1a h1t;obtain ⟨C,hC⟩:∃C,C=W.drop (k+1):=⟨_,rfl⟩;rw[←hC] at hB2;have next:∀τ3,Buf τ3 7 b.av ((A++pk2 os p::C).map Qi)→(∀ψ,ψ∉famL b.av→τ3 ψ=τ2 ψ)→R3 (v,.rop (QC bs[i]) 0,b.av,roBk bs,iv (bs.length:Int),iv (i:Int),b.av,iv (os.length:Int),iv ((k+1:Nat):Int),()) τ3:=fun τ3 h3 h4=>by
   refine hR3 _ τ3 τ3 hkl (.refl _) ⟨rfl,?_,fun ψ hψ=>(h4 ψ hψ).trans (hk2 ψ hψ)⟩;rw[←hC,eN];exact h3
  obtain ⟨φ2,st2,r1,r2,r3⟩:=QzR (q:=(oc0 12,nilS)) hB2 rfl;rw[hAl2] at r1 r2 r3;have m0:∀τ,lod (.rop (Qi p) 0) τ=some (iv p.1.kind):=fun _=>rfl
  have m1:∀τ,lod (.rop (Qi p) 1) τ=some (iv p.1.a):=fun _=>rfl
  have eb:bld [(iv 0),(iv 0),(iv 0),(iv 0),(iv 0),(.val (.string ⟨#[]⟩)),nilS] [(0,1),(1,1),(2,1),(3,1),(4,1),(5,1),(6,1)] [(0,(iv 12))]=some (.agg (Qi (oc0 12,nilS))):=rfl;simp only[g1,jn,r1,r2,RR];refine Ji rfl rfl rfl (QgR h1o) ?_;by_cases c5:p.1.kind=5
  ·have hta:=h1t (.inl c5);obtain ⟨t,ht⟩:∃t:Nat,p.1.a=(t:Int):=⟨p.1.a.toNat,by omega⟩;have htl:t<os.length:=by omega
   have lo:∀τ,lod (.rop (Qk os[t]) 0) τ=some (iv os[t].kind):=fun _=>rfl
   have eo:(opA os p.1.a.toNat)=os[t]:=by rw[ht];exact (QaY htl).symm
   simp only[m0,c5,m1,ht,lb1,Qq htl Q5,lo,RR];by_cases c12:os[t].kind=12
   ·have e2:pk2 os p=(oc0 12,nilS):=by unfold pk2;rw[if_pos ⟨c5,by rw[eo];exact c12⟩]
    rw[e2] at next
    simp only[c12,eb,r1,RR];refine r3 _ fun τ3 h3 h4=>?_
    simp only[Qh hkl (by omega),RR];exact next τ3 h3 h4
   ·have e2:pk2 os p=p:=by unfold pk2;rw[if_neg (by rw[eo];exact fun c=>c12 c.2)]
    rw[e2] at next
    simp only[c12,Qh hkl (by omega),RR];exact next τ2 hB2 fun _ _=>rfl
  ·have e2:pk2 os p=p:=by unfold pk2;rw[if_neg (fun c=>c5 c.1)]
   rw[e2] at next
   simp only[m0,c5,Qh hkl (by omega),RR];exact next τ2 hB2 fun _ _=>rfl
 have g1:(k:Int)<(os.length:Int):=by omega
 have hkb:k<b.its.length:=by omega
 have eo:os[k]=b.its[k].1:=by
  have:(b.its.map (·.1))[k]'(by simpa using hkb)=b.its[k].1:=by simp
  rw[←this];simp only[hbo]
 rw[List.drop_eq_getElem_cons hkb] at hB1;have eN:∀C:Its,(b.its.take (k+1)).map (pk1 os)++C=(b.its.take k).map (pk1 os)++pk1 os b.its[k]::C:=fun C=>by
  rw[List.take_succ_eq_append_getElem hkb,List.map_append,List.append_assoc];rfl
 have hAl2:((b.its.take k).map (pk1 os)).length=k:=by rw[List.length_map,List.length_take];omega
 have hom:=hfw.jump k hkl;have eoA:opA os k=os[k]:=(QaY hkl).symm;rw[eoA] at hom;generalize (b.its.take k).map (pk1 os)=A at hB1 eN hAl2;generalize hp:b.its[k]=p at hB1 eN eo;obtain ⟨C,hC⟩:∃C,C=b.its.drop (k+1):=⟨_,rfl⟩;rw[←hC] at hB1;have next:∀τ3,Buf τ3 7 b.av ((A++pk1 os p::C).map Qi)→(∀ψ,ψ∉famL b.av→τ3 ψ=τ1 ψ)→R2 (v,.rop (QC bs[i]) 0,b.av,roBk bs,iv (bs.length:Int),iv (i:Int),roO os,iv (os.length:Int),iv ((k+1:Nat):Int),()) τ3:=fun τ3 h3 h4=>by
  refine hR2 _ τ3 τ3 hkl (.refl _) ⟨rfl,?_,fun ψ hψ=>(h4 ψ hψ).trans (hk1 ψ hψ)⟩;rw[←hC,eN];exact h3
 simp only[g1,jn,Qq hkl Q5,Qu (Q5 _),eo,RR];rw[eo] at hom;refine Ji rfl (Q5 _) rfl (Qdg _) ?_;have m0:∀τ,lod (.rop (Qk p.1) 0) τ=some (iv p.1.kind):=fun _=>rfl
 have m1:∀τ,lod (.rop (Qk p.1) 1) τ=some (iv p.1.a):=fun _=>rfl
 by_cases c:p.1.kind=5∨p.1.kind=6
 case neg=>
  have c5:¬p.1.kind=5:=fun d=>c (.inl d)
  have c6:¬p.1.kind=6:=fun d=>c (.inr d)
  have e1:pk1 os p=p:=by unfold pk1 J8;rw[if_neg c]
  rw[e1] at next
  simp only[m0,c5,c6,Qh hkl (by omega),RR];exact next τ1 hB1 fun _ _=>rfl
 obtain ⟨j1,j2⟩:=hom c;obtain ⟨t0,ht0⟩:∃t:Nat,p.1.a=(t:Int):=⟨p.1.a.toNat,by omega⟩;have e1:pk1 os p=({p.1 with a:=(hop os os.length t0:Int)},p.2):=by unfold pk1 J8;rw[if_pos c,ht0];rfl
 have store:∀t:Nat,t=hop os os.length t0→og (idx 7 b.av (iv (k:Int)) τ1) fun v66=>og (fldA 1 v66) fun v67=>sto 1 v67 (iv (t:Int)) τ1 fun σ=>
   og (ibin .add (iv (k:Int)) (iv 1)) fun v68=>R2 (v,.rop (QC bs[i]) 0,b.av,roBk bs,iv (bs.length:Int),iv (i:Int),roO os,iv (os.length:Int),v68,()) σ:=fun t ht=>by
  obtain ⟨φ2,st2,r1,r2⟩:=QzQ (q:=pk1 os p) (off:=1) (x:=iv (t:Int)) hB1 (by omega) rfl (by rw[e1,ht];rfl);rw[hAl2] at r1 r2;simp only[r1,RR];refine r2 _ fun τ3 h3 h4=>?_
  simp only[Qh hkl (by omega),RR];exact next τ3 h3 h4
 have d6:¬(6:Int)=5:=by decide
 rcases c with c|c
 all_goals (
  simp only[m0,m1,c,d6,ht0,lb1,QA,RR];refine QF (fun m y τ2=>∃(j t:Nat),y=(v,.rop (QC bs[i]) 0,b.av,iv (k:Int),iv (t:Int),roBk bs,iv (bs.length:Int),iv (i:Int),roO os,iv (os.length:Int),iv (k:Int),iv (os.length:Int),iv (j:Int),())∧τ1=τ2∧t<os.length∧hop os (os.length - j) t=hop os os.length t0∧j≤os.length∧os.length - j=m) os.length ⟨0,t0,rfl,rfl,by omega,rfl,by omega,rfl⟩ ?_;rintro m y _ ⟨j,t,rfl,rfl,htl,hh,hj,rfl⟩ R5 hR5;have lo:∀τ,lod (.rop (Qk os[t]) 0) τ=some (iv os[t].kind):=fun _=>rfl
  have lo1:∀τ,lod (.rop (Qk os[t]) 1) τ=some (iv os[t].a):=fun _=>rfl
  have eo2:opA os t=os[t]:=(QaY htl).symm;by_cases cj:j<os.length
  ·have g2:(j:Int)<(os.length:Int):=by omega
   by_cases ck:os[t].kind=5
   ·have hj2:=hfw.jump t htl (.inl (by rw[eo2];exact ck));rw[eo2] at hj2;obtain ⟨t2,ht2⟩:∃t2:Nat,os[t].a=(t2:Int):=⟨os[t].a.toNat,by omega⟩;simp only[g2,lb1,Qq htl Q5,lo,ck,lo1,ht2,Qh cj (by omega),RR];refine hR5 _ _ (os.length - (j+1)) _ (by omega) (.refl _) ⟨j+1,t2,rfl,rfl,by omega,?_,cj,rfl⟩;rw[show os.length - j=(os.length - (j+1))+1 by omega,hop,eo2,if_pos ck,ht2] at hh;exact hh
   ·simp only[g2,lb1,Qq htl Q5,lo,ck,RR];exact store t (by rw[←hh,QrV (by rw[eo2];exact ck)])
  ·have g2:¬(j:Int)<(os.length:Int):=by omega
   simp only[g2,RR];exact store t (by rw[←hh,show os.length - j=0 by omega];rfl))
end
section
set_option maxRecDepth 100000
variable [L:Lam] {σ τ τ':AH} {R:AEnd→AH→Prop}
theorem QpG {φ st n sz:Nat} {es:List (List AV)} (h:Buf τ sz (.own φ st 0 n) es):n=es.length∧τ φ=some ⟨st,sz,es⟩:=by
 rcases h with ⟨h|h,_⟩|⟨φ',st',h,hF⟩
 ·cases h
 ·cases h
 ·injection h with h1 h2 h3 h4
  subst h1;subst h2;exact ⟨h4,hF⟩
theorem Qh4 {φ st n:Nat} {W:Its} {w:OpD × AV} {t:Nat} (hB:Buf τ 7 (.own φ st 0 n) (W.map Qi)) (ht:W[t]? =some w):idx 7 (.own φ st 0 n) (iv (t:Int)) τ=some (.ptr φ st t 0)∧lod (.ptr φ st t 0) τ=some (iv w.1.kind)∧lod (.ptr φ st t 1) τ=some (iv w.1.a):=by
 obtain ⟨hn,hF⟩:=QpG hB;have hl:=(List.getElem?_eq_some_iff.1 ht).1;have ix:=Jg (st:=st) (off:=0) hF (show t<(W.map Qi).length by simpa using hl);rw[Nat.zero_add,←hn] at ix;have hr:(W.map Qi).getD t []=Qi w:=by simp[List.getD,ht]
 exact ⟨ix,Qz hF rfl (by rw[hr];rfl),Qz hF rfl (by rw[hr];rfl)⟩
theorem QwU {φ st n:Nat} {A C:Its} {p q:OpD × AV} {off:Nat} {x:AV} {k:AH→Prop} (hB:Buf τ 7 (.own φ st 0 n) ((A++p::C).map Qi)) (ho:off<7) (h1:x.one=true) (hq:(Qi p).set off x=Qi q)
  (h:∀τ',Buf τ' 7 (.own φ st 0 n) ((A++q::C).map Qi)→(∀ψ,ψ≠φ→τ' ψ=τ ψ)→k τ'):sto 1 (.ptr φ st A.length off) x τ k:=by
 obtain ⟨hn,hF⟩:=QpG hB;have hset:τ=τ.set φ ⟨st,7,A.map Qi++Qi p::C.map Qi⟩:=by rw[AH.set_self];rw[hF];simp
 rw[hset];refine Qbv (by simp) ho h1 ?_;rw[hq];exact h _ (.inr ⟨φ,st,by rw[hn];simp,by rw[AH.set_same];simp⟩) fun ψ hψ=>AH.set_ne' hψ
theorem QwV {φ st n:Nat} {A C:Its} {p q:OpD × AV} {k:AH→Prop} (hB:Buf τ 7 (.own φ st 0 n) ((A++p::C).map Qi)) (h1:q.2.one=true)
  (h:∀τ',Buf τ' 7 (.own φ st 0 n) ((A++q::C).map Qi)→(∀ψ,ψ≠φ→τ' ψ=τ ψ)→k τ'):sto 7 (.ptr φ st A.length 0) (.agg (Qi q)) τ k:=by
 obtain ⟨hn,hF⟩:=QpG hB;refine QH (cs:=Qi q) hF (by simp) (by simp[List.getD,Qn]) rfl rfl (QgR h1) ?_;have e:((A++p::C).map Qi).set A.length (Qi q)=(A++q::C).map Qi:=by simp
 rw[e];exact h _ (.inr ⟨φ,st,by rw[hn];simp,AH.set_same ..⟩) fun ψ hψ=>AH.set_ne' hψ
theorem Qbw {A C W:Its} {q:OpD × AV} {k t:Nat} (hA:A.length=k) (hC:C=W.drop (k+1)) (ht:k<t):(A++q::C)[t]? =W[t]? :=by
 rw[List.getElem?_append_right (by omega),hA,show t - k=(t - k - 1)+1 by omega,List.getElem?_cons_succ,hC,List.getElem?_drop]
 congr 1;omega
theorem here {A C:Its} {q:OpD × AV} {k:Nat} (hA:A.length=k):(A++q::C)[k]? =some q:=by
 rw[List.getElem?_append_right (by omega),hA,Nat.sub_self];rfl
set_option maxHeartbeats 4000000 in
theorem QpH {φ st i:Nat} {F:Fam} {n:Int} {av:AV} {W:Its} {os:List OpD} (hF:τ φ=some F) (hst:F.st=st) (hr:F.es[i]? =some [iv n,av]) (hB:Buf τ 7 av (W.map Qi)) (hos:W.map (·.1)=os) (hone:∀p,p∈W→p.2.one=true) (hfw:FwO os) (hφ:φ∉famL av)
  (h:∀τ',Buf τ' 7 av (((W.map (pk1 os)).map (pk2 os)).map Qi)→(∀ψ,ψ∉famL av→τ' ψ=τ ψ)→R (.ret (.tup [])) τ'):acall TP QfV [.ptr φ st i 0] τ R:=by
 have hol:=hfw.len;have hWl:W.length=os.length:=by rw[←hos];simp
 refine QlF ?_;unfold x83;dsimp only[den,dE,di,tupL,lTup,den2,den3,den4,dwat,Qf,List.map,den0,den1];have a0:anil (.ptr φ st i 0)=some (.ptr φ st i 0):=rfl;have lav:∀τ1:AH,(∀ψ,ψ∉famL av→τ1 ψ=τ ψ)→lod (.ptr φ st i 1) τ1=some av:=fun τ1 hk=>Qz (by rw[hk φ hφ];exact hF) hst (by
  have:F.es.getD i []=[iv n,av]:=by simp[List.getD,hr]
  rw[this];rfl)
 have lav0:=lav τ fun _ _=>rfl
 have hlb:=Jj hB;rw[show (W.map Qi).length=os.length by simp[hWl]] at hlb;simp only[a0,lav0,hlb,RR];rcases Nat.eq_zero_or_pos os.length with hz|hpos
 ·have hW0:W=[]:=List.length_eq_zero_iff.1 (by omega);subst hW0;refine QF (fun m y τ1=>y=(.ptr φ st i 0,iv (os.length:Int),iv 0,())∧τ=τ1) 0 ⟨rfl,rfl⟩ ?_;rintro m y _ ⟨rfl,rfl⟩ R1 hR1;have g:¬(0:Int)<(os.length:Int):=by omega
  simp only[g,RR];refine QF (fun m y τ1=>y=(.ptr φ st i 0,iv (os.length:Int),iv 0,())∧τ=τ1) 0 ⟨rfl,rfl⟩ ?_;rintro m y _ ⟨rfl,rfl⟩ R3 hR3;simp only[g,RR];exact Qa (h τ hB fun _ _=>rfl)
 obtain ⟨φ2,st2,hv, -⟩:=JU hB (by intro c;rw[List.map_eq_nil_iff] at c;rw[c,List.length_nil] at hWl;omega);generalize (W.map Qi).length=N at hv;subst hv;have hfl:∀ψ,ψ∉famL (.own φ2 st2 0 N)↔ψ≠φ2:=fun ψ=>by simp[famL]
 simp only[hfl] at h lav hφ;have lav1:∀τ1:AH,(∀ψ,ψ≠φ2→τ1 ψ=τ ψ)→lod (.ptr φ st i 1) τ1=some (.own φ2 st2 0 N):=lav;have pt1:∀t,anil (.ptr φ2 st2 t 0)=some (.ptr φ2 st2 t 0):=fun _=>rfl
 refine Ua os.length (fun k x τ1=>x=(.ptr φ st i 0,iv (os.length:Int),iv (k:Int),())∧Buf τ1 7 (.own φ2 st2 0 N) (((W.take k).map (pk1 os)++W.drop k).map Qi)∧∀ψ,ψ≠φ2→τ1 ψ=τ ψ) ⟨rfl,by simpa using hB,fun _ _=>rfl⟩ ?_;rintro k _ τ1 hk ⟨rfl,hB1,hk1⟩ R1 hR1;by_cases hkl:k<os.length
 case pos=>
  have g:(k:Int)<(os.length:Int):=by omega
  have hkW:k<W.length:=by omega
  have eo:os[k]=W[k].1:=by
   have:(W.map (·.1))[k]'(by simpa using hkW)=W[k].1:=by simp
   rw[←this];simp only[hos]
  rw[List.drop_eq_getElem_cons hkW] at hB1;have eN:∀C:Its,(W.take (k+1)).map (pk1 os)++C=(W.take k).map (pk1 os)++pk1 os W[k]::C:=fun C=>by
   rw[List.take_succ_eq_append_getElem hkW,List.map_append,List.append_assoc];rfl
  have hAl:((W.take k).map (pk1 os)).length=k:=by rw[List.length_map,List.length_take];omega
  have hom:=hfw.jump k hkl;rw[show opA os k=os[k] from (QaY hkl).symm,eo] at hom;generalize (W.take k).map (pk1 os)=A at hB1 eN hAl;generalize hp:W[k]=p at hB1 eN eo hom;obtain ⟨C,hC⟩:∃C,C=W.drop (k+1):=⟨_,rfl⟩;rw[←hC] at hB1;have next:∀τ3,Buf τ3 7 (.own φ2 st2 0 N) ((A++pk1 os p::C).map Qi)→(∀ψ,ψ≠φ2→τ3 ψ=τ1 ψ)→R1 (.ptr φ st i 0,iv (os.length:Int),iv ((k+1:Nat):Int),()) τ3:=fun τ3 h3 h4=>by
   refine hR1 _ τ3 τ3 hkl (.refl _) ⟨rfl,?_,fun ψ hψ=>(h4 ψ hψ).trans (hk1 ψ hψ)⟩;rw[←hC,eN];exact h3
  have r1:=(Qh4 hB1 (here (C:=C) hAl)).1;simp only[g,a0,lav1 τ1 hk1,r1,RR];by_cases c:p.1.kind=5∨p.1.kind=6
  case neg=>
   have c5:¬p.1.kind=5:=fun d=>c (.inl d)
   have c6:¬p.1.kind=6:=fun d=>c (.inr d)
   have e1:pk1 os p=p:=by unfold pk1 J8;rw[if_neg c]
   rw[e1] at next
   refine QF (fun m y τ2=>y=(.ptr φ st i 0,iv (os.length:Int),iv (k:Int),.ptr φ2 st2 k 0,iv 0,())∧τ1=τ2) 0 ⟨rfl,rfl⟩ ?_;rintro m y _ ⟨rfl,rfl⟩ R2 hR2;have g0:(0:Int)<(os.length:Int):=by omega
   obtain ⟨-,r2,r3⟩:=Qh4 hB1 (here (C:=C) hAl);simp only[g0,pt1,r2,c5,c6,Qh hkl (by omega),RR];exact next τ1 hB1 fun _ _=>rfl
  obtain ⟨j1,j2⟩:=hom c;obtain ⟨t0,ht0⟩:∃t:Nat,p.1.a=(t:Int):=⟨p.1.a.toNat,by omega⟩;have e1:pk1 os p=({p.1 with a:=(hop os os.length t0:Int)},p.2):=by unfold pk1 J8;rw[if_pos c,ht0];rfl
  have e0:p=({p.1 with a:=(t0:Int)},p.2):=by rw[←ht0]
  refine QF (fun m y τ2=>∃(j t:Nat),y=(.ptr φ st i 0,iv (os.length:Int),iv (k:Int),.ptr φ2 st2 k 0,iv (j:Int),())∧Buf τ2 7 (.own φ2 st2 0 N) ((A++({p.1 with a:=(t:Int)},p.2)::C).map Qi)∧(∀ψ,ψ≠φ2→τ2 ψ=τ1 ψ)∧k<t∧t<os.length∧hop os (os.length - j) t=hop os os.length t0∧j≤os.length∧os.length - j=m) os.length ⟨0,t0,rfl,by rw[←e0];exact hB1,fun _ _=>rfl,by omega,by omega,rfl,by omega,rfl⟩ ?_;rintro m y τ2 ⟨j,t,rfl,hB2,hk2,hkt,htl,hh,hj,rfl⟩ R2 hR2;have leave:t=hop os os.length t0→R1 (.ptr φ st i 0,iv (os.length:Int),iv ((k+1:Nat):Int),()) τ2:=fun ht=>next τ2 (by rw[e1,←ht];exact hB2) hk2
  have hkk:∀ψ,ψ≠φ2→τ2 ψ=τ ψ:=fun ψ hψ=>(hk2 ψ hψ).trans (hk1 ψ hψ)
  obtain ⟨-,r2,r3⟩:=Qh4 hB2 (here (C:=C) hAl);have htW:t<W.length:=by omega
  obtain ⟨q1,q2,q3⟩:=Qh4 (w:=W[t]) hB2 (by rw[Qbw hAl hC hkt];exact List.getElem?_eq_getElem htW);have eo2:opA os t=W[t].1:=by
   have e:(W.map (·.1))[t]'(by simpa using htW)=W[t].1:=by simp
   rw[←e];simp only[hos];exact (QaY htl).symm
  have r2':lod (.ptr φ2 st2 k 0) τ2=some (iv p.1.kind):=r2;have r3':lod (.ptr φ2 st2 k 1) τ2=some (iv (t:Int)):=r3;have d6:¬(6:Int)=5:=by decide
  by_cases cj:j<os.length
  case neg=>
   have g2:¬(j:Int)<(os.length:Int):=by omega
   simp only[g2,Qh hkl (by omega),RR];exact leave (by rw[←hh,show os.length - j=0 by omega];rfl)
  have g2:(j:Int)<(os.length:Int):=by omega
  by_cases ck:W[t].1.kind=5
  case neg=>
   rcases c with c|c
   all_goals (
    simp only[g2,pt1,r2',c,d6,a0,lav1 τ2 hkk,r3',q1,q2,ck,Qh hkl (by omega),RR];exact leave (by rw[←hh,QrV (by rw[eo2];exact ck)]))
  have hj2:=hfw.jump t htl (.inl (by rw[eo2];exact ck));rw[eo2] at hj2;obtain ⟨t2,ht2⟩:∃t2:Nat,W[t].1.a=(t2:Int):=⟨W[t].1.a.toNat,by omega⟩;have hh2:hop os (os.length - (j+1)) t2=hop os os.length t0:=by
   rw[show os.length - j=(os.length - (j+1))+1 by omega,hop,eo2,if_pos ck,ht2] at hh;exact hh
  rcases c with c|c
  all_goals (
   simp only[g2,pt1,r2',c,d6,a0,lav1 τ2 hkk,r3',q1,q2,q3,ck,ht2,RR];rw[←hAl];refine QwU (q:=({p.1 with a:=(t2:Int)},p.2)) hB2 (by omega) rfl rfl fun τ3 h3 h4=>?_
   rw[hAl];simp only[Qh cj (by omega),RR];exact ⟨trivial,hR2 _ _ (os.length - (j+1)) _ (by omega) (.refl _) ⟨j+1,t2,rfl,h3,fun ψ hψ=>(h4 ψ hψ).trans (hk2 ψ hψ),by omega,by omega,hh2,cj,rfl⟩⟩)
 have g:¬(k:Int)<(os.length:Int):=by omega
 obtain rfl:k=os.length:=by omega
 rw[←hWl,List.take_length,List.drop_length,List.append_nil] at hB1;simp only[g,RR];have hV1:∀p,p∈W.map (pk1 os)→p.2.one=true:=fun p hp=>by
  obtain ⟨q,hq,rfl⟩:=List.mem_map.1 hp;exact hone q hq
 have hVk:∀t (ht:t<os.length),∃w,(W.map (pk1 os))[t]? =some w∧w.1.kind=(opA os t).kind∧(jmp w.1→(t:Int)<w.1.a∧w.1.a<(os.length:Int)):=fun t ht=>by
  have htW:t<W.length:=by omega
  have eo2:opA os t=W[t].1:=by
   have e:(W.map (·.1))[t]'(by simpa using htW)=W[t].1:=by simp
   rw[←e];simp only[hos];exact (QaY ht).symm
  have hm:opA os t∈os:=by rw[show opA os t=os[t] from (QaY ht).symm];exact List.getElem_mem ht
  obtain ⟨-,s2, -, -⟩:=Qnk hfw hm;refine ⟨pk1 os W[t],by rw[List.getElem?_map,List.getElem?_eq_getElem htW];rfl,by rw[eo2];rw[eo2] at s2;exact s2,fun j=>?_⟩;have j':(opA os t).kind=5∨(opA os t).kind=6:=by
   have:(pk1 os W[t]).1.kind=(opA os t).kind:=by rw[eo2];rw[eo2] at s2;exact s2
   unfold jmp at j
   rwa [this] at j
  have hj:=hfw.jump t ht j';have e1:(pk1 os W[t]).1={opA os t with a:=(hop os os.length (opA os t).a.toNat:Int)}:=by
   rw[eo2] at j' ⊢;unfold pk1 J8;rw[if_pos j']
  rw[e1];have hl:=Qu4 hfw os.length (opA os t).a.toNat (by omega);constructor
  ·show (t:Int)<(hop os os.length (opA os t).a.toNat:Int);omega
  ·show (hop os os.length (opA os t).a.toNat:Int)<_;omega
 have hVl:(W.map (pk1 os)).length=os.length:=by simp[hWl]
 clear hlb lav0 lav hos hone hr hfw;generalize W.map (pk1 os)=V at hV1 hVk hVl hB1 h;refine Ua os.length (fun k x τ2=>x=(.ptr φ st i 0,iv (os.length:Int),iv (k:Int),())∧Buf τ2 7 (.own φ2 st2 0 N) (((V.take k).map (pk2 os)++V.drop k).map Qi)∧∀ψ,ψ≠φ2→τ2 ψ=τ ψ) ⟨rfl,by simpa using hB1,hk1⟩ ?_;rintro k _ τ2 hk ⟨rfl,hB2,hk2⟩ R3 hR3;by_cases hkl:k<os.length
 case neg=>
  have g:¬(k:Int)<(os.length:Int):=by omega
  obtain rfl:k=os.length:=by omega
  rw[←hVl,List.take_length,List.drop_length,List.append_nil] at hB2;simp only[g,RR];exact Qa (h τ2 hB2 hk2)
 have g:(k:Int)<(os.length:Int):=by omega
 have hkV:k<V.length:=by omega
 obtain ⟨w,hw,hwk,hwj⟩:=hVk k hkl;have ew:V[k]=w:=by rw[List.getElem?_eq_getElem hkV] at hw;exact Option.some.inj hw
 rw[List.drop_eq_getElem_cons hkV,ew] at hB2;have eN:∀C:Its,(V.take (k+1)).map (pk2 os)++C=(V.take k).map (pk2 os)++pk2 os w::C:=fun C=>by
  rw[List.take_succ_eq_append_getElem hkV,ew,List.map_append,List.append_assoc];rfl
 have hAl:((V.take k).map (pk2 os)).length=k:=by rw[List.length_map,List.length_take];omega
 generalize (V.take k).map (pk2 os)=A at hB2 eN hAl;obtain ⟨C,hC⟩:∃C,C=V.drop (k+1):=⟨_,rfl⟩;rw[←hC] at hB2;have next:∀τ3,Buf τ3 7 (.own φ2 st2 0 N) ((A++pk2 os w::C).map Qi)→(∀ψ,ψ≠φ2→τ3 ψ=τ2 ψ)→R3 (.ptr φ st i 0,iv (os.length:Int),iv ((k+1:Nat):Int),()) τ3:=fun τ3 h3 h4=>by
  refine hR3 _ τ3 τ3 hkl (.refl _) ⟨rfl,?_,fun ψ hψ=>(h4 ψ hψ).trans (hk2 ψ hψ)⟩;rw[←hC,eN];exact h3
 obtain ⟨r1,r2,r3⟩:=Qh4 hB2 (here (C:=C) hAl);simp only[g,RR];refine J3 (P:=fun z τ3=>z=(.ptr φ st i 0,iv (os.length:Int),iv (k:Int),())∧Buf τ3 7 (.own φ2 st2 0 N) ((A++pk2 os w::C).map Qi)∧∀ψ,ψ≠φ2→τ3 ψ=τ2 ψ) ?_ ?_
 ·rintro z τ3 ⟨rfl,h3,h4⟩;simp only[Qh hkl (by omega),RR];exact next τ3 h3 h4
 intro k4 hk4;by_cases c5:w.1.kind=5
 case neg=>
  have e2:pk2 os w=w:=by unfold pk2;rw[if_neg (fun c=>c5 c.1)]
  rw[e2] at hk4;simp only[a0,lav1 τ2 hk2,r1,pt1,r2,c5,RR];exact hk4 _ τ2 ⟨rfl,hB2,fun _ _=>rfl⟩
 obtain ⟨j1,j2⟩:=hwj (.inl c5);obtain ⟨t,ht⟩:∃t:Nat,w.1.a=(t:Int):=⟨w.1.a.toNat,by omega⟩;obtain ⟨w2,hw2,hwk2, -⟩:=hVk t (by omega);obtain ⟨q1,q2, -⟩:=Qh4 (w:=w2) (t:=t) hB2 (by rw[Qbw (t:=t) hAl hC (by omega)];exact hw2);rw[hwk2] at q2;have eb:bld [(iv 0),(iv 0),(iv 0),(iv 0),(iv 0),(.val (.string ⟨#[]⟩)),nilS] [(0,1),(1,1),(2,1),(3,1),(4,1),(5,1),(6,1)] [(0,(iv 12))]=some (.agg (Qi (oc0 12,nilS))):=rfl;by_cases c12:(opA os t).kind=12
 ·have e2:pk2 os w=(oc0 12,nilS):=by unfold pk2;rw[if_pos ⟨c5,by rw[ht];exact c12⟩]
  rw[e2] at hk4;simp only[a0,lav1 τ2 hk2,r1,pt1,r2,c5,r3,ht,q1,q2,c12,eb,RR];rw[←hAl];refine QwV (q:=(oc0 12,nilS)) hB2 rfl fun τ3 h3 h4=>?_
  rw[hAl];exact hk4 _ τ3 ⟨rfl,h3,h4⟩
 ·have e2:pk2 os w=w:=by unfold pk2;rw[if_neg (by rw[ht];exact fun c=>c12 c.2)]
  rw[e2] at hk4;simp only[a0,lav1 τ2 hk2,r1,pt1,r2,c5,r3,ht,q1,q2,c12,RR];exact hk4 _ τ2 ⟨rfl,hB2,fun _ _=>rfl⟩
set_option maxHeartbeats 1000000 in
theorem Ql2 {bs:List Blk} (hb:bC 1048576 bs) (hFw:FwC bs) (h:∀v B τ,cont B=bs.map Qeh→NewB σ τ v B→R (.ret v) τ):acall TP QaB [roBk bs] σ R:=by
 have hl:=hFw.1;refine Qiq ?_;unfold x58;dsimp only[den,dE,di,tupL,lTup,den2,den3,den4,List.map,den0,den1];refine Qjy hb.1 (fun b hm=>⟨(hb.2 b hm).1,fun o ho=>((hb.2 b hm).2 o ho).2.1⟩) fun v B0 τ0 hc0 hN0=>?_
 simp only[RR];refine Ua bs.length (fun i x τ=>∃B,x=(v,iv (i:Int),())∧cont B=(bs.take i).map Qeh++bs.drop i∧NewB σ τ v B) ⟨B0,rfl,by simpa using hc0,hN0⟩ ?_;rintro i _ τ hi ⟨B,rfl,hcB,hN⟩ R' hR';have hlv:=Jj hN.own.1;have hBl:(B.map fun b=>[iv b.args,b.av]).length=bs.length:=by have:=congrArg List.length hcB;simp[cont] at this;simp[this];omega
 rw[hBl] at hlv;simp only[hlv,RR];by_cases hlt:i<bs.length
 case neg=>
  have g:¬(i:Int)<(bs.length:Int):=by omega
  obtain rfl:i=bs.length:=by omega
  rw[List.take_length,List.drop_length,List.append_nil] at hcB;simp only[g,RR];exact Qa (h v B τ hcB hN)
 have g:(i:Int)<(bs.length:Int):=by omega
 have hfw:=hFw.2 _ (List.getElem_mem hlt);rw[List.drop_eq_getElem_cons hlt] at hcB;obtain ⟨BA,b,BC,rfl,hcA,hcb,hcC,hAl⟩:=Qef hcB;have hAl:BA.length=i:=by rw[hAl];simp;omega
 have hba:b.args=bs[i].args:=congrArg Blk.args hcb;have hbo:b.its.map (·.1)=bs[i].ops:=congrArg Blk.ops hcb
 have hbH:OpsH τ b.av b.its:=hN.own.2 b (by simp);obtain ⟨φ,st,hv,hFv⟩:=JU hN.own.1 (by simp);have ix:=Jg (st:=st) (off:=0) hFv (show i<((BA++b::BC).map fun b=>[iv b.args,b.av]).length by simp;omega);rw[Nat.zero_add,←hv] at ix;have hφ:φ∉famL b.av:=fun c=>by
  have:=hN.nd;have e:Jz v (BA++b::BC)=famL v++(bsF BA++((famL b.av++itsF b.its)++bsF BC)):=by
   have:bsF (BA++b::BC)=bsF BA++((famL b.av++itsF b.its)++bsF BC):=by rw[UZ,UR];rfl
   rw[←this];rfl
  rw[e] at this;exact (Qo.1 this).2.2 φ (by rw[hv];simp[famL]) (by simp[c])
 simp only[g,ix,RR];refine QpH (n:=b.args) (av:=b.av) hFv rfl (by subst hAl;simp) hbH.1 hbo (fun p hp=>(hbH.2 p hp).av1) hfw hφ fun τ1 hB1 hk1=>?_
 simp only[Qh hlt (by omega),RR];refine hR' _ τ1 τ1 hlt (.refl _) ⟨BA++⟨b.args,b.av,(b.its.map (pk1 bs[i].ops)).map (pk2 bs[i].ops)⟩::BC,rfl,?_,hN.at ?_ hB1 ?_ hk1⟩
 ·have e1:cont (BA++⟨b.args,b.av,(b.its.map (pk1 bs[i].ops)).map (pk2 bs[i].ops)⟩::BC)=cont BA++⟨b.args,((b.its.map (pk1 bs[i].ops)).map (pk2 bs[i].ops)).map (·.1)⟩::cont BC:=by simp[cont]
  rw[e1,hcA,hcC,Qta hbo,hba,List.take_succ_eq_append_getElem hlt,List.map_append,List.append_assoc];rfl
 ·have:=Qs8 bs[i].ops (b.its.map (pk1 bs[i].ops))
  rwa [Qs9] at this
 ·exact (ItsH.pk1 hbH.2).pk2
end
section
set_option maxRecDepth 100000
variable [L:Lam] {σ τ τ':AH} {R:AEnd→AH→Prop}
def Bfj (τ:AH) (sz:Nat) (a:AV) (es:List (List AV)):Prop:=
 ((a= .val (.slice none 0 0)∨a= .emp)∧es=[])∨∃φ st jk,a= .own φ st 0 es.length∧τ φ=some ⟨st,sz,es++jk⟩
section
variable {sz:Nat} {a:AV} {es:List (List AV)}
theorem Bfj.nil:Bfj τ sz nilS []:= .inl ⟨.inl rfl,rfl⟩
theorem Bfj.len (h:Bfj τ sz a es):lenS a=some (iv (es.length:Int)):=by
 rcases h with ⟨rfl|rfl,rfl⟩|⟨φ,st,jk,rfl,_⟩<;>rfl
theorem Bfj.keep (h:Bfj τ sz a es) (hk:∀ψ,ψ∈famL a→τ' ψ=τ ψ):Bfj τ' sz a es:=by
 rcases h with h|⟨φ,st,jk,rfl,hF⟩
 ·exact .inl h
 ·exact .inr ⟨φ,st,jk,rfl,by rw[hk φ (by simp[famL])];exact hF⟩
theorem Bfj.live (h:Bfj τ sz a es) {ψ:Nat} (hm:ψ∈famL a):∃F,τ ψ=some F:=by
 rcases h with ⟨rfl|rfl,rfl⟩|⟨φ,st,jk,rfl,hF⟩
 ·cases hm
 ·cases hm
 ·obtain rfl:ψ=φ:=by simpa[famL] using hm
  exact ⟨_,hF⟩
theorem Bfj.one (h:Bfj τ sz a es):a.one=true:=by
 rcases h with ⟨rfl|rfl,rfl⟩|⟨φ,st,jk,rfl,_⟩<;>rfl
theorem Bfj.at (h:Bfj τ sz a es) {i:Nat} (hi:i<es.length):∃φ st,idx sz a (iv (i:Int)) τ=some (.ptr φ st i 0)∧∀off c,es[i][off]? =some c→lod (.ptr φ st i off) τ=some c:=by
 rcases h with ⟨_,rfl⟩|⟨φ,st,jk,rfl,hF⟩
 ·simp at hi
 ·refine ⟨φ,st,?_,fun off c hc=>Qz hF rfl ?_⟩
  ·have:=Jg (st:=st) (off:=0) hF hi
   rwa [Nat.zero_add] at this
  ·simp[List.getD,List.getElem?_append_left hi,List.getElem?_eq_getElem hi,hc]
theorem Bfj.app {x:AV} {xs:List (List AV)} {k:AV→AH→Prop} (h:Bfj τ sz a es) (hx:QL τ x=some xs) (hs:∀c,c∈xs→c.length=sz) (ho:∀c,c∈xs→∀y,y∈c→y.one=true) (hn:es.length+xs.length≤4294967296)
  (hk:∀a' τ',Bfj τ' sz a' (es++xs)→Kp (famL a) τ τ'→(∀ψ,ψ∈famL a'→ψ∈famL a∨τ ψ=none)→k a' τ'):E.app sz a x τ k:=by
 unfold E.app;rw[hx];refine ⟨hs,?_⟩;rcases h with ⟨rfl|rfl,rfl⟩|⟨φ,st,jk,rfl,hF⟩
 ·simp only;refine ⟨by simpa using hn,?_,?_⟩
  ·rintro rfl;exact hk _ _ (.inl ⟨.inl rfl,rfl⟩) (Kp.refl _ _) (fun ψ h=> .inl h)
  ·intro hne φ hφ;refine hk _ _ (.inr ⟨φ,0,[],by simp,by simp⟩) (Kp.of_sub (.set (.refl τ) _ hφ)) (fun ψ e=>?_);obtain rfl:ψ=φ:=by simpa[famL] using e
   exact .inr hφ
 ·simp only;refine ⟨by simpa using hn,?_,?_⟩
  ·rintro rfl;exact hk _ _ (.inl ⟨.inr rfl,rfl⟩) (Kp.refl _ _) (fun ψ h=> .inl h)
  ·intro hne φ hφ;refine hk _ _ (.inr ⟨φ,0,[],by simp,by simp⟩) (Kp.of_sub (.set (.refl τ) _ hφ)) (fun ψ e=>?_);obtain rfl:ψ=φ:=by simpa[famL] using e
   exact .inr hφ
 ·simp only[hF];refine ⟨trivial,trivial,by simp,by simpa using hn,ho,?_⟩;refine hk _ _ (.inr ⟨φ,if 0+es.length+xs.length≤(es++jk).length then st else st+1,(es++jk).drop (0+es.length+xs.length),by simp,?_⟩) (fun ψ h _=>AH.set_ne' (by rintro rfl;exact h (by simp[famL]))) (fun ψ e=>?_)
  ·rw[AH.set_same,Nat.zero_add,List.take_left' rfl]
  ·exact .inl (by simpa[famL] using e)
theorem Bfj.cut (h:Bfj τ sz a es) (hne:es≠[]) {m:Nat} (hm:m≤es.length):∃a',slc sz a none (some (iv (m:Int))) none τ=some a'∧Bfj τ sz a' (es.take m)∧famL a'=famL a:=by
 rcases h with ⟨_,rfl⟩|⟨φ,st,jk,rfl,hF⟩
 ·exact absurd rfl hne
 ·refine ⟨.own φ st 0 m,?_,.inr ⟨φ,st,es.drop m++jk,?_,?_⟩,rfl⟩
  ·have e1:abd none 0=some 0:=rfl;have e2:abd (some (iv (m:Int))) es.length=some m:=by simp[abd]
   simp only[slc,hF,e1,e2];rw[if_pos ⟨Nat.zero_le _,hm,trivial,trivial⟩];simp
  ·rw[List.length_take,Nat.min_eq_left hm]
  ·rw[←List.append_assoc,List.take_append_drop];exact hF
theorem Bfj.fz (h:Bfj τ sz a es) (h0:∀ψ,ψ∈famL a→σ ψ=none) (hz:∀c,c∈es→c.length=sz):Fz σ τ a (.ro es):=by
 rcases h with ⟨rfl|rfl,rfl⟩|⟨φ,st,jk,rfl,hF⟩
 ·exact .nil
 ·exact .emp
 ·refine .own hF (h0 φ (by simp[famL])) rfl (by simp) rfl (fun i hi=>?_) fun i j hi hj=>?_
  ·rw[show es.getD i []=es[i] by simp[List.getD,List.getElem?_eq_getElem hi]];exact hz _ (List.getElem_mem hi)
  ·rw[Nat.zero_add,show (es++jk).getD i []=es.getD i [] by simp[List.getD,List.getElem?_append_left hi]];exact .same _
theorem Buf.bfj (h:Buf τ sz a es):Bfj τ sz a es:=by
 rcases h with h|⟨φ,st,rfl,hF⟩
 ·exact .inl h
 ·exact .inr ⟨φ,st,[],rfl,by simpa using hF⟩
end
inductive Fd where
 |fix (a:AV)
 |lst (sz:Nat) (es:List (List AV))
def FdOk (τ:AH):Fd→AV→Prop
 | .fix a,v=>v=a∧famL a=[]∧a.one=true
 | .lst sz es,v=>Bfj τ sz v es
theorem FdOk.keep {f:Fd} {v:AV} (h:FdOk τ f v) (hk:∀ψ,ψ∈famL v→τ' ψ=τ ψ):FdOk τ' f v:=by
 cases f with
 |fix a=>exact h
 |lst sz es=>exact Bfj.keep h hk
theorem FdOk.live {f:Fd} {v:AV} (h:FdOk τ f v) {ψ:Nat} (hm:ψ∈famL v):∃F,τ ψ=some F:=by
 cases f with
 |fix a=>obtain ⟨rfl,h2,_⟩:=h;rw[h2] at hm;cases hm
 |lst sz es=>exact Bfj.live h hm
theorem FdOk.one {f:Fd} {v:AV} (h:FdOk τ f v):v.one=true:=by
 cases f with
 |fix a=>obtain ⟨rfl,_,h3⟩:=h;exact h3
 |lst sz es=>exact Bfj.one h
structure MSt (σ τ:AH) (φm:Nat) (fd:List Fd):Prop where
 ex:∃vs:List AV,τ φm=some ⟨0,fd.length,[vs]⟩∧vs.length=fd.length∧(∀i f,fd[i]? =some f→FdOk τ f (vs.getD i .any))∧
  (∀i j ψ,i≠j→ψ∈famL (vs.getD i .any)→ψ∉famL (vs.getD j .any))∧∀i ψ,ψ∈famL (vs.getD i .any)→ψ≠φm∧σ ψ=none
 fr:σ φm=none
 sub:AH.Sub σ τ
section
variable {φm i:Nat} {fd:List Fd}
theorem QrW {vs:List AV} {i:Nat} (h:vs.length≤i):vs.getD i .any= .any:=by simp[List.getD,List.getElem?_eq_none h]
theorem MSt.live' {vs:List AV} (hl:vs.length=fd.length) (hf:∀i f,fd[i]? =some f→FdOk τ f (vs.getD i .any)) {i ψ:Nat} (hm:ψ∈famL (vs.getD i .any)):∃F,τ ψ=some F:=by
 rcases Nat.lt_or_ge i fd.length with c|c
 ·exact (hf i _ (List.getElem?_eq_getElem c)).live hm
 ·rw[QrW (by omega)] at hm;cases hm
theorem MSt.fld (h:MSt σ τ φm fd) {f:Fd} (hi:fd[i]? =some f):∃v,lod (.ptr φm 0 0 i) τ=some v∧FdOk τ f v:=by
 obtain ⟨vs,h1,h2,h3,_⟩:=h.ex;have hlt:=(List.getElem?_eq_some_iff.1 hi).1;refine ⟨vs.getD i .any,Qz h1 rfl ?_,h3 i f hi⟩;have:i<vs.length:=by omega
 simp[List.getD,List.getElem?_eq_getElem this]
theorem MSt.fix (h:MSt σ τ φm fd) {a:AV} (hi:fd[i]? =some (.fix a)):lod (.ptr φm 0 0 i) τ=some a:=by
 obtain ⟨v,h1,rfl,_⟩:=h.fld hi;exact h1
theorem MSt.lst (h:MSt σ τ φm fd) {sz:Nat} {es:List (List AV)} (hi:fd[i]? =some (.lst sz es)):∃v,lod (.ptr φm 0 0 i) τ=some v∧Bfj τ sz v es:=h.fld hi
theorem MSt.keep (h:MSt σ τ φm fd) {σ':AH} (hk:∀ψ,τ ψ≠none→(ψ=φm∨σ ψ=none)→σ' ψ=none∧τ' ψ=τ ψ) (hm:τ φm≠none→σ' φm=none∧τ' φm=τ φm) (hs:AH.Sub σ' τ'):MSt σ' τ' φm fd:=by
 obtain ⟨vs,h1,h2,h3,h4,h5⟩:=h.ex;have hm':=hm (by rw[h1];simp);have hl:∀i ψ,ψ∈famL (vs.getD i .any)→σ' ψ=none∧τ' ψ=τ ψ:=fun i ψ hψ=>by
  obtain ⟨F,hF⟩:=MSt.live' h2 h3 hψ;exact hk ψ (by rw[hF];simp) (.inr (h5 i ψ hψ).2)
 exact ⟨⟨vs,by rw[hm'.2];exact h1,h2,fun i f hf=>(h3 i f hf).keep fun ψ hψ=>(hl i ψ hψ).2,h4,fun i ψ hψ=>⟨(h5 i ψ hψ).1,(hl i ψ hψ).1⟩⟩,hm'.1,hs⟩
theorem MSt.grow (h:MSt σ τ φm fd) (hs:AH.Sub τ τ'):MSt σ τ' φm fd:=by
 have key:∀ψ,τ ψ≠none→τ' ψ=τ ψ:=fun ψ hn=>by
  cases e:τ ψ with
  |none=>exact absurd e hn
  |some F=>exact hs _ _ e
 refine h.keep (fun ψ hn hc=>⟨?_,key ψ hn⟩) (fun hn=>⟨h.fr,key _ hn⟩) (h.sub.trans hs);rcases hc with rfl|hc
 ·exact h.fr
 ·exact hc
theorem MSt.drop (h:MSt σ τ φm fd) {σ':AH} (hs:AH.Sub σ' σ):MSt σ' τ φm fd:=by
 refine h.keep (fun ψ hn hc=>⟨?_,rfl⟩) (fun hn=>⟨hs.none h.fr,rfl⟩) (hs.trans h.sub);rcases hc with rfl|hc
 ·exact hs.none h.fr
 ·exact hs.none hc
theorem MSt.set2 (h:MSt σ τ φm fd) {ψ:Nat} (Z:Fam) (hψ:τ ψ=none∨σ ψ≠none):MSt (σ.set ψ Z) (τ.set ψ Z) φm fd:=by
 obtain ⟨vs,h1,_⟩:=h.ex;have hne:∀χ,τ χ≠none→(χ=φm∨σ χ=none)→χ≠ψ:=fun χ hn hc e=>by
  subst e;rcases hψ with c|c
  ·exact hn c
  ·rcases hc with rfl|hc
   ·exact c h.fr
   ·exact c hc
 refine h.keep (fun χ hn hc=>?_) (fun hn=>?_) (AH.Sub.set_both h.sub ψ Z)
 ·have:=hne χ hn hc;refine ⟨?_,AH.set_ne' this⟩;rw[AH.set_ne' this];rcases hc with rfl|hc
  ·exact h.fr
  ·exact hc
 ·have:=hne φm hn (.inl rfl);exact ⟨by rw[AH.set_ne' this];exact h.fr,AH.set_ne' this⟩
theorem MSt.del2 (h:MSt σ τ φm fd) {ψ:Nat} (hψ:σ ψ≠none):MSt (σ.del ψ) (τ.del ψ) φm fd:=by
 have hne:∀χ,(χ=φm∨σ χ=none)→χ≠ψ:=fun χ hc e=>by
  subst e;rcases hc with rfl|hc
  ·exact hψ h.fr
  ·exact hψ hc
 have hd:∀(α:AH) χ,χ≠ψ→(α.del ψ) χ=α χ:=fun α χ hc=>by simp[AH.del,hc]
 refine h.keep (fun χ hn hc=>?_) (fun hn=>?_) fun χ F hF=>?_
 ·have:=hne χ hc;refine ⟨?_,hd _ _ this⟩;rw[hd _ _ this];rcases hc with rfl|hc
  ·exact h.fr
  ·exact hc
 ·have:=hne φm (.inl rfl);exact ⟨by rw[hd _ _ this];exact h.fr,hd _ _ this⟩
 ·by_cases c:χ=ψ
  ·subst c;simp[AH.del] at hF
  ·rw[hd _ _ c] at hF ⊢;exact h.sub _ _ hF
theorem MSt.new {vs:List AV} {φ:Nat} (hφ:σ φ=none) (hl:vs.length=fd.length) (hf:∀i f,fd[i]? =some f→FdOk (σ.set φ ⟨0,fd.length,[vs]⟩) f (vs.getD i .any)) (h0:∀v,v∈vs→famL v=[]):MSt σ (σ.set φ ⟨0,fd.length,[vs]⟩) φ fd:=by
 have h0':∀i,famL (vs.getD i .any)=[]:=fun i=>by
  rcases Nat.lt_or_ge i vs.length with c|c
  ·rw[show vs.getD i .any=vs[i] by simp[List.getD,List.getElem?_eq_getElem c]];exact h0 _ (List.getElem_mem c)
  ·rw[QrW c];rfl
 exact ⟨⟨vs,AH.set_same ..,hl,hf,(fun i j ψ _ hψ=>by rw[h0'] at hψ;cases hψ),fun i ψ hψ=>by rw[h0'] at hψ;cases hψ⟩,hφ,.set (.refl σ) _ hφ⟩
theorem MSt.put {f f':Fd} {v v':AV} {τ1:AH} {k':AH→Prop} (h:MSt σ τ φm fd) (hi:fd[i]? =some f) (hv:lod (.ptr φm 0 0 i) τ=some v) (hf:FdOk τ1 f' v') (hK:Kp (famL v) τ τ1) (hfam:∀ψ,ψ∈famL v'→ψ∈famL v∨τ ψ=none)
  (hk:∀τ2,MSt σ τ2 φm (fd.set i f')→k' τ2):sto 1 (.ptr φm 0 0 i) v' τ1 k':=by
 obtain ⟨vs,h1,h2,h3,h4,h5⟩:=h.ex;have hlt:=(List.getElem?_eq_some_iff.1 hi).1;have hlv:i<vs.length:=by omega
 obtain rfl:v=vs.getD i .any:=by
  have:lod (.ptr φm 0 0 i) τ=some (vs.getD i .any):=Qz h1 rfl (by simp[List.getD,List.getElem?_eq_getElem hlv]);rw[this] at hv;exact (Option.some.inj hv).symm
 have hm:φm∉famL (vs.getD i .any):=fun c=>(h5 i φm c).1 rfl
 have h1':τ1 φm=some ⟨0,fd.length,[vs]⟩:=by rw[hK φm hm (by rw[h1];simp)];exact h1
 refine Q4 (cs:=vs) h1' rfl (by omega) (JO hf.one) hf.one (hk _ ?_);have e0:[vs].set 0 (vs.set i v')=[vs.set i v']:=rfl;rw[e0];have gi:(vs.set i v').getD i .any=v':=by simp[List.getD,hlv]
 have gj:∀j,j≠i→(vs.set i v').getD j .any=vs.getD j .any:=fun j hj=>by simp[List.getD,List.getElem?_set_ne (Ne.symm hj)]
 have hmv:φm∉famL v':=fun c=>(hfam φm c).elim hm fun d=>by rw[h1] at d;cases d
 have tk:∀ψ,ψ≠φm→(τ1.set φm ⟨0,fd.length,[vs.set i v']⟩) ψ=τ1 ψ:=fun ψ hψ=>AH.set_ne' hψ
 have oth:∀j,j≠i→∀ψ,ψ∈famL (vs.getD j .any)→ψ∉famL (vs.getD i .any)∧ψ≠φm∧τ ψ≠none:=fun j hj ψ hψ=>by
  obtain ⟨F,hF⟩:=MSt.live' h2 h3 hψ;exact ⟨h4 j i ψ hj hψ,(h5 j ψ hψ).1,by rw[hF];simp⟩
 refine ⟨⟨vs.set i v',by rw[AH.set_same];simp,by simpa using h2,fun j g hg=>?_,fun j l ψ hjl hψ=>?_,fun j ψ hψ=>?_⟩,h.fr,fun ψ F hF=>?_⟩
 ·by_cases c:j=i
  ·subst c;rw[List.getElem?_set_self hlt] at hg;obtain rfl:=Option.some.inj hg;rw[gi];exact hf.keep fun ψ hψ=>tk ψ (by rintro rfl;exact hmv hψ)
  ·rw[List.getElem?_set_ne (Ne.symm c)] at hg;rw[gj j c];refine (h3 j g hg).keep fun ψ hψ=>?_
   obtain ⟨o1,o2,o3⟩:=oth j c ψ hψ;rw[tk ψ o2,hK ψ o1 o3]
 ·by_cases c:j=i
  ·subst c;rw[gi] at hψ;rw[gj l (Ne.symm hjl)];intro d;obtain ⟨o1,o2,o3⟩:=oth l (Ne.symm hjl) ψ d;exact (hfam ψ hψ).elim o1 o3
  ·rw[gj j c] at hψ;obtain ⟨o1,o2,o3⟩:=oth j c ψ hψ;by_cases c2:l=i
   ·subst c2;rw[gi];intro d;exact (hfam ψ d).elim o1 o3
   ·rw[gj l c2];exact h4 j l ψ hjl hψ
 ·by_cases c:j=i
  ·subst c;rw[gi] at hψ;refine ⟨by rintro rfl;exact hmv hψ,?_⟩;rcases hfam ψ hψ with d|d
   ·exact (h5 j ψ d).2
   ·exact h.sub.none d
  ·rw[gj j c] at hψ;exact h5 j ψ hψ
 ·have hne:ψ≠φm:=by rintro rfl;rw[h.fr] at hF;cases hF
  rw[tk ψ hne,hK ψ (fun c=>by rw[(h5 i ψ c).2] at hF;cases hF) (by rw[h.sub _ _ hF];simp)];exact h.sub _ _ hF
theorem MSt.app {sz:Nat} {es:List (List AV)} {row:List AV} {v x:AV} {k:AV→AH→Prop} (h:MSt σ τ φm fd) (hi:fd[i]? =some (.lst sz es)) (hv:lod (.ptr φm 0 0 i) τ=some v) (hx:QL τ x=some [row]) (hr:row.length=sz) (ho:∀y,y∈row→y.one=true) (hn:es.length+1≤4294967296)
  (hk:∀v' τ1,(∀k':AH→Prop,(∀τ2,MSt σ τ2 φm (fd.set i (.lst sz (es++[row])))→k' τ2)→sto 1 (.ptr φm 0 0 i) v' τ1 k')→k v' τ1):E.app sz v x τ k:=by
 obtain ⟨v2,e2,hb⟩:=h.lst hi;rw[hv] at e2;obtain rfl:=Option.some.inj e2;refine hb.app hx (by intro c hc;obtain rfl:=List.mem_singleton.1 hc;exact hr) (by intro c hc;obtain rfl:=List.mem_singleton.1 hc;exact ho) (by simpa using hn) fun v' τ1 hB hK hfam=>?_
 exact hk v' τ1 fun k' hk'=>h.put hi hv (f':= .lst sz (es++[row])) hB hK hfam hk'
theorem MSt.cut {sz:Nat} {es:List (List AV)} {v:AV} (h:MSt σ τ φm fd) (hi:fd[i]? =some (.lst sz es)) (hv:lod (.ptr φm 0 0 i) τ=some v) (hne:es≠[]) {m:Nat} (hm:m≤es.length):
  ∃v',slc sz v none (some (iv (m:Int))) none τ=some v'∧∀k':AH→Prop,(∀τ2,MSt σ τ2 φm (fd.set i (.lst sz (es.take m)))→k' τ2)→sto 1 (.ptr φm 0 0 i) v' τ k':=by
 obtain ⟨v2,e2,hb⟩:=h.lst hi;rw[hv] at e2;obtain rfl:=Option.some.inj e2;obtain ⟨v',h1,h2,h3⟩:=hb.cut hne hm;exact ⟨v',h1,fun k' hk'=>h.put hi hv (f':= .lst sz (es.take m)) h2 (Kp.refl _ _) (fun ψ hψ=> .inl (h3▸hψ)) hk'⟩
theorem MSt.fzl {sz:Nat} {es:List (List AV)} {v:AV} (h:MSt σ τ φm fd) (hi:fd[i]? =some (.lst sz es)) (hv:lod (.ptr φm 0 0 i) τ=some v) (hz:∀c,c∈es→c.length=sz):Fz σ τ v (.ro es):=by
 obtain ⟨vs,h1,h2,h3,h4,h5⟩:=h.ex;have hlt:=(List.getElem?_eq_some_iff.1 hi).1;have hlv:i<vs.length:=by omega
 obtain rfl:v=vs.getD i .any:=by
  have:lod (.ptr φm 0 0 i) τ=some (vs.getD i .any):=Qz h1 rfl (by simp[List.getD,List.getElem?_eq_getElem hlv]);rw[this] at hv;exact (Option.some.inj hv).symm
 exact Bfj.fz (h3 i _ hi) (fun ψ hψ=>(h5 i ψ hψ).2) hz
theorem MSt.app2 {sz:Nat} {es xs:List (List AV)} {a x:AV} {σ0:AH} {k:AV→AH→Prop} (h:MSt σ τ φm fd) (hs0:AH.Sub σ0 σ) (hB:Buf σ sz a es) (h0:∀ψ,ψ∈famL a→σ0 ψ=none) (hx:QL τ x=some xs) (hs:∀c,c∈xs→c.length=sz) (ho:∀c,c∈xs→∀y,y∈c→y.one=true) (hn:es.length+xs.length≤4294967296)
  (hk:∀a' σ' τ',MSt σ' τ' φm fd→AH.Sub σ0 σ'→Buf σ' sz a' (es++xs)→(∀ψ,ψ∈famL a'→σ0 ψ=none)→k a' τ'):E.app sz a x τ k:=by
 unfold E.app;rw[hx];refine ⟨hs,?_⟩;have new:∀φ,τ φ=none→k (.own φ 0 0 xs.length) (τ.set φ ⟨0,sz,xs⟩)∨es≠[]:=by
  intro φ hφ;by_cases c:es=[]
  ·left
   subst c;have hσ:σ φ=none:=h.sub.none hφ;refine hk _ _ _ (h.set2 ⟨0,sz,xs⟩ (.inl hφ)) (.set hs0 _ (hs0.none hσ)) (.inr ⟨φ,0,by simp,by simp⟩) fun ψ hψ=>?_
   obtain rfl:ψ=φ:=by simpa[famL] using hψ
   exact hs0.none hσ
  ·exact .inr c
 rcases hB with ⟨rfl|rfl,rfl⟩|⟨φ,st,rfl,hF⟩
 ·simp only;refine ⟨by simpa using hn,?_,fun _ φ hφ=>(new φ hφ).elim id fun c=>absurd rfl c⟩;rintro rfl;exact hk _ _ _ h hs0 (.inl ⟨.inl rfl,rfl⟩) h0
 ·simp only;refine ⟨by simpa using hn,?_,fun _ φ hφ=>(new φ hφ).elim id fun c=>absurd rfl c⟩;rintro rfl;exact hk _ _ _ h hs0 (.inl ⟨.inr rfl,rfl⟩) h0
 ·simp only[h.sub _ _ hF];refine ⟨trivial,trivial,by simp,by simpa using hn,ho,?_⟩;have hφ0:σ0 φ=none:=h0 φ (by simp[famL]);refine hk _ _ _ (h.set2 _ (.inr (by rw[hF];simp))) (.set hs0 _ hφ0) (.inr ⟨φ,if 0+es.length+xs.length≤es.length then st else st+1,by simp,by simp⟩) fun ψ hψ=>?_
  obtain rfl:ψ=φ:=by simpa[famL] using hψ
  exact hφ0
end
end
section
set_option maxRecDepth 100000
def skp:Bool→List UInt8→Nat
 |_,[]=>0
 |true,c::r=>if c.toNat=10 then skp false r+1 else skp true r+1
 |false,c::r=>if c.toNat=59 then skp true r+1 else if c.toNat=32∨c.toNat=10 then skp false r+1 else 0
def Je (c:UInt8):Int:=if c.toNat=40 then 1 else if c.toNat=41 then 2 else if c.toNat=39 then 3 else 0
def wrd:List UInt8→Nat
 |[]=>0
 |c::r=>if c.toNat=32∨c.toNat=10∨c.toNat=59∨Je c≠0 then 0 else wrd r+1
theorem Qu5:∀(l:List UInt8) (b:Bool),skp b l≤l.length:=by
 intro l
 induction l with
 |nil=>intro b;cases b<;>simp[skp]
 |cons c r ih=>
  intro b;have h1:=ih true;have h2:=ih false;cases b<;>simp only[skp,List.length_cons]<;>(repeat' split)<;>omega
theorem Qu6:∀l:List UInt8,wrd l≤l.length:=by
 intro l
 induction l with
 |nil=>simp[wrd]
 |cons c r ih=>simp only[wrd,List.length_cons];split<;>omega
theorem QwW {c:UInt8} {r:List UInt8} (h:c.toNat=32∨c.toNat=10∨c.toNat=59∨Je c≠0):wrd (c::r)=0:=by rw[wrd,if_pos h]
theorem QrX {c:UInt8} {r:List UInt8} (h1:¬c.toNat=32) (h2:¬c.toNat=10) (h3:¬c.toNat=59) (h4:Je c=0):wrd (c::r)=wrd r+1:=by
 rw[wrd,if_neg];rintro (a|a|a|a)
 ·exact h1 a
 ·exact h2 a
 ·exact h3 a
 ·exact a h4
structure Tok where
 kind:Int
 num:Int
 name:ByteArray
 deriving Inhabited
def Qw (x:Tok):List AV:=[iv x.kind,iv x.num,str x.name]
abbrev roT (xs:List Tok):AV:= .ro (xs.map Qw)
theorem Qa1 (x:Tok):(Qw x).length=3:=rfl
theorem Q8 (x:Tok):∀y,y∈Qw x→y.one=true:=by
 intro y hy;simp only[Qw,List.mem_cons,List.not_mem_nil,or_false] at hy;rcases hy with rfl|rfl|rfl<;>rfl
def Qag (l:List UInt8):Tok × Bool:=
 if QbD l then (⟨4,parV l,⟨#[]⟩⟩,true) else if bs l=⟨#[35,116]⟩ then (⟨5,1,⟨#[]⟩⟩,true) else if bs l=⟨#[35,102]⟩ then (⟨5,0,⟨#[]⟩⟩,true) else (⟨6,0,bs l⟩,Qax (bs l))
def toks (t:List UInt8):Nat→Nat→List Tok→List Tok × Int × Nat
 |0,_,out=>(out,0,0)
 |f+1,at_,out=>match t.drop at_ with
  |[]=>(out,0,0)
  |c::r=>
   if Je c≠0 then (if 120≤out.length then ([],2,at_) else toks t f (at_+1+skp false (t.drop (at_+1))) (out++[⟨Je c,0,⟨#[]⟩⟩]))
   else if (Qag ((c::r).take (wrd (c::r)))).2=false then ([],5,at_)
   else if 120≤out.length then ([],2,at_)
   else toks t f (at_+wrd (c::r)+skp false (t.drop (at_+wrd (c::r)))) (out++[(Qag ((c::r).take (wrd (c::r)))).1])
def tokR (t:List UInt8):List Tok × Int × Nat:=if 400<t.length then ([],2,0) else toks t (t.length+1) (skp false t) []
variable [L:Lam] {σ τ:AH} {R:AEnd→AH→Prop}
theorem UM {φ n:Nat} {zs cs:List AV} {w:AV} (hφ:σ φ=none) (hz:zs.length=n) (hc:cs.length=n) (h1:∀x,x∈cs→x.one=true) (h:R (.ret (.tup [.agg cs,w])) σ):
  sto n (.ptr φ 0 0 0) (.agg cs) (σ.set φ ⟨0,n,[zs]⟩) fun σ=>og (lodA n (.ptr φ 0 0 0) σ) fun r=>aret (.tup [r,w]) σ R:=by
 refine QH (es:=[zs]) (cs:=cs) (AH.set_same ..) (by simp) (by simpa using hz) rfl hc h1 ?_;simp only[List.set_cons_zero,AH.set_set];have e:=UG (σ:=σ.set φ ⟨0,n,[cs]⟩) (φ:=φ) (st:=0) (i:=0) (n:=n) (cs:=cs) (AH.set_same ..) rfl rfl hc;simp only[e,RR];exact Uk (.set (.refl σ) _ hφ) h
theorem Qtb {sz:Nat} {a x:AV} {es:List (List AV)} {z row:List AV} {k:AV→AH→Prop} (h:Buf τ sz a es) (he:JD sz [z] [(0,x)]=some [row]) (hs:sz≤1000) (hr:row.length=sz) (ho:∀y,y∈row→y.one=true) (hn:es.length+1≤4294967296)
  (hk:∀a' τ',Buf τ' sz a' (es++[row])→Kp (famL a) τ τ'→(∀ψ,ψ∈famL a'→ψ∈famL a∨τ ψ=none)→k a' τ'):bsl sz z 1 [(0,x)] τ fun v τ=>E.app sz a v τ k:=by
 refine bsl1 he (by omega) fun ψ hψ=>?_
 have hs1:AH.Sub τ (τ.set ψ ⟨0,sz,[row]⟩):= .set (.refl τ) _ hψ;refine Ui ((Kp.of_sub (F:=[]) hs1).buf h fun _ _ c=>by cases c) ael1 (by intro c hc;obtain rfl:=List.mem_singleton.1 hc;exact hr) (by intro c hc;obtain rfl:=List.mem_singleton.1 hc;exact ho) (by simpa using hn) fun a' τ' hB hK hfam=>hk a' τ' hB (fun χ hχ hn=>?_) fun χ hχ=>?_
 ·rw[hK χ hχ (by rw[AH.set_ne' (by rintro rfl;exact hn hψ)];exact hn),AH.set_ne' (by rintro rfl;exact hn hψ)]
 ·rcases hfam χ hχ with c|c
  ·exact .inl c
  ·exact .inr (hs1.none c)
theorem QrY (a b:Int):ibin .eql (u8v a) (u8v b)=some (bv (decide (a=b))):=(JH a b).2.2.2.2.1
theorem QbQ (a b:Int):ibin .neq (u8v a) (u8v b)=some (bv (!decide (a=b))):=(JH a b).2.2.2.2.2
theorem Qjz {c:UInt8} (h:R (.ret (iv (Je c))) σ):acall TP Qhp [u8v (c.toNat:Nat)] σ R:=by
 refine Qm3 ?_;unfold x208;dsimp only[den,dE,di,List.map,den0,den1];unfold Je at h;simp only[QrY,RR];by_cases c1:c.toNat=40
 ·have g:((c.toNat:Nat):Int)=40:=by omega
  rw[if_pos c1] at h;simp only[g,RR];exact Qa h
 rw[if_neg c1] at h;have g1:¬((c.toNat:Nat):Int)=40:=by omega
 by_cases c2:c.toNat=41
 ·have g:((c.toNat:Nat):Int)=41:=by omega
  rw[if_pos c2] at h;simp only[g,RR,show ¬(41:Int)=40 by omega];exact Qa h
 rw[if_neg c2] at h;have g2:¬((c.toNat:Nat):Int)=41:=by omega
 by_cases c3:c.toNat=39
 ·have g:((c.toNat:Nat):Int)=39:=by omega
  rw[if_pos c3] at h;simp only[g,RR,show ¬(39:Int)=40 by omega,show ¬(39:Int)=41 by omega];exact Qa h
 rw[if_neg c3] at h;have g3:¬((c.toNat:Nat):Int)=39:=by omega
 simp only[g1,g2,g3,RR];exact Qa h
theorem QjA {l:List UInt8} {p:Nat} (hp:p≤l.length) (hl:l.length≤1048576) (h:R (.ret (iv ((p+skp false (l.drop p):Nat):Int))) σ):acall TP Qho [str (bs l),iv (p:Int)] σ R:=by
 refine Qm2 ?_;unfold x207;dsimp only[den,dE,di,tupL,lTup,den2,den3,den4,List.map,den0,den1];refine QF (fun n x τ=>∃q:Nat,x=(str (bs l),iv (q:Int),())∧τ=σ∧l.length - q=n∧q≤l.length∧q+skp false (l.drop q)=p+skp false (l.drop p)) (l.length - p) ⟨p,rfl,rfl,rfl,hp,rfl⟩ ?_;rintro n x τ ⟨q,rfl,rfl,rfl,hq,e⟩ R' hR';simp only[Qm,RR];by_cases c:q<l.length
 ·have g:(q:Int)<(l.length:Int):=by omega
  have dc:=List.drop_eq_getElem_cons c;rw[dc] at e;have up:=Qh c (show l.length≤9223372036854775807 by omega);simp only[g,Q6 c,QrY,QbQ,RR];by_cases c1:l[q].toNat=59
  ·have g1:((l[q].toNat:Nat):Int)=59:=by omega
   simp only[g1,RR];simp only[skp,c1,if_true] at e;refine QF (fun n x τ'=>∃r:Nat,x=(str (bs l),iv (r:Int),())∧τ'=τ∧l.length - r=n∧r≤l.length∧q≤r∧r+skp true (l.drop r)=p+skp false (l.drop p)) (l.length - q) ⟨q,rfl,rfl,rfl,hq,Nat.le_refl _,?_⟩ ?_
   ·rw[dc];simp only[skp,c1,show ¬(59:Nat)=10 by omega,if_false];omega
   rintro n x τ' ⟨r,rfl,rfl,rfl,hr,hqr,e2⟩ R2 hR2;simp only[Qm,RR];by_cases c2:r<l.length
   ·have g2:(r:Int)<(l.length:Int):=by omega
    have dr:=List.drop_eq_getElem_cons c2;rw[dr] at e2;have up2:=Qh c2 (show l.length≤9223372036854775807 by omega);simp only[g2,Q6 c2,QbQ,RR];by_cases c3:l[r].toNat=10
    ·have g3:((l[r].toNat:Nat):Int)=10:=by omega
     simp only[g3,RR];simp only[skp,c3,if_true] at e2;have hne:q≠r:=by rintro rfl;omega
     refine hR' _ _ (l.length - r) τ' (by omega) (.refl _) ⟨r,rfl,rfl,rfl,hr,?_⟩;rw[dr];simp only[skp,c3,show ¬(10:Nat)=59 by omega,if_false,or_true,if_true];omega
    ·have g3:¬((l[r].toNat:Nat):Int)=10:=by omega
     simp only[g3,up2,RR];simp only[skp,c3,if_false] at e2;exact hR2 _ _ (l.length - (r+1)) τ' (by omega) (.refl _) ⟨r+1,rfl,rfl,rfl,c2,by omega,by omega⟩
   ·have g2:¬(r:Int)<(l.length:Int):=by omega
    have hrl:r=l.length:=by omega
    subst hrl;simp only[g2,RR];simp only[List.drop_length,skp] at e2;refine hR' _ _ (l.length - l.length) τ' (by omega) (.refl _) ⟨l.length,rfl,rfl,rfl,hr,?_⟩;simp only[List.drop_length,skp];omega
  ·have g1:¬((l[q].toNat:Nat):Int)=59:=by omega
   simp only[g1,RR];by_cases c2:l[q].toNat=32
   ·have g2:((l[q].toNat:Nat):Int)=32:=by omega
    simp only[g2,up,RR];simp only[skp,c2,show ¬(32:Nat)=59 by omega,if_false,true_or,if_true] at e;exact hR' _ _ (l.length - (q+1)) τ (by omega) (.refl _) ⟨q+1,rfl,rfl,rfl,c,by omega⟩
   have g2:¬((l[q].toNat:Nat):Int)=32:=by omega
   by_cases c3:l[q].toNat=10
   ·have g3:((l[q].toNat:Nat):Int)=10:=by omega
    simp only[g2,Q6 c,QbQ,g3,show ¬(10:Int)=32 by omega,up,RR];simp only[skp,c3,show ¬(10:Nat)=59 by omega,if_false,or_true,if_true] at e;exact hR' _ _ (l.length - (q+1)) τ (by omega) (.refl _) ⟨q+1,rfl,rfl,rfl,c,by omega⟩
   have g3:¬((l[q].toNat:Nat):Int)=10:=by omega
   simp only[g2,Q6 c,QbQ,g3,RR];simp only[skp,c1,c2,c3,if_false,or_self] at e;rw[←e] at h;exact Qa (by simpa using h)
 ·have g:¬(q:Int)<(l.length:Int):=by omega
  have hql:q=l.length:=by omega
  subst hql;simp only[g,RR];simp only[List.drop_length,skp] at e;rw[←e] at h;exact Qa (by simpa using h)
theorem QrZ {l:List UInt8} {p:Nat} (hp:p≤l.length) (hl:l.length≤1048576) (h:R (.ret (iv ((p+wrd (l.drop p):Nat):Int))) σ):acall TP Qi2 [str (bs l),iv (p:Int)] σ R:=by
 refine Qoa ?_;unfold x209;dsimp only[den,dE,di,tupL,lTup,den2,den3,den4,List.map,den0,den1];refine QF (fun n x τ=>∃q:Nat,x=(str (bs l),iv (q:Int),())∧τ=σ∧l.length - q=n∧q≤l.length∧q+wrd (l.drop q)=p+wrd (l.drop p)) (l.length - p) ⟨p,rfl,rfl,rfl,hp,rfl⟩ ?_;rintro n x τ ⟨q,rfl,rfl,rfl,hq,e⟩ R' hR';refine J3 (P:=fun x τ'=>τ'=τ∧∃b,x=(str (bs l),iv (q:Int),bv b,())∧(b=true→q<l.length∧wrd (l.drop q)=wrd (l.drop (q+1))+1)∧(b=false→wrd (l.drop q)=0)) ?_ ?_
 ·rintro x τ' ⟨rfl,b,rfl,h1,h0⟩;cases b with
  |true=>
   obtain ⟨h1,h2⟩:=h1 rfl;simp only[Qh h1 (show l.length≤9223372036854775807 by omega),RR];exact hR' _ _ (l.length - (q+1)) τ' (by omega) (.refl _) ⟨q+1,rfl,rfl,rfl,h1,by omega⟩
  |false=>
   rw[h0 rfl] at e;rw[←e] at h;simp only[RR];exact Qa h
 intro k hk;by_cases c:q<l.length
 ·have g:(q:Int)<(l.length:Int):=by omega
  have dc:=List.drop_eq_getElem_cons c;have stop:(l[q].toNat=32∨l[q].toNat=10∨l[q].toNat=59∨Je l[q]≠0)→k (str (bs l),iv (q:Int),bv false,()) τ:=fun hc=>
   hk _ _ ⟨rfl,false,rfl,(fun x=>by cases x),fun _=>by rw[dc];exact QwW hc⟩
  simp only[Qm,g,Q6 c,QbQ,RR];by_cases c1:l[q].toNat=32
  ·have g1:((l[q].toNat:Nat):Int)=32:=by omega
   simp only[g1,RR];exact stop (.inl c1)
  have g1:¬((l[q].toNat:Nat):Int)=32:=by omega
  simp only[g1,Q6 c,QbQ,RR];by_cases c2:l[q].toNat=10
  ·have g2:((l[q].toNat:Nat):Int)=10:=by omega
   simp only[g2,RR];exact stop (.inr (.inl c2))
  have g2:¬((l[q].toNat:Nat):Int)=10:=by omega
  simp only[g2,Q6 c,QbQ,RR];by_cases c3:l[q].toNat=59
  ·have g3:((l[q].toNat:Nat):Int)=59:=by omega
   simp only[g3,RR];exact stop (.inr (.inr (.inl c3)))
  have g3:¬((l[q].toNat:Nat):Int)=59:=by omega
  simp only[g3,Q6 c,RR];refine Qjz ?_;simp only[RR];by_cases c4:Je l[q]=0
  ·simp only[c4,RR];exact hk _ _ ⟨rfl,true,rfl,(fun _=>⟨c,by rw[dc];exact QrX c1 c2 c3 c4⟩),fun x=>by cases x⟩
  ·simp only[c4,RR];exact stop (.inr (.inr (.inr c4)))
 ·have g:¬(q:Int)<(l.length:Int):=by omega
  have hql:q=l.length:=by omega
  subst hql;simp only[Qm,g,RR];exact hk _ _ ⟨rfl,false,rfl,(fun x=>by cases x),fun _=>by rw[List.drop_length,wrd]⟩
theorem bldT (k n:Int) (s:ByteArray):bld [iv 0,iv 0,str ⟨#[]⟩] [(0,1),(1,1),(2,1)] [(0,iv k),(1,iv n)]=some (.agg (Qw ⟨k,n,⟨#[]⟩⟩))∧bld [iv 0,iv 0,str ⟨#[]⟩] [(0,1),(1,1),(2,1)] [(0,iv k)]=some (.agg (Qw ⟨k,0,⟨#[]⟩⟩))∧
  bld [iv 0,iv 0,str ⟨#[]⟩] [(0,1),(1,1),(2,1)] [(0,iv k),(2,str s)]=some (.agg (Qw ⟨k,0,s⟩)):=⟨rfl,rfl,rfl⟩
theorem QqR {l:List UInt8} (hl:l.length≤1048576) (h:R (.ret (.tup [.agg (Qw (Qag l).1),bv (Qag l).2])) σ):acall TP Qhq [str (bs l)] σ R:=by
 refine Qm4 ?_;unfold x210;dsimp only[den,dE,di,List.map,den0,den1];intro φ hφ;have rest:QbD l=false→(og (sbin .eql (str (bs l)) (.val (.string ⟨#[35,116]⟩))) fun v15=>
  apick v15 (
   og (bld [iv 0,iv 0,str ⟨#[]⟩] [(0,1),(1,1),(2,1)] [(0,iv 5),(1,iv 1)]) fun v16=>
   sto 3 (.ptr φ 0 0 0) v16 (σ.set φ ⟨0,3,[[iv 0,iv 0,str ⟨#[]⟩]]⟩) fun σ=>
   og (lodA 3 (.ptr φ 0 0 0) σ) fun r2=>
   aret (.tup [r2,bv true]) σ R) (
   og (sbin .eql (str (bs l)) (.val (.string ⟨#[35,102]⟩))) fun v18=>
   apick v18 (
    og (bld [iv 0,iv 0,str ⟨#[]⟩] [(0,1),(1,1),(2,1)] [(0,iv 5)]) fun v19=>
    sto 3 (.ptr φ 0 0 0) v19 (σ.set φ ⟨0,3,[[iv 0,iv 0,str ⟨#[]⟩]]⟩) fun σ=>
    og (lodA 3 (.ptr φ 0 0 0) σ) fun r2=>
    aret (.tup [r2,bv true]) σ R) (
    og (bld [iv 0,iv 0,str ⟨#[]⟩] [(0,1),(1,1),(2,1)] [(0,iv 6),(2,str (bs l))]) fun v21=>
    acall TP QdB [str (bs l)] (σ.set φ ⟨0,3,[[iv 0,iv 0,str ⟨#[]⟩]]⟩) (onr (fun v23 σ=>
    sto 3 (.ptr φ 0 0 0) v21 σ fun σ=>
    og (lodA 3 (.ptr φ 0 0 0) σ) fun r2=>
    aret (.tup [r2,v23]) σ R) (fun v σ=>apan v σ R))))):=fun hn=>by
  unfold Qag at h;rw[hn] at h;simp only[Bool.false_eq_true,if_false] at h;simp only[Jy,RR];by_cases c1:bs l=⟨#[35,116]⟩
  ·rw[if_pos c1] at h;simp only[c1,(bldT 5 1 ⟨#[]⟩).1,RR];exact UM hφ rfl rfl (Q8 _) h
  rw[if_neg c1] at h;by_cases c2:bs l=⟨#[35,102]⟩
  ·rw[if_pos c2] at h;have c1':¬(⟨#[35,102]⟩:ByteArray)=⟨#[35,116]⟩:=by rw[←c2];exact c1
   simp only[c2,c1',(bldT 5 1 ⟨#[]⟩).2.1,RR];exact UM hφ rfl rfl (Q8 _) h
  rw[if_neg c2] at h;simp only[c1,c2,(bldT 6 1 (bs l)).2.2,RR];refine Qff (by rw[Qm];omega) ?_;simp only[RR];exact UM hφ rfl rfl (Q8 _) h
 refine Qpv hl (fun hp=>?_) fun hp=>?_
 ·have e0:aext (.tup [iv (parV l),bv (inB (-1000000000) 1000000000 (parV l)&&decide (itB (parV l)=bs l))]) 0=some (iv (parV l)):=rfl;have e1:aext (.tup [iv (parV l),bv (inB (-1000000000) 1000000000 (parV l)&&decide (itB (parV l)=bs l))]) 1=some (bv (inB (-1000000000) 1000000000 (parV l)&&decide (itB (parV l)=bs l))):=rfl;simp only[e0,e1,RR];have en:QbD l=(inB (-1000000000) 1000000000 (parV l)&&decide (itB (parV l)=bs l)):=by unfold QbD;rw[hp,Bool.true_and]
  cases c:(inB (-1000000000) 1000000000 (parV l)&&decide (itB (parV l)=bs l)) with
  |true=>
   unfold Qag at h;rw[en,c] at h;simp only[if_true] at h;simp only[(bldT 4 (parV l) ⟨#[]⟩).1,RR];exact UM hφ rfl rfl (Q8 _) h
  |false=>
   simp only[RR];exact rest (by rw[en,c])
 ·have e0:aext (.tup [iv 0,bv false]) 0=some (iv 0):=rfl;have e1:aext (.tup [iv 0,bv false]) 1=some (bv false):=rfl;simp only[e0,e1,RR];exact rest (by unfold QbD;rw[hp];rfl)
end
end Go.Proofs.YtggnjjalfnhiiaaGreatDoor.E

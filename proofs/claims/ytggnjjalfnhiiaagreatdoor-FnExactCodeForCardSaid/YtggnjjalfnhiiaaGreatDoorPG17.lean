import Derived.Test.YtggnjjalfnhiiaaGreatDoorPG16
import Derived.Lib.SplitLaws
import Derived.Test.YtggnjjalfnhiiaaGreatDoorProg
import Derived.Lib.Join
import Derived.Shelf.Strings.OnBuilder
import Derived.Shelf.Strings.BuilderK
/- Data of a text: the program's way, behind its tokens. -/
set_option linter.unusedSectionVars false
set_option linter.unusedSimpArgs false
set_option linter.unusedVariables false
namespace Go.Proofs.YtggnjjalfnhiiaaGreatDoor.E
open Go Go.RowKit
section
set_option maxRecDepth 100000
variable [L:Lam] {σ τ τ':AH} {R:AEnd→AH→Prop}
def opE (p:Nat × Bool):Int:=if p.2 then -1 - (p.1:Int) else (p.1:Int)
def topQ (o:Opn):Bool:=match o.getLast? with
 |none=>false
 |some p=>p.2
def fdP (s:Rds):List Fd:=[.lst 4 (s.1.map Qc),.lst 1 (s.2.map fun p=>[iv (opE p)])]
def QgD (s:Rds) (m:Nat):Bool:=decide (80<s.1.length+1+m)||decide (12<s.2.length+1+m)
section
variable {φm:Nat} {s:Rds}
theorem Qcb (h:MSt σ τ φm (fdP s)) (hn:s.2.length≤100) (hp:∀p,p∈s.2→p.1≤1000) (h1:R (.ret (.tup [iv (topP s.2),bv (topQ s.2)])) τ):acall TP Qbp [.ptr φm 0 0 0] τ R:=by
 refine Qe9 ?_;unfold x187;dsimp only[den,dE,di,List.map,den0,den1];obtain ⟨v1,e1,b1⟩:=h.lst (i:=1) (sz:=1) (es:=s.2.map fun p=>[iv (opE p)]) rfl;have l1:=Jt b1;unfold topP topQ at h1;by_cases c:s.2=[]
 ·have gl:((s.2.length:Nat):Int)=0:=by rw[c];rfl
  have hl:s.2.getLast? =none:=by rw[c];rfl
  rw[hl] at h1;simp only[e1,l1,gl,RR];exact Qa h1
 ·obtain ⟨p,hpl⟩:=Qb9 c;rw[hpl] at h1;dsimp only at h1;have hpm:=hp p (List.mem_of_getLast? hpl);have hl1:1≤s.2.length:=List.length_pos_iff.2 c;have gl:¬((s.2.length:Nat):Int)=0:=by omega
  obtain ⟨φt,st,t1,t2⟩:=QkX b1 hpl;simp only[e1,l1,gl,Uy hl1 (by omega),t1,t2,RR];cases hq:p.2 with
  |true=>
   rw[hq] at h1;have eo:opE p= -1 - (p.1:Int):=by unfold opE;rw[if_pos hq]
   have g:opE p<0:=by omega
   have es:ibin .sub (iv (-1)) (iv (opE p))=some (iv (p.1:Int)):=by rw[QU (by omega) (by omega)];congr 3;omega
   simp only[g,es,RR];exact Qa h1
  |false=>
   rw[hq] at h1;have eo:opE p=(p.1:Int):=by unfold opE;rw[if_neg (by rw[hq];decide)]
   have g:¬opE p<0:=by omega
   rw[←eo] at h1;simp only[g,RR];exact Qa h1
theorem Qbb (h:MSt σ τ φm (fdP s)) (hn:s.2.length≤100) (h1:∀τ',MSt σ τ' φm (fdP (s.1,Uc s.2))→R (.ret (.tup [])) τ'):acall TP QaH [.ptr φm 0 0 0] τ R:=by
 refine QdG ?_;unfold x188;dsimp only[den,dE,di,tupL,lTup,den2,den3,den4,dwat,Qf,List.map,den0,den1,Option.map];refine QF (fun n x τ'=>∃o:Opn,x=(.ptr φm 0 0 0,())∧MSt σ τ' φm (fdP (s.1,o))∧o.length=n∧o.length≤100∧Uc o=Uc s.2) s.2.length ⟨s.2,rfl,h,rfl,hn,rfl⟩ ?_;rintro n x τ1 ⟨o,rfl,S,rfl,ho,e⟩ R' hR';obtain ⟨v1,e1,b1⟩:=S.lst (i:=1) (sz:=1) (es:=o.map fun p=>[iv (opE p)]) rfl;have l1:=Jt b1;by_cases c:o=[]
 ·subst c;have g:¬(0:Int)<(([]:Opn).length:Int):=by simp
  simp only[e1,l1,g,RR];rw[←e] at h1;exact Qa (h1 τ1 S)
 ·obtain ⟨p,hp⟩:=Qb9 c;have hl1:1≤o.length:=List.length_pos_iff.2 c;have g:(0:Int)<(o.length:Int):=by omega
  obtain ⟨φt,st,t1,t2⟩:=QkX b1 hp;simp only[e1,l1,g,Uy hl1 (by omega),t1,t2,RR];cases hq:p.2 with
  |false=>
   have eo:opE p=(p.1:Int):=by unfold opE;rw[if_neg (by rw[hq];decide)]
   have g2:¬opE p<0:=by omega
   rw[Qoz hp hq] at e;rw[←e] at h1;simp only[g2,RR];exact Qa (h1 τ1 S)
  |true=>
   have eo:opE p= -1 - (p.1:Int):=by unfold opE;rw[if_pos hq]
   have g2:opE p<0:=by omega
   rw[Qoy hp hq] at e;obtain ⟨v1',k1,k2⟩:=S.cut (i:=1) (es:=o.map fun p=>[iv (opE p)]) rfl e1 (by simpa using c) (m:=o.length - 1) (by simp);simp only[g2,e1,l1,Uy hl1 (by omega),k1,RR];refine k2 _ fun τ2 S2=>?_
   rw[QbG] at S2;simp only[true_and];exact hR' _ _ o.dropLast.length τ2 (by simp;omega) (.refl _) ⟨o.dropLast,rfl,S2,rfl,by simp;omega,e⟩
theorem U3 {x:Dat} {m:Nat} (hm:m≤10) (h:MSt σ τ φm (fdP s)) (hn:s.1.length≤100∧s.2.length≤100) (hp:∀p,p∈s.2→p.1≤1000) (h1:QgD s m=true→∀τ',MSt σ τ' φm (fdP s)→R (.ret (bv false)) τ') (h2:QgD s m=false→∀τ',MSt σ τ' φm (fdP (s.1++[datP x s.2],s.2))→R (.ret (bv true)) τ'):
  acall TP Qbo [.ptr φm 0 0 0,.agg (Qc x),iv (m:Int)] τ R:=by
 refine Qe8 ?_;unfold x186;dsimp only[den,dE,di,dwat,Qf,List.map,den0,den1];rw[Qru];intro ψ hψ;have hs:AH.Sub τ (τ.set ψ ⟨0,4,[Qc x]⟩):= .set (.refl τ) _ hψ;have hg:=h.grow hs;obtain ⟨vd,e0,b0⟩:=h.lst (i:=0) (sz:=4) (es:=s.1.map Qc) rfl;obtain ⟨vo,e1,b1⟩:=h.lst (i:=1) (sz:=1) (es:=s.2.map fun p=>[iv (opE p)]) rfl;have e0':=Jv hs e0;have e1':=Jv hs e1;have l0:=Jt b0;have l1:=Jt b1;have e4:(Qc x).length=4:=rfl;have a1:∀n:Nat,n≤100→ibin .add (iv (n:Int)) (iv 1)=some (iv ((n:Int)+1)):=fun n hn=>Jk (by omega) (by omega)
 have a2:∀n:Nat,n≤100→ibin .add (iv ((n:Int)+1)) (iv (m:Int))=some (iv ((n:Int)+1+m)):=fun n hn=>Jk (by omega) (by omega)
 simp only[e4,e0',e1',l0,l1,a1 _ hn.1,a2 _ hn.1,RR];have hr:QgD s m=(decide (80<s.1.length+1+m)||decide (12<s.2.length+1+m)):=rfl;by_cases c1:80<s.1.length+1+m
 ·have g1:(80:Int)<(s.1.length:Int)+1+m:=by omega
  simp only[g1,RR];exact Qa (h1 (by rw[hr];simp[c1]) _ hg)
 have g1:¬(80:Int)<(s.1.length:Int)+1+m:=by omega
 by_cases c2:12<s.2.length+1+m
 ·have g2:(12:Int)<(s.2.length:Int)+1+m:=by omega
  simp only[g1,g2,e1',l1,a1 _ hn.2,a2 _ hn.2,RR];exact Qa (h1 (by rw[hr];simp[c2]) _ hg)
 have g2:¬(12:Int)<(s.2.length:Int)+1+m:=by omega
 have hrf:QgD s m=false:=by rw[hr];simp[c1,c2]
 simp only[g1,g2,e1',l1,a1 _ hn.2,a2 _ hn.2,RR];refine Qcb hg hn.2 hp ?_;have x0:aext (.tup [iv (topP s.2),bv (topQ s.2)]) 0=some (iv (topP s.2)):=rfl;have x1:aext (.tup [iv (topP s.2),bv (topQ s.2)]) 1=some (bv (topQ s.2)):=rfl;simp only[x0,x1,RR];refine Q4 (es:=[Qc x]) (cs:=Qc x) (AH.set_same ..) rfl (show 1<4 by omega) rfl rfl ?_;rw[AH.set_set];have x2:[Qc x].set 0 ((Qc x).set 1 (iv (topP s.2)))=[Qc (datP x s.2)]:=rfl;rw[x2];refine QK hψ rfl ?_;simp only[e0,Qu (Ql _),RR];rw[lit1 (sz:=4) (row:=Qc (datP x s.2)) rfl rfl (by omega)];simp only[RR];refine h.app (i:=0) rfl e0 (row:=Qc (datP x s.2)) rfl rfl (Q2 _) (by simp;omega) fun v' τ1 k1=>?_
 simp only[RR,true_and];refine k1 _ fun τ2 S2=>?_
 have ef:(fdP s).set 0 (.lst 4 (s.1.map Qc++[Qc (datP x s.2)]))=fdP (s.1++[datP x s.2],s.2):=by simp[fdP]
 rw[ef] at S2;exact Qa (h2 hrf τ2 S2)
def OkO (s:Rds):Prop:=s.1.length≤80∧s.2.length≤12∧∀p,p∈s.2→p.1≤1000
theorem Qq6 (s:Rds):QgD s 0=Uw s:=by
 unfold QgD Uw
 congr 1<;>(congr 1;apply propext;omega)
theorem Qr7 {X:Type} {l:List X} {x:X} (h:x∈l.dropLast):x∈l:=(List.dropLast_sublist l).subset h
theorem QoE {o:Opn} {p:Nat × Bool} (h:p∈Uc o):p∈o:=by
 unfold Uc at h;rw[List.mem_reverse] at h;exact List.mem_reverse.1 ((List.dropWhile_sublist _).subset h)
theorem Qt3 {t:Tok} (h:OkO s):OkO (Jf t s).1:=by
 have hsm:=Qqo (t:=t) (s:=s) ⟨h.1,h.2.1⟩;refine ⟨hsm.1,hsm.2,fun p hp=>?_⟩;have hb:∀q,∀p,p∈(Ju q s).1.2→p.1≤1000:=fun q p hp=>by
  unfold Ju at hp;have h2:∀p,p∈(opR q s).2→p.1≤1000:=fun p hp=>by
   rcases List.mem_append.1 hp with c|c
   ·exact h.2.2 p c
   ·obtain rfl:=List.mem_singleton.1 c;have:=h.1;show s.1.length≤1000;omega
  split at hp
  ·exact h.2.2 p hp
  ·split at hp
   ·unfold putR at hp;split at hp<;>exact h2 p hp
   ·exact h2 p hp
 unfold Jf at hp;split at hp
 ·exact hb _ p hp
 split at hp
 ·exact hb _ p hp
 split at hp
 ·unfold Qdw at hp;split at hp
  ·exact h.2.2 p hp
  ·split at hp
   ·exact h.2.2 p hp
   ·exact h.2.2 p (Qr7 (QoE hp))
 ·unfold Qei at hp;split at hp
  ·exact h.2.2 p hp
  ·exact h.2.2 p (QoE hp)
theorem Qfv {t:Tok} (hk:1≤t.kind∧t.kind≤6) (h:MSt σ τ φm (fdP s)) (hn:OkO s) (h1:∀τ' s',MSt σ τ' φm (fdP s')→((Jf t s).2=0→s'=(Jf t s).1)→R (.ret (iv (Jf t s).2)) τ'):acall TP UC [.ptr φm 0 0 0,.agg (Qw t)] τ R:=by
 obtain ⟨n1,n2,n3⟩:=hn;refine QdE ?_;unfold x154;dsimp only[den,dE,di,tupL,lTup,den2,den3,den4,dwat,Qf,List.map,den0,den1,Option.map];refine Qan rfl ?_;have l0:∀τ,lod (.rop (Qw t) 0) τ=some (iv t.kind):=fun _=>rfl
 have l1:∀τ,lod (.rop (Qw t) 1) τ=some (iv t.num):=fun _=>rfl
 have l2:∀τ,lod (.rop (Qw t) 2) τ=some (str t.name):=fun _=>rfl
 obtain ⟨v0,e0,b0⟩:=h.lst (i:=0) (sz:=4) (es:=s.1.map Qc) rfl;have g0:=Jt b0;simp only[e0,g0,l0,RR];have eb:bld [(iv 0),(iv 0),(iv 0),(.val (.string ⟨#[]⟩))] [(0,1),(1,1),(2,1),(3,1)] [(0,(iv 4))]=some (.agg (Qc lisD)):=rfl;unfold Jf at h1;refine J3 (P:=fun _ T=>(Jf t s).2=0∧MSt σ T φm (fdP (Jf t s).1)) ?_ ?_
 ·rintro x T ⟨hz,S⟩;have:=h1 T _ S (fun _=>rfl);rw[show (if t.kind=1 then Ju false s else if t.kind=3 then Ju true s else if t.kind=2 then Qdw s else Qei ⟨t.kind - 3,0,t.num,t.name⟩ s)=Jf t s from rfl,hz] at this;exact Qa this
 intro k hk';unfold Jf at hk';by_cases c1:t.kind=1
 ·rw[if_pos c1] at h1 hk';simp only[c1,eb,RR];have hz0:((0:Nat):Int)=0:=rfl;refine U3 (x:=lisD) (m:=0) (by omega) h ⟨by omega,by omega⟩ n3 (fun hr τ1 S1=>?_) fun hr τ1 S1=>?_
  ·rw[Qq6] at hr;unfold Ju at h1;rw[if_pos hr] at h1;simp only[RR];exact Qa (h1 τ1 s S1 fun c=>by cases c)
  ·rw[Qq6] at hr;unfold Ju at hk';rw[if_neg (by rw[hr];decide)] at hk';simp only[Bool.false_eq_true,if_false] at hk';obtain ⟨v1,e1,b1⟩:=S1.lst (i:=1) (sz:=1) (es:=s.2.map fun p=>[iv (opE p)]) rfl;simp only[e1,RR];refine bsl1 (row:=[iv (s.1.length:Int)]) rfl (by omega) fun ψ hψ=>?_
   have hs3:AH.Sub τ1 (τ1.set ψ ⟨0,1,[[iv (s.1.length:Int)]]⟩):= .set (.refl _) _ hψ;refine (S1.grow hs3).app (i:=1) (sz:=1) (es:=s.2.map fun p=>[iv (opE p)]) rfl (Jv hs3 e1) (row:=[iv (s.1.length:Int)]) ael1 rfl (fun y hy=>by obtain rfl:=List.mem_singleton.1 hy;rfl) (by simp;omega) fun v' τ2 k1=>?_
   refine k1 _ fun τ3 S3=>hk' _ _ ⟨by simp,?_⟩
   have ep:(putR lisD s).1=(s.1++[datP lisD s.2],s.2):=by unfold putR;rw[if_neg (by rw[hr];decide)]
   have ef:(fdP (s.1++[datP lisD s.2],s.2)).set 1 (.lst 1 ((s.2.map fun p=>[iv (opE p)])++[[iv (s.1.length:Int)]]))=fdP (opR false s):=by
    unfold opR;rw[ep];simp[fdP,opE]
   rw[ef] at S3;exact S3
 rw[if_neg c1] at h1 hk';by_cases c2:t.kind=2
 ·rw[if_neg (by omega),if_pos c2] at h1 hk';simp only[c2,show ¬(2:Int)=1 by omega,RR];refine Qcb h (by omega) n3 ?_;have x0:aext (.tup [iv (topP s.2),bv (topQ s.2)]) 0=some (iv (topP s.2)):=rfl;have x1:aext (.tup [iv (topP s.2),bv (topQ s.2)]) 1=some (bv (topQ s.2)):=rfl;simp only[x0,x1,RR];unfold Qdw at h1 hk';by_cases c:s.2=[]
  ·have hl:s.2.getLast? =none:=by rw[c];rfl
   rw[hl] at h1;have g:topP s.2<0:=by unfold topP;rw[hl];decide
   simp only[g,RR];exact Qa (h1 τ s h fun c=>by cases c)
  ·obtain ⟨p,hp⟩:=Qb9 c;rw[hp] at h1 hk';dsimp only at h1 hk';have g:¬topP s.2<0:=by unfold topP;rw[hp];dsimp only;omega
   have eq:topQ s.2=p.2:=by unfold topQ;rw[hp]
   have hl1:1≤s.2.length:=List.length_pos_iff.2 c;rw[eq];cases hq:p.2 with
   |true=>
    rw[hq] at h1;simp only[if_true] at h1;simp only[g,RR];exact Qa (h1 τ s h fun c=>by cases c)
   |false=>
    rw[hq] at hk';simp only[Bool.false_eq_true,if_false] at hk';obtain ⟨v1,e1,b1⟩:=h.lst (i:=1) (sz:=1) (es:=s.2.map fun p=>[iv (opE p)]) rfl;have g1:=Jt b1;obtain ⟨v1',k1,k2⟩:=h.cut (i:=1) (es:=s.2.map fun p=>[iv (opE p)]) rfl e1 (by simpa using c) (m:=s.2.length - 1) (by simp);simp only[g,e1,g1,Uy hl1 (by omega),k1,RR];refine k2 _ fun τ2 S2=>?_
    rw[QbG] at S2;have S2':MSt σ τ2 φm (fdP (s.1,s.2.dropLast)):=S2;refine ⟨trivial,?_⟩;refine Qbb S2' (by simp;omega) fun τ3 S3=>?_
    simp only[RR];exact hk' _ _ ⟨by simp,S3⟩
 rw[if_neg c2] at h1 hk';by_cases c3:t.kind=3
 ·rw[if_pos c3] at h1 hk';simp only[c3,show ¬(3:Int)=1 by omega,show ¬(3:Int)=2 by omega,eb,RR];have key:QgD s 1=(Uw s||(putR quoD (opR true s)).2==2):=by
   unfold putR QgD;cases hr:Uw s with
   |true=>
    rw[Bool.true_or];simp only[Uw,Bool.or_eq_true,decide_eq_true_iff] at hr;simp only[Bool.or_eq_true,decide_eq_true_iff];omega
   |false=>
    have ep:(putR lisD s).1=(s.1++[datP lisD s.2],s.2):=by unfold putR;rw[if_neg (by rw[hr];decide)]
    have hl:(opR true s).1.length=s.1.length+1∧(opR true s).2.length=s.2.length+1:=by unfold opR;rw[ep];simp
    rw[Bool.false_or];have hrr:Uw (opR true s)=(decide (80<s.1.length+1+1)||decide (12<s.2.length+1+1)):=by
     unfold Uw;rw[hl.1,hl.2]
     congr 1<;>(congr 1;apply propext;omega)
    rw[hrr];split
    ·rename_i c;rw[c];rfl
    ·rename_i c;simp only[Bool.not_eq_true] at c;rw[c];rfl
  refine U3 (x:=lisD) (m:=1) (by omega) h ⟨by omega,by omega⟩ n3 (fun hr τ1 S1=>?_) fun hr τ1 S1=>?_
  ·have hc:(Ju true s).2=2:=by
    unfold Ju;split
    ·rfl
    ·rename_i c;rw[key] at hr;simp only[Bool.not_eq_true] at c;rw[c,Bool.false_or] at hr;simpa using hr
   rw[hc] at h1;simp only[RR];exact Qa (h1 τ1 s S1 fun c=>by cases c)
  ·rw[key,Bool.or_eq_false_iff] at hr;obtain ⟨hr,hr2⟩:=hr;have hroom:=Qeo hr;unfold Ju at hk';rw[if_neg (by rw[hr];decide)] at hk';simp only[if_true] at hk';have ep:(putR lisD s).1=(s.1++[datP lisD s.2],s.2):=by unfold putR;rw[if_neg (by rw[hr];decide)]
   have hrq:Uw (opR true s)=false:=by
    unfold putR at hr2;split at hr2
    ·cases hr2
    ·rename_i c;simpa using c
   have eq:putR quoD (opR true s)=(((opR true s).1++[datP quoD (opR true s).2],(opR true s).2),0):=by
    unfold putR;rw[if_neg (by rw[hrq];decide)]
   rw[eq] at hk';obtain ⟨v1,e1,b1⟩:=S1.lst (i:=1) (sz:=1) (es:=s.2.map fun p=>[iv (opE p)]) rfl;have es:ibin .sub (iv (-1)) (iv (s.1.length:Int))=some (iv (-1 - (s.1.length:Int))):=QU (by omega) (by omega);simp only[e1,es,RR];refine bsl1 (row:=[iv (-1 - (s.1.length:Int))]) rfl (by omega) fun ψ hψ=>?_
   have hs3:AH.Sub τ1 (τ1.set ψ ⟨0,1,[[iv (-1 - (s.1.length:Int))]]⟩):= .set (.refl _) _ hψ;refine (S1.grow hs3).app (i:=1) (sz:=1) (es:=s.2.map fun p=>[iv (opE p)]) rfl (Jv hs3 e1) (row:=[iv (-1 - (s.1.length:Int))]) ael1 rfl (fun y hy=>by obtain rfl:=List.mem_singleton.1 hy;rfl) (by simp;omega) fun v' τ2 k1=>?_
   refine k1 _ fun τ3 S3=>?_
   have ef:(fdP (s.1++[datP lisD s.2],s.2)).set 1 (.lst 1 ((s.2.map fun p=>[iv (opE p)])++[[iv (-1 - (s.1.length:Int))]]))=fdP (opR true s):=by
    unfold opR;rw[ep];simp[fdP,opE]
   rw[ef] at S3;obtain ⟨v3,e3,b3⟩:=S3.lst (i:=0) (sz:=4) (es:=(opR true s).1.map Qc) rfl;have dq:datP quoD (opR true s).2=⟨3,(s.1.length:Int),0,⟨#[113,117,111,116,101]⟩⟩:=by
    unfold datP topP opR quoD;simp
   have eb2:bld [(iv 0),(iv 0),(iv 0),(.val (.string ⟨#[]⟩))] [(0,1),(1,1),(2,1),(3,1)] [(0,(iv 3)),(1,iv (s.1.length:Int)),(3,(.val (.string ⟨#[113,117,111,116,101]⟩)))]=some (.agg (Qc (datP quoD (opR true s).2))):=by rw[dq];rfl
   simp only[e3,eb2,RR];refine bsl1 (row:=Qc (datP quoD (opR true s).2)) rfl (by omega) fun ψ2 hψ2=>?_
   have hs4:AH.Sub τ3 (τ3.set ψ2 ⟨0,4,[Qc (datP quoD (opR true s).2)]⟩):= .set (.refl _) _ hψ2;refine (S3.grow hs4).app (i:=0) (sz:=4) (es:=(opR true s).1.map Qc) rfl (Jv hs4 e3) (row:=Qc (datP quoD (opR true s).2)) ael1 rfl (Q2 _) (by unfold opR;rw[ep];simp;omega) fun v'' τ4 k2=>?_
   refine k2 _ fun τ5 S5=>hk' _ _ ⟨by simp,?_⟩
   have ef2:(fdP (opR true s)).set 0 (.lst 4 ((opR true s).1.map Qc++[Qc (datP quoD (opR true s).2)]))=fdP ((opR true s).1++[datP quoD (opR true s).2],(opR true s).2):=by simp[fdP]
   rw[ef2] at S5;exact S5
 rw[if_neg c3] at h1 hk';have es:ibin .sub (iv t.kind) (iv 4)=some (iv (t.kind - 4)):=QU (by omega) (by omega);have ea:ibin .add (iv (t.kind - 4)) (iv 1)=some (iv (t.kind - 3)):=by rw[Jk (by omega) (by omega)];congr 3;omega
 simp only[c1,c2,c3,l0,l1,l2,es,ea,Qr3,RR];refine U3 (x:=⟨t.kind - 3,0,t.num,t.name⟩) (m:=0) (by omega) h ⟨by omega,by omega⟩ n3 (fun hr τ1 S1=>?_) fun hr τ1 S1=>?_
 ·rw[Qq6] at hr;unfold Qei at h1;rw[if_pos hr] at h1;simp only[RR];exact Qa (h1 τ1 s S1 fun c=>by cases c)
 ·rw[Qq6] at hr;unfold Qei at hk';rw[if_neg (by rw[hr];decide)] at hk';simp only[RR];refine Qbb S1 (by show s.2.length≤100;omega) fun τ2 S2=>?_
  simp only[RR];exact hk' _ _ ⟨by simp,S2⟩
end
end
section
set_option maxRecDepth 100000
variable [L:Lam] {σ τ τ':AH} {R:AEnd→AH→Prop}
theorem QiP {φ n:Nat} {zs cs cs':List AV} (hφ:σ φ=none) (hs:AH.Sub (σ.set φ ⟨0,n,[zs]⟩) τ) (hz:zs.length=n) (hc:cs.length=n) (h1:∀x,x∈cs→x.one=true) (hl:cs.length=cs'.length)
  (hf:∀i,i<cs.length→Fz (σ.set φ ⟨0,n,[zs]⟩) τ (cs.getD i .any) (cs'.getD i .any)) (h:R (.ret (.agg cs')) σ):
  sto n (.ptr φ 0 0 0) (.agg cs) τ fun σ=>og (lodA n (.ptr φ 0 0 0) σ) fun r=>aret r σ R:=by
 have ht:τ φ=some ⟨0,n,[zs]⟩:=hs _ _ (AH.set_same ..);refine QH (es:=[zs]) (cs:=cs) ht (by simp) (by simpa using hz) rfl hc h1 ?_;simp only[List.set_cons_zero];have e:=UG (σ:=τ.set φ ⟨0,n,[cs]⟩) (φ:=φ) (st:=0) (i:=0) (n:=n) (cs:=cs) (AH.set_same ..) rfl rfl hc;simp only[e,RR];have hs2:AH.Sub σ (τ.set φ ⟨0,n,[cs]⟩):=fun ψ F hF=>by
  have hne:ψ≠φ:=by rintro rfl;rw[hφ] at hF;cases hF
  rw[AH.set_ne' hne];exact hs _ _ (by rw[AH.set_ne' hne];exact hF)
 refine QW hs2 (.agg hl fun i hi=>?_) h;refine (hf i hi).move (fun ψ hψ=>?_) fun ψ F hψ hF=>?_
 ·have hne:ψ≠φ:=by rintro rfl;rw[AH.set_same] at hψ;cases hψ
  rwa [AH.set_ne' hne] at hψ
 ·have hne:ψ≠φ:=by rintro rfl;rw[AH.set_same] at hψ;cases hψ
  rwa [AH.set_ne' hne]
theorem Qvh {t:Tok} {s:Rds} (h:s.1≠[]∨s.2=[]) (hc:(Jf t s).2=0):(Jf t s).1.1≠[]:=by
 have hb:∀q,(Ju q s).2=0→(Ju q s).1.1≠[]:=fun q hq=>by
  unfold Ju at hq ⊢;split
  ·rename_i c;rw[if_pos c] at hq;cases hq
  ·rename_i c;have h2:(opR q s).1≠[]:=by unfold opR putR;rw[if_neg c];simp
   split
   ·unfold putR;split
    ·exact h2
    ·simp
   ·exact h2
 unfold Jf at hc ⊢;split
 ·rename_i c;rw[if_pos c] at hc;exact hb _ hc
 rename_i c1;rw[if_neg c1] at hc;split
 ·rename_i c;rw[if_pos c] at hc;exact hb _ hc
 rename_i c2;rw[if_neg c2] at hc;split
 ·rename_i c;rw[if_pos c] at hc;unfold Qdw at hc ⊢;cases hl:s.2.getLast? with
  |none=>rw[hl] at hc;cases hc
  |some p=>
   rw[hl] at hc;dsimp only at hc ⊢;have hs:s.1≠[]:=h.resolve_right fun k=>by rw[k] at hl;cases hl
   split
   ·exact hs
   ·exact hs
 rename_i c3;rw[if_neg c3] at hc;unfold Qei at hc ⊢;split
 ·rename_i c;rw[if_pos c] at hc;cases hc
 ·simp
theorem QoF {t:List UInt8} (hT:∀{σ:AH} {R:AEnd→AH→Prop},R (.ret (.agg [iv (tokR t).2.1,iv ((tokR t).2.2:Nat),roT (tokR t).1])) σ→acall TP QbM [str (bs t)] σ R)
  (h:R (.ret (.agg [iv (Q3 t).2.1,iv ((Q3 t).2.2:Nat),roD (Q3 t).1])) σ):acall TP QeQ [str (bs t)] σ R:=by
 refine Qko ?_;unfold x116;dsimp only[den,dE,di,tupL,lTup,den2,den3,den4,List.map,den0,den1];intro φ hφ;refine hT ?_;simp only[RR];intro φ2 hφ2;have hT:=Qtd t;unfold Q3 at h;generalize tokR t=E at h hT ⊢;refine QH (es:=[[iv 0,iv 0,.val (.slice none 0 0)]]) (cs:=[iv E.2.1,iv (E.2.2:Nat),roT E.1]) (AH.set_same ..) (by simp) rfl rfl rfl (by intro y hy;simp only[List.mem_cons,List.not_mem_nil,or_false] at hy;rcases hy with rfl|rfl|rfl<;>rfl) ?_;simp only[List.set_cons_zero,AH.set_set];refine QK hφ2 rfl ?_;have l0:∀τ,lod (.rop [iv E.2.1,iv (E.2.2:Nat),roT E.1] 0) τ=some (iv E.2.1):=fun _=>rfl
 have l1:∀τ,lod (.rop [iv E.2.1,iv (E.2.2:Nat),roT E.1] 1) τ=some (iv (E.2.2:Nat)):=fun _=>rfl
 have l2:∀τ,lod (.rop [iv E.2.1,iv (E.2.2:Nat),roT E.1] 2) τ=some (roT E.1):=fun _=>rfl
 simp only[l0,RR];by_cases c:E.2.1=0
 case neg=>
  rw[if_pos (by simpa using c)] at h;have eb:bld [iv 0,iv 0,.val (.slice none 0 0)] [(0,1),(1,1),(2,1)] [(0,iv E.2.1),(1,iv (E.2.2:Nat))]=some (.agg [iv E.2.1,iv (E.2.2:Nat),.val (.slice none 0 0)]):=rfl;simp only[c,l0,l1,eb,RR];refine Qdv (cs':=[iv E.2.1,iv (E.2.2:Nat),roD []]) hφ rfl rfl (by intro x hx;simp at hx;rcases hx with rfl|rfl|rfl<;>rfl) rfl (fun j hj=>?_) h;match j,hj with
  |0,_=>exact .same _
  |1,_=>exact .same _
  |2,_=>exact .nil
 rw[if_neg (by simpa using c)] at h;have eb:bld [nilS,nilS] [(0,1),(1,1)] []=some (.agg [nilS,nilS]):=rfl;simp only[c,eb,RR];intro φm hφm;generalize hσ1:σ.set φ ⟨0,3,[[iv 0,iv 0,.val (.slice none 0 0)]]⟩=σ1 at hφm ⊢;have S0:MSt σ1 (σ1.set φm ⟨0,(fdP ([],[])).length,[[nilS,nilS]]⟩) φm (fdP ([],[])):=by
  refine MSt.new hφm rfl (fun i f hf=>?_) (by intro v hv;simp only[List.mem_cons,List.not_mem_nil,or_false] at hv;rcases hv with rfl|rfl<;>rfl);match i,hf with
  |0,hf=>obtain rfl:=Option.some.inj hf;exact .nil
  |1,hf=>obtain rfl:=Option.some.inj hf;exact .nil
 generalize hE:UN E.1 0 ([],[])=D at h;have out:∀(τ:AH) (a b:Int),AH.Sub σ1 τ→R (.ret (.agg [iv a,iv b,roD []])) σ→sto 3 (.ptr φ 0 0 0) (.agg [iv a,iv b,.val (.slice none 0 0)]) τ fun σ=>og (lodA 3 (.ptr φ 0 0 0) σ) fun r=>aret r σ R:=fun τ a b hs hh=>by
  subst hσ1;refine QiP (cs':=[iv a,iv b,roD []]) hφ hs rfl rfl (by intro x hx;simp at hx;rcases hx with rfl|rfl|rfl<;>rfl) rfl (fun j hj=>?_) hh;match j,hj with
  |0,_=>exact .same _
  |1,_=>exact .same _
  |2,_=>exact .nil
 refine QF (fun n x τ=>∃(i:Nat) (s:Rds),x=(.ptr φ 0 0 0,.rop [iv E.2.1,iv (E.2.2:Nat),roT E.1] 0,.ptr φm 0 0 0,iv (i:Int),())∧MSt σ1 τ φm (fdP s)∧E.1.length - i=n∧i≤E.1.length∧OkO s∧(i=0→s=([],[]))∧(0<i→s.1≠[])∧UN (E.1.drop i) i s=D) E.1.length ⟨0,([],[]),by rw[c];rfl,S0,by omega,by omega,⟨by simp,by simp,by simp⟩,fun _=>rfl,fun h=>absurd h (by omega),by simpa using hE⟩ ?_;rintro n x τ ⟨i,s,rfl,S,rfl,hi,hO,q0,q1,e⟩ R' hR';obtain ⟨v0,e0,b0⟩:=S.lst (i:=0) (sz:=4) (es:=s.1.map Qc) rfl;obtain ⟨v1,e1,b1⟩:=S.lst (i:=1) (sz:=1) (es:=s.2.map fun p=>[iv (opE p)]) rfl;have g1:=Jt b1;simp only[l2,QA,RR];by_cases ci:i<E.1.length
 ·have g:(i:Int)<(E.1.length:Int):=by omega
  rw[List.drop_eq_getElem_cons ci,UN] at e;have ix:idx 3 (roT E.1) (iv (i:Int)) τ=some (.rop (Qw E.1[i]) 0):=Qq ci Qa1;have la:lodA 3 (.rop (Qw E.1[i]) 0) τ=some (.agg (Qw E.1[i])):=Qu (Qa1 _);have bt:∀a b:Int,bld [(iv 0),(iv 0),nilS] [(0,1),(1,1),(2,1)] [(0,iv a),(1,iv b)]=some (.agg [iv a,iv b,.val (.slice none 0 0)]):=fun _ _=>rfl
  have rest:¬(0<i∧s.2=[])→acall TP UC [.ptr φm 0 0 0,.agg (Qw E.1[i])] τ (onr (fun v42 σ=>
    og (ibin .neq v42 (iv 0)) fun v44=>
    apick v44 (
     og (bld [(iv 0),(iv 0),nilS] [(0,1),(1,1),(2,1)] [(0,v42),(1,iv (i:Int))]) fun v47=>
     sto 3 (.ptr φ 0 0 0) v47 σ fun σ=>
     og (lodA 3 (.ptr φ 0 0 0) σ) fun r2=>
     aret r2 σ R) (
     og (ibin .add (iv (i:Int)) (iv 1)) fun v49=>
     R' (.ptr φ 0 0 0,.rop [iv E.2.1,iv (E.2.2:Nat),roT E.1] 0,.ptr φm 0 0 0,v49,()) σ)) (fun v σ=>apan v σ R)):=fun hc=>by
   rw[if_neg hc] at e;refine Qfv (hT.1 _ (List.getElem_mem ci)) S hO fun τ1 s' S1 hs'=>?_
   simp only[RR];by_cases c2:(Jf E.1[i] s).2=0
   ·rw[if_neg (by simpa using c2)] at e;obtain rfl:=hs' c2;have ne:=Qvh (t:=E.1[i]) (s:=s) (by
     by_cases k:i=0
     ·right;rw[q0 k]
     ·left;exact q1 (by omega)) c2
    simp only[c2,Qh ci (by omega),RR];exact hR' _ _ (E.1.length - (i+1)) τ1 (by omega) (.refl _) ⟨i+1,_,rfl,S1,rfl,ci,Qt3 hO,fun k=>by omega,fun _=>ne,e⟩
   ·rw[if_pos (by simpa using c2)] at e;rw[←e] at h;simp only[c2,bt,RR];exact out _ _ _ S1.sub h
  by_cases c0:i=0
  ·have g0':(i:Int)=0:=by omega
   have hh:=rest fun k=>by omega
   rw[g0'] at g ix hh ⊢;simp only[g,ix,la,RR];simpa only[RR] using hh
  ·have g0':¬(i:Int)=0:=by omega
   by_cases c1:s.2=[]
   ·rw[if_pos ⟨by omega,c1⟩] at e;rw[←e] at h;have gl:¬(0:Int)<((s.2.length:Nat):Int):=by rw[c1];simp
    simp only[g,g0',e1,g1,gl,bt,l2,QA,RR];exact out _ _ _ S.sub h
   ·have gl:(0:Int)<((s.2.length:Nat):Int):=by have:=List.length_pos_iff.2 c1;omega
    simp only[g,g0',e1,g1,gl,ix,la,RR];have hh:=rest fun k=>c1 k.2
    simpa only[RR] using hh
 ·have g:¬(i:Int)<(E.1.length:Int):=by omega
  obtain rfl:i=E.1.length:=by omega
  rw[List.drop_length,UN] at e;have bt:∀a b:Int,bld [(iv 0),(iv 0),nilS] [(0,1),(1,1),(2,1)] [(0,iv a),(1,iv b)]=some (.agg [iv a,iv b,.val (.slice none 0 0)]):=fun _ _=>rfl
  by_cases c1:E.1.length=0
  ·have gl:((E.1.length:Nat):Int)=0:=by rw[c1];rfl
   rw[if_pos (by left;rw[q0 c1])] at e;rw[←e] at h;simp only[g,gl,bt,l2,QA,RR];have hh:=out τ 1 (E.1.length:Int) S.sub h;rw[gl] at hh;exact hh
  ·have gl:¬((E.1.length:Nat):Int)=0:=by omega
   have hne:=q1 (by omega);by_cases c2:s.2=[]
   ·have gl2:¬(0:Int)<((s.2.length:Nat):Int):=by rw[c2];simp
    rw[if_neg (by rintro (k|k);exact hne k;exact k c2)] at e;rw[←e] at h;have be:bld [(iv 0),(iv 0),nilS] [(0,1),(1,1),(2,1)] [(2,v0)]=some (.agg [iv 0,iv 0,v0]):=by
     have:=(FdOk.one (f:= .lst 4 (s.1.map Qc)) b0);have ha:=JO this;simp[bld,Qce,ha,spl]
    simp only[g,gl,e0,e1,g1,gl2,l2,QA,be,RR];subst hσ1;refine QiP (cs':=[iv 0,iv 0,roD s.1]) hφ S.sub rfl rfl (by intro x hx;simp at hx;rcases hx with rfl|rfl<;>first|rfl|exact FdOk.one (f:= .lst 4 (s.1.map Qc)) b0) rfl (fun j hj=>?_) h;match j,hj with
    |0,_=>exact .same _
    |1,_=>exact .same _
    |2,_=>exact S.fzl (i:=0) rfl e0 (by intro c hc;obtain ⟨x,_,rfl⟩:=List.mem_map.1 hc;rfl)
   ·have gl2:(0:Int)<((s.2.length:Nat):Int):=by have:=List.length_pos_iff.2 c2;omega
    rw[if_pos (.inr c2)] at e;rw[←e] at h;simp only[g,gl,e1,g1,gl2,l2,QA,bt,RR];exact out _ _ _ S.sub h
end
section
set_option maxRecDepth 100000
theorem Qvi {c x:UInt8} {l r:List UInt8} {j:Nat} (e:l.drop j=x::r) (h:c≠x):Lib.occAt l [c] j=false:=by
 unfold Lib.occAt;rw[e];show (c==x&&[].isPrefixOf r)=false;rw[beq_eq_false_iff_ne.2 h];rfl
theorem Qw7 {c:UInt8} {a r:List UInt8} (h:c∉a):Lib.index (a++c::r) [c]=(a.length:Nat):=by
 refine Lib.index_first (by simp) ?_ ?_
 ·simp[Lib.occAt]
 ·intro j hj;have e:(a++c::r).drop j=a[j]::(a++c::r).drop (j+1):=by
   rw[List.drop_eq_getElem_cons (by simp;omega),List.getElem_append_left hj]
  exact Qvi e fun e=>h (e▸List.getElem_mem hj)
theorem Qw8 {c:UInt8} {a:List UInt8} (h:c∉a):Lib.index a [c]= -1:=by
 refine Lib.index_none fun j hj=>?_
 by_cases e:j<a.length
 ·exact Qvi (List.drop_eq_getElem_cons e) fun e=>h (e▸List.getElem_mem _)
 ·unfold Lib.occAt;rw[List.drop_eq_nil_of_le (by omega)];rfl
theorem Qxz {c:UInt8} (h:c.toNat=10):c=10:=by
 have:UInt8.toNat c=UInt8.toNat 10:=h;exact UInt8.toNat_inj.1 this
theorem Qz3:∀(a r:List UInt8),(10:UInt8)∉a→skp true (a++10::r)=a.length+1+skp false r:=by
 intro a
 induction a with
 |nil=>intro r _;rw[List.nil_append,skp,if_pos (by decide)];simp;omega
 |cons c a ih=>
  intro r h;rw[List.cons_append,skp,if_neg (fun e=>h (by rw[Qxz e];simp)),ih r (fun e=>h (List.mem_cons_of_mem _ e)),List.length_cons];omega
theorem Qw9:∀a:List UInt8,(10:UInt8)∉a→skp true a=a.length:=by
 intro a
 induction a with
 |nil=>intro _;rfl
 |cons c a ih=>
  intro h;rw[skp,if_neg (fun e=>h (by rw[Qxz e];simp)),ih (fun e=>h (List.mem_cons_of_mem _ e)),List.length_cons]
theorem Qxa:∀l:List UInt8,(10:UInt8)∉l∨∃a r,l=a++10::r∧(10:UInt8)∉a:=by
 intro l
 induction l with
 |nil=>left;simp
 |cons c l ih=>
  by_cases h:c=10
  ·right;exact ⟨[],l,by rw[h];rfl,by simp⟩
  ·rcases ih with k|⟨a,r,e,k⟩
   ·left;simp only[List.mem_cons,not_or];exact ⟨fun e=>h e.symm,k⟩
   ·right;exact ⟨c::a,r,by rw[e];rfl,by simp only[List.mem_cons,not_or];exact ⟨fun e=>h e.symm,k⟩⟩
theorem Qz4 {c:UInt8} (h:c.toNat=59) (l:List UInt8):1≤(Lib.cut (c::l) [10]).1.length∧(Lib.cut (c::l) [10]).1.length≤(c::l).length∧skp false (c::l)=(Lib.cut (c::l) [10]).1.length+skp false ((c::l).drop (Lib.cut (c::l) [10]).1.length):=by
 have hc:c≠10:=by rintro rfl;revert h;decide
 have e0:skp false (c::l)=skp true l+1:=by rw[skp,if_pos h]
 rw[e0];unfold Lib.cut;rcases Qxa l with k|⟨a,r,e,k⟩
 ·have k':(10:UInt8)∉c::l:=by simp only[List.mem_cons,not_or];exact ⟨fun e=>hc e.symm,k⟩
  rw[Qw8 k',if_neg (by decide),Qw9 l k,List.drop_length];simp[skp]
 ·have k':(10:UInt8)∉c::a:=by simp only[List.mem_cons,not_or];exact ⟨fun e=>hc e.symm,k⟩
  have e2:c::l=(c::a)++10::r:=by rw[e];rfl
  have ei:=Qw7 (r:=r) k';rw[e2,ei,if_pos (by omega),Int.toNat_natCast];have et:((c::a)++10::r).take (c::a).length=c::a:=List.take_left ..;have ed:((c::a)++10::r).drop (c::a).length=10::r:=List.drop_left ..;have es:skp false (10::r)=skp false r+1:=by rw[skp,if_neg (by decide),if_pos (.inr (by decide))]
  dsimp only;rw[et,ed,es,e,Qz3 a r k];refine ⟨by simp,by simp,by simp;omega⟩
theorem Qr8 {c:UInt8} {n:Nat} (hn:n<256) (h:c.toNat=n):c=UInt8.ofNat n:=by
 apply UInt8.toNat_inj.1
 rw[h,UInt8.toNat_ofNat'];omega
theorem Qz5 (c:UInt8):Lib.indexByte [40,41,39] c=Je c - 1:=by
 unfold Je;by_cases h1:c.toNat=40
 ·rw[if_pos h1,Qr8 (by omega) h1];decide
 rw[if_neg h1];by_cases h2:c.toNat=41
 ·rw[if_pos h2,Qr8 (by omega) h2];decide
 rw[if_neg h2];by_cases h3:c.toNat=39
 ·rw[if_pos h3,Qr8 (by omega) h3];decide
 rw[if_neg h3];have n1:((40:UInt8)==c)=false:=beq_eq_false_iff_ne.2 (by rintro rfl;exact h1 rfl);have n2:((41:UInt8)==c)=false:=beq_eq_false_iff_ne.2 (by rintro rfl;exact h2 rfl);have n3:((39:UInt8)==c)=false:=beq_eq_false_iff_ne.2 (by rintro rfl;exact h3 rfl);simp[Lib.indexByte,n1,n2,n3]
theorem Qz6 (c:UInt8):0≤Je c∧Je c≤3:=by unfold Je;repeat' split<;>omega
abbrev stopB:List UInt8:=[32,10,40,41,39,59]
theorem Qr9 (c:UInt8):stopB.contains c=true↔(c.toNat=32∨c.toNat=10∨c.toNat=59∨Je c≠0):=by
 rw[List.contains_iff_mem];have e:∀n:UInt8,c=n↔c.toNat=n.toNat:=fun n=>UInt8.toNat_inj.symm
 simp only[stopB,List.mem_cons,List.not_mem_nil,or_false,e];have q1:(32:UInt8).toNat=32:=rfl;have q2:(10:UInt8).toNat=10:=rfl;have q3:(40:UInt8).toNat=40:=rfl;have q4:(41:UInt8).toNat=41:=rfl;have q5:(39:UInt8).toNat=39:=rfl;have q6:(59:UInt8).toNat=59:=rfl;rw[q1,q2,q3,q4,q5,q6];unfold Je;by_cases h1:c.toNat=40
 ·simp[h1]
 by_cases h2:c.toNat=41
 ·simp[h2]
 by_cases h3:c.toNat=39
 ·simp[h3]
 simp only[h1,h2,h3,if_false];simp
theorem Qz7:∀l:List UInt8,Lib.indexAny (l++[32]) stopB=(wrd l:Nat):=by
 intro l
 induction l with
 |nil=>rfl
 |cons c r ih=>
  rw[List.cons_append,Lib.indexAny,wrd];by_cases h:stopB.contains c=true
  ·rw[if_pos h,if_pos ((Qr9 c).1 h)];rfl
  ·rw[if_neg h,if_neg (fun k=>h ((Qr9 c).2 k)),ih,if_neg (by rw[beq_iff_eq];omega)];simp
theorem Qz8:QbD [35,116]=false:=by unfold QbD J2;simp[dgsB,sgnB,isDg]
theorem Qz9:QbD [35,102]=false:=by unfold QbD J2;simp[dgsB,sgnB,isDg]
variable [L:Lam] [K:Knows QS] {σ τ:AH} {R:AEnd→AH→Prop}
theorem Qsa {l:List UInt8} {k:Nat} (h:k≤l.length):slcStr (str (bs l)) (some (iv (k:Int))) none=some (str (bs (l.drop k))):=by
 have e1:abd none (bs l).size=some (bs l).size:=rfl;have e2:abd (some (AV.val (.int .i64 ((k:Nat):Int)))) 0=some k:=by simp[abd]
 simp only[slcStr,e1,e2];rw[if_pos ⟨by rw[Qm];exact h,Nat.le_refl _⟩]
 congr 3
 apply ByteArray.ext
 rw[ByteArray.data_extract,Qm];simp only[List.extract_toArray,List.extract_eq_take_drop];rw[List.take_of_length_le (by rw[List.length_drop];omega)]
theorem Qnp {l:List UInt8} (hl:l.length≤1048576) (h:R (.ret (.tup [.agg (Qw (Qag l).1),bv (Qag l).2])) σ):acall TP QdR [str (bs l)] σ R:=by
 refine QjL ?_;unfold x185;dsimp only[den,dE,di,List.map,den0,den1];intro φ hφ;unfold Qag at h;simp only[Jy,RR];by_cases c1:bs l=⟨#[35,116]⟩
 ·have el:l=[35,116]:=QrE c1;rw[if_neg (by rw[el,Qz8];decide),if_pos c1] at h;simp only[c1,(bldT 5 1 ⟨#[]⟩).1,RR];exact UM hφ rfl rfl (Q8 _) h
 by_cases c2:bs l=⟨#[35,102]⟩
 ·have el:l=[35,102]:=QrE c2;rw[if_neg (by rw[el,Qz9];decide),if_neg c1,if_pos c2] at h;have c1':¬(⟨#[35,102]⟩:ByteArray)=⟨#[35,116]⟩:=by rw[←c2];exact c1
  simp only[c2,c1',(bldT 5 1 ⟨#[]⟩).2.1,RR];exact UM hφ rfl rfl (Q8 _) h
 rw[if_neg c1,if_neg c2] at h;simp only[c1,c2,RR];refine Qon (by rw[Qm];omega) ?_;rw[Qzx];have l0:∀(a b:Int) τ,lod (.rop [iv a,iv b] 0) τ=some (iv a):=fun _ _ _=>rfl
 have l1:∀(a b:Int) τ,lod (.rop [iv a,iv b] 1) τ=some (iv b):=fun _ _ _=>rfl
 cases hn:QbD l with
 |true=>
  rw[hn] at h;simp only[if_true] at h;simp only[if_true,RR];refine Ji rfl rfl rfl (by intro y hy;simp only[List.mem_cons,List.not_mem_nil,or_false] at hy;rcases hy with rfl|rfl<;>rfl) ?_;simp only[l0,l1,(bldT 4 (parV l) ⟨#[]⟩).1,RR];exact UM hφ rfl rfl (Q8 _) h
 |false=>
  rw[hn] at h;simp only[Bool.false_eq_true,if_false] at h;simp only[Bool.false_eq_true,if_false,RR];refine Ji rfl rfl rfl (by intro y hy;simp only[List.mem_cons,List.not_mem_nil,or_false] at hy;rcases hy with rfl|rfl<;>rfl) ?_;have n5:¬(5:Int)=0:=by decide
  simp only[l0,l1,n5,(bldT 6 1 (bs l)).2.2,RR];refine Qcy ?_;cases hy:Qax (bs l) with
  |true=>
   rw[hy] at h;simp only[if_true,RR];exact UM hφ rfl rfl (Q8 _) h
  |false=>
   rw[hy] at h;simp only[Bool.false_eq_true,if_false,n5,RR];exact UM hφ rfl rfl (Q8 _) h
set_option maxHeartbeats 1000000 in
theorem QoG {t:List UInt8} (h:R (.ret (.agg [iv (tokR t).2.1,iv ((tokR t).2.2:Nat),roT (tokR t).1])) σ):acall TP QbM [str (bs t)] σ R:=by
 refine Qku ?_;unfold x153;dsimp only[den,dE,di,tupL,lTup,den2,den3,den4,List.map,den0,den1,Option.map];intro φ hφ;unfold tokR at h;simp only[Qm,RR];have bt:∀a b:Int,bld [(iv 0),(iv 0),nilS] [(0,1),(1,1),(2,1)] [(0,iv a),(1,iv b)]=some (.agg [iv a,iv b,.val (.slice none 0 0)]):=fun _ _=>rfl
 have out:∀(τ:AH) (a b:Int),AH.Sub (σ.set φ ⟨0,3,[[iv 0,iv 0,.val (.slice none 0 0)]]⟩) τ→R (.ret (.agg [iv a,iv b,roT []])) σ→sto 3 (.ptr φ 0 0 0) (.agg [iv a,iv b,.val (.slice none 0 0)]) τ fun σ=>og (lodA 3 (.ptr φ 0 0 0) σ) fun r=>aret r σ R:=fun τ a b hs hh=>by
  refine QiP (cs':=[iv a,iv b,roT []]) hφ hs rfl rfl (by intro x hx;simp at hx;rcases hx with rfl|rfl|rfl<;>rfl) rfl (fun j hj=>?_) hh;match j,hj with
  |0,_=>exact .same _
  |1,_=>exact .same _
  |2,_=>exact .nil
 by_cases cl:400<t.length
 ·rw[if_pos cl] at h;have g:(400:Int)<(t.length:Int):=by omega
  have eb:bld [(iv 0),(iv 0),nilS] [(0,1),(1,1),(2,1)] [(0,(iv 2))]=some (.agg [iv 2,iv 0,.val (.slice none 0 0)]):=rfl;simp only[g,eb,RR];exact out _ _ _ (.refl _) h
 rw[if_neg cl] at h;have g:¬(400:Int)<(t.length:Int):=by omega
 simp only[g,RR];refine bsl0 ?_;generalize hσ1:σ.set φ ⟨0,[(.val (.int .i64 0):AV),(iv 0),nilS].length,[[(iv 0),(iv 0),nilS]]⟩=σ1;change σ.set φ ⟨0,3,[[iv 0,iv 0,.val (.slice none 0 0)]]⟩=σ1 at hσ1;rw[hσ1] at out;generalize hE:toks t (t.length+1) (skp false t) []=E at h;refine QF (fun n x τ=>∃(p f:Nat) (ts:List Tok) (u:AV),x=(str (bs t),.ptr φ 0 0 0,u,iv (p:Int),())∧Buf τ 3 u (ts.map Qw)∧AH.Sub σ1 τ∧(∀ψ,ψ∈famL u→σ1 ψ=none)∧toks t f (p+skp false (t.drop p)) ts=E∧ts.length≤120∧p≤t.length∧t.length+1≤f+p∧t.length - p=n) t.length
  ⟨0,t.length+1,[],.emp,rfl,.inl ⟨.inr rfl,rfl⟩,.refl σ1,(fun ψ c=>by cases c),by simpa using hE,by simp,by omega,by omega,rfl⟩ ?_
 rintro n x τ ⟨p,f,ts,u,rfl,hB,hs,hf,he,hn,hp,hfp,rfl⟩ R' hR';simp only[Qm,RR];by_cases c:p<t.length
 case neg=>
  have g:¬(p:Int)<(t.length:Int):=by omega
  obtain rfl:p=t.length:=by omega
  have ee:E=(ts,0,0):=by
   rw[←he];cases f with
   |zero=>rfl
   |succ f=>rw[toks,List.drop_length];simp[skp]
  rw[ee] at h;have be:bld [(iv 0),(iv 0),nilS] [(0,1),(1,1),(2,1)] [(2,u)]=some (.agg [iv 0,iv 0,u]):=by
   have ha:=JO (Bfj.one hB.bfj);simp[bld,Qce,ha,spl]
  simp only[g,be,RR];subst hσ1;refine QiP (cs':=[iv 0,iv 0,roT ts]) hφ hs rfl rfl (by intro x hx;simp at hx;rcases hx with rfl|rfl<;>first|rfl|exact Bfj.one hB.bfj) rfl (fun j hj=>?_) h;match j,hj with
  |0,_=>exact .same _
  |1,_=>exact .same _
  |2,_=>exact Uq hB hf rfl (by intro c hc;obtain ⟨o,_,rfl⟩:=List.mem_map.1 hc;rfl) fun _ _ _ _=> .same _
 have g:(p:Int)<(t.length:Int):=by omega
 have dc:=List.drop_eq_getElem_cons c;have cmp:=fun a b:Int=>(JH a b).2.2.2.2.1
 have k32:=cmp (t[p].toNat:Nat) 32;have k10:=cmp (t[p].toNat:Nat) 10;have k59:=cmp (t[p].toNat:Nat) 59;simp only[g,Q6 c,k32,k10,k59,RR];have stepB:t[p].toNat=32∨t[p].toNat=10→R' (str (bs t),.ptr φ 0 0 0,u,iv ((p+1:Nat):Int),()) τ:=fun hc=>by
  have h59:¬t[p].toNat=59:=by omega
  rw[dc,skp,if_neg h59,if_pos hc] at he;exact hR' _ _ (t.length - (p+1)) τ (by omega) (.refl _) ⟨p+1,f,ts,u,rfl,hB,hs,hf,by rw[show p+1+skp false (t.drop (p+1))=p+(skp false (t.drop (p+1))+1) by omega];exact he,hn,by omega,by omega,rfl⟩
 by_cases h32:t[p].toNat=32
 ·have g32:((t[p].toNat:Nat):Int)=32:=by omega
  simp only[g32,Qh c (show t.length≤9223372036854775807 by omega),RR];exact stepB (.inl h32)
 have g32:¬((t[p].toNat:Nat):Int)=32:=by omega
 by_cases h10:t[p].toNat=10
 ·have g10:((t[p].toNat:Nat):Int)=10:=by omega
  have g32':¬(10:Int)=32:=by omega
  simp only[g10,g32',Qh c (show t.length≤9223372036854775807 by omega),RR];exact stepB (.inr h10)
 have g10:¬((t[p].toNat:Nat):Int)=10:=by omega
 by_cases h59:t[p].toNat=59
 ·have g59:((t[p].toNat:Nat):Int)=59:=by omega
  have g32':¬(59:Int)=32:=by omega
  have g10':¬(59:Int)=10:=by omega
  simp only[g59,g32',g10',Qsa hp,RR];refine QqK (p:=[10]) (by rw[List.length_drop];omega) ?_;obtain ⟨q1,q2,q3⟩:=Qz4 h59 (t.drop (p+1));rw[←dc] at q1 q2 q3;rw[q3] at he;generalize Lib.cut (t.drop p) [10]=cu at q1 q2 he ⊢;have a0:aext (.tup [str (bs cu.1),str (bs cu.2.1),bv cu.2.2]) 0=some (str (bs cu.1)):=rfl;have a1:aext (.tup [str (bs cu.1),str (bs cu.2.1),bv cu.2.2]) 1=some (str (bs cu.2.1)):=rfl;have a2:aext (.tup [str (bs cu.1),str (bs cu.2.1),bv cu.2.2]) 2=some (bv cu.2.2):=rfl;rw[List.length_drop] at q2;have ea:ibin .add (iv (p:Int)) (iv (cu.1.length:Int))=some (iv ((p+cu.1.length:Nat):Int)):=by rw[Jk (by omega) (by omega)];rfl
  simp only[a0,a1,a2,Qm,ea,RR];refine hR' _ _ (t.length - (p+cu.1.length)) τ (by omega) (.refl _) ⟨p+cu.1.length,f,ts,u,rfl,hB,hs,hf,?_,hn,by omega,by omega,rfl⟩;rw[List.drop_drop] at he;rw[Nat.add_assoc];exact he
 have g59:¬((t[p].toNat:Nat):Int)=59:=by omega
 have sk0:skp false (t.drop p)=0:=by rw[dc,skp,if_neg h59,if_neg (by omega)]
 rw[sk0,Nat.add_zero] at he;obtain ⟨f,rfl⟩:∃g,f=g+1:=⟨f - 1,by omega⟩;rw[toks,dc] at he;dsimp only at he;have e0:bld [(iv 0),(iv 0),(.val (.string ⟨#[]⟩))] [(0,1),(1,1),(2,1)] []=some (.agg (Qw ⟨0,0,⟨#[]⟩⟩)):=rfl;simp only[g32,g10,g59,k32,k10,k59,e0,RR];intro ψ hψ;refine QH (es:=[[iv 0,iv 0,str ⟨#[]⟩]]) (cs:=Qw ⟨0,0,⟨#[]⟩⟩) (AH.set_same ..) (by simp) rfl rfl rfl (Q8 _) ?_;simp only[List.set_cons_zero,AH.set_set];refine J3 (P:=fun x τ'=>∃(q:Nat) (tk:Tok) (b:Bool),x=(str (bs t),.ptr φ 0 0 0,u,iv (p:Int),iv (q:Int),.ptr ψ 0 0 0,bv b,())∧τ'=τ.set ψ ⟨0,3,[Qw tk]⟩∧1≤q∧p+q≤t.length∧E=(if b=false then ([],5,p) else if 120≤ts.length then ([],2,p) else toks t f (p+q+skp false (t.drop (p+q))) (ts++[tk]))) ?_ ?_
 ·rintro x τ' ⟨q,tk,b,rfl,rfl,q1,q2,ee⟩;refine QK hψ rfl ?_;cases b with
  |false=>
   rw[if_pos rfl] at ee;rw[ee] at h;simp only[bt,RR];exact out _ _ _ hs h
  |true=>
   rw[if_neg (by decide)] at ee;have hlen:lenS u=some (iv (ts.length:Int)):=by have:=Jj hB;simpa using this
   simp only[hlen,RR];by_cases cm:120≤ts.length
   ·have gm:(ts.length:Int)=120:=by omega
    rw[if_pos cm] at ee;rw[ee] at h;simp only[gm,bt,RR];exact out _ _ _ hs h
   ·have gm:¬(ts.length:Int)=120:=by omega
    rw[if_neg cm] at ee;simp only[gm,Qu (Qa1 tk),RR];refine Qtb (row:=Qw tk) hB Qu7 (by omega) rfl (Q8 tk) (by simp;omega) fun u' τ2 hB' hK hfam=>?_
    have ea:ibin .add (iv (p:Int)) (iv (q:Int))=some (iv ((p+q:Nat):Int)):=by rw[Jk (by omega) (by omega)];rfl
    simp only[ea,RR];exact hR' _ _ (t.length - (p+q)) τ2 (by omega) (.refl _) ⟨p+q,f,ts++[tk],u',rfl,by simpa using hB',hK.sub hs hf,(fun χ hχ=>(hfam χ hχ).elim (hf χ) fun d=>hs.none d),ee.symm,by simp;omega,by omega,by omega,rfl⟩
 ·intro k hk;simp only[Q6 c,RR];refine QjO (l:=[40,41,39]) ?_;rw[Qz5];have ml:=Qz6 t[p];simp only[RR];by_cases cm:Je t[p]=0
  ·rw[if_neg (by simp[cm])] at he;have gm:¬(0:Int)≤Je t[p] - 1:=by omega
   have eadd:sbin .add (str (bs (t.drop p))) (.val (.string ⟨#[32]⟩))=some (str (bs (t.drop p++[32]))):=by
    have:=QiE (bs (t.drop p)) (bs [32]) (by rw[Qm,Qm,List.length_drop];simp;omega);rw[Qdr] at this;exact this
   simp only[gm,Qsa hp,eadd,RR];refine QkP (p:=stopB) (by rw[List.length_append,List.length_drop];simp;omega) (by decide) (by decide) (by decide) ?_;rw[Qz7];have hw:=Qu6 (t.drop p);have hw1:1≤wrd (t.drop p):=by rw[dc,QrX h32 h10 h59 cm];omega
   rw[←dc] at he;rw[List.length_drop] at hw;generalize hW:wrd (t.drop p)=W at*;have ea:ibin .add (iv (p:Int)) (iv (W:Int))=some (iv ((p+W:Nat):Int)):=by rw[Jk (by omega) (by omega)];rfl
   simp only[ea,RR];rw[Qr1 (a:=p) (b:=p+W) (by omega) (by omega),show p+W - p=W by omega];simp only[RR];refine Qnp (by rw[List.length_take];omega) ?_;generalize Qag ((t.drop p).take W)=wt at*;have a0:aext (.tup [.agg (Qw wt.1),bv wt.2]) 0=some (.agg (Qw wt.1)):=rfl;have a1:aext (.tup [.agg (Qw wt.1),bv wt.2]) 1=some (bv wt.2):=rfl;simp only[a0,a1,RR];refine QH (es:=[Qw ⟨0,0,⟨#[]⟩⟩]) (cs:=Qw wt.1) (by rw[AH.set_same]) (by simp) rfl rfl rfl (Q8 _) ?_;simp only[List.set_cons_zero,AH.set_set];exact hk _ _ ⟨W,wt.1,wt.2,rfl,rfl,hw1,by omega,he.symm⟩
  ·rw[if_pos cm] at he;have gm:(0:Int)≤Je t[p] - 1:=by omega
   have ea:ibin .add (iv 1) (iv (Je t[p] - 1))=some (iv (Je t[p])):=by rw[Jk (by omega) (by omega)];congr 3;omega
   simp only[gm,ea,RR];refine Q4 (es:=[Qw ⟨0,0,⟨#[]⟩⟩]) (cs:=Qw ⟨0,0,⟨#[]⟩⟩) (AH.set_same ..) rfl (show 0<3 by omega) rfl rfl ?_;rw[AH.set_set];exact hk _ _ ⟨1,⟨Je t[p],0,⟨#[]⟩⟩,true,rfl,rfl,by omega,by omega,by rw[if_neg (by decide)];exact he.symm⟩
end
section
set_option maxRecDepth 100000
section
variable {p:Int→Int}
theorem QxA:∀(n:Nat) (a x:Int),(a+1).toNat≤n→upW p a x=true→x≤a∧0≤x:=by
 intro n
 induction n with
 |zero=>intro a x h hu;rw[upW,if_pos (by omega)] at hu;cases hu
 |succ n ih=>
  intro a x h hu;rw[upW] at hu;split at hu
  ·cases hu
  ·split at hu
   ·omega
   ·split at hu
    ·have:=ih (p a) x (by omega) hu;omega
    ·cases hu
theorem Qtp:∀(n:Nat) (a x:Int),(a+1).toNat≤n→upW p a x=true→Q0 p x≤Q0 p a∧(a≠x→Q0 p x<Q0 p a):=by
 intro n
 induction n with
 |zero=>intro a x h hu;rw[upW,if_pos (by omega)] at hu;cases hu
 |succ n ih=>
  intro a x h hu;rw[upW] at hu;split at hu
  ·cases hu
  ·rename_i h0;split at hu
   ·rename_i e;subst e;exact ⟨Nat.le_refl _,fun c=>absurd rfl c⟩
   ·split at hu
    ·rename_i hp;have:=(ih (p a) x (by omega) hu).1;have e:Q0 p a=Q0 p (p a)+1:=by conv=>lhs;rw[Q0,if_neg h0,if_pos hp]
     exact ⟨by omega,fun _=>by omega⟩
    ·cases hu
theorem QBI:∀(n:Nat) (a x q:Int),(a+1).toNat≤n→upW p a x=true→upW p a q=true→(x≤q→upW p q x=true)∧(q≤x→upW p x q=true):=by
 intro n
 induction n with
 |zero=>intro a x q h hu;rw[upW,if_pos (by omega)] at hu;cases hu
 |succ n ih=>
  intro a x q h hx hq;have l1:=QxA _ a x (Nat.le_refl _) hx;have l2:=QxA _ a q (Nat.le_refl _) hq;by_cases c1:a=x
  ·subst c1;refine ⟨fun c=>?_,fun _=>hq⟩;obtain rfl:a=q:=by omega
   exact hx
  by_cases c2:a=q
  ·subst c2;refine ⟨fun _=>hx,fun c=>?_⟩;obtain rfl:a=x:=by omega
   exact hq
  rw[upW] at hx hq;split at hx
  ·cases hx
  ·rename_i h0;rw[if_neg h0,if_neg c2] at hq;split at hx
   ·rename_i hp;rw[if_pos hp] at hq;exact ih (p a) x q (by omega) hx hq
   ·cases hx
end
section
variable {ds:List Dat} [L:Lam]
def DLs (ds:List Dat):Prop:=∀i,0<i→i<ds.length→(dat ds (dat ds i).parent.toNat).kind=4∧upW (par ds) ((i:Int) - 1) (dat ds i).parent=true
theorem DLs.of (h:JM ds=0):DLs ds:=by
 have hz:∀j,j<ds.length→datF ds j=0:=by
  unfold JM at h;split at h
  ·intro j hj;exact Qbt _ _ h j (Nat.zero_le _) (by omega)
  ·cases h
 intro i h0 hi;have h:=hz i hi;unfold datF at h;split at h
 ·cases h
 split at h
 ·rename_i hk;exact absurd h hk
 rw[if_neg (by omega)] at h;split at h
 ·cases h
 split at h
 ·cases h
 ·rename_i c;refine ⟨Classical.byContradiction fun k=>c (.inl k),?_⟩;cases hu:upW (par ds) ((i:Int) - 1) (dat ds i).parent with
  |true=>rfl
  |false=>exact absurd (.inr hu) c
theorem Qvj (hl:DLs ds) (hd:DOk ds) {x k:Nat} (hk:k∈Qe ds x):(dat ds x).kind=4:=by
 obtain ⟨h1,h2⟩:=Qqr.1 hk;have h3:=hd.kid hk;have:=(hl k (by omega) h1).1;rw[h2] at this;exact this
def subB (ds:List Dat) (x:Nat):Nat→Nat→List Dat
 |0,_=>[]
 |f+1,i=>if (dat ds i).parent<x then [] else {dat ds i with parent:=(dat ds i).parent - x}::subB ds x f (i+1)
theorem QAa (hl:DLs ds) (hd:DOk ds) {x:Nat}:∀f i,f=ds.length - i→x<i→upW (par ds) ((i:Int) - 1) x=true→subG ds x f i=subB ds x f i:=by
 intro f
 induction f with
 |zero=>intro i _ _ _;rfl
 |succ f ih=>
  intro i hf hi hu;have hil:i<ds.length:=by omega
  have h1:=(hl i (by omega) hil).2;have hp:=hd.par i (by omega) hil;have e:par ds (i:Int)=(dat ds i).parent:=by unfold par;simp
  have hdi:Q0 (par ds) (i:Int)=Q0 (par ds) (dat ds i).parent+1:=by
   conv=>lhs;rw[Q0,if_neg (by omega),if_pos (by rw[e];omega),e]
  have ht:=QBI _ _ _ _ (Nat.le_refl _) hu h1;rw[subG,subB];by_cases c:(dat ds i).parent<x
  ·have hu2:=ht.2 (by omega);have:=(Qtp _ _ _ (Nat.le_refl _) hu2).2 (by omega);rw[if_pos c,if_neg];unfold QcB;omega
  ·have hu2:=ht.1 (by omega);have:=(Qtp _ _ _ (Nat.le_refl _) hu2).1;rw[if_neg c,if_pos ⟨hil,.inr (by unfold QcB;omega)⟩,if_neg (by omega)]
   congr 1
   refine ih (i+1) (by omega) (by omega) ?_;have:(((i+1:Nat):Int) - 1)=(i:Int):=by omega
   rw[this,upW,if_neg (by omega),if_neg (by omega),if_pos (by rw[e];omega),e];exact hu2
theorem QAb (hl:DLs ds) (hd:DOk ds) {x:Nat} (hx:x<ds.length):subD ds x={dat ds x with parent:= -1}::subB ds x (ds.length - (x+1)) (x+1):=by
 unfold subD;obtain ⟨n,hn⟩:∃n,ds.length - x=n+1:=⟨ds.length - x - 1,by omega⟩;rw[hn,subG,if_pos ⟨hx,.inl rfl⟩,if_pos rfl]
 congr 1
 rw[←QAa hl hd _ _ rfl (by omega)]
 ·rw[show ds.length - (x+1)=n by omega]
 ·rw[show (((x+1:Nat):Int) - 1)=(x:Int) by omega,upW,if_neg (by omega),if_pos rfl]
theorem Qxb (s:ByteArray):∀(l:List ByteArray) (k:Nat),idxS l s k=match posL l s with|none=> -1|some b=>((b+k:Nat):Int):=by
 intro l
 induction l with
 |nil=>intro k;rfl
 |cons t r ih=>
  intro k;rw[idxS,posL];by_cases c:t=s
  ·rw[if_pos c.symm,if_pos c];simp
  ·rw[if_neg (fun e=>c e.symm),if_neg c,ih];cases posL r s with
   |none=>rfl
   |some b=>simp only[Option.map_some];congr 1;omega
theorem QAc:∀(l:List Nat) (ns:List ByteArray) (vs:List Nat),UU ds l ns vs=if ∀k,k∈l→(Qe ds k).length=2 then (JY ds (l.map fun k=>(Qe ds k).getD 0 0) ns).map fun ns'=>(ns',vs++l.map fun k=>(Qe ds k).getD 1 0) else none:=by
 intro l
 induction l with
 |nil=>intro ns vs;rw[if_pos (fun k hk=>by cases hk)];simp[UU,JY]
 |cons k r ih=>
  intro ns vs;rw[UU];by_cases c:(Qe ds k).length=2
  ·rw[if_neg (by simpa using c),List.map_cons,List.map_cons,JY];by_cases c2:badP ds ((Qe ds k).getD 0 0) ns=true
   ·rw[if_pos c2,if_pos c2];simp
   ·rw[if_neg c2,if_neg c2,ih];by_cases c3:∀j,j∈r→(Qe ds j).length=2
    ·rw[if_pos c3,if_pos (fun j hj=>by rcases List.mem_cons.1 hj with rfl|hj;exact c;exact c3 j hj)];simp
    ·rw[if_neg c3,if_neg (fun h=>c3 fun j hj=>h j (List.mem_cons_of_mem _ hj))]
  ·rw[if_pos (by simpa using c),if_neg (fun h=>c (h k (by simp)))]
end
variable [L:Lam] {σ τ τ':AH} {R:AEnd→AH→Prop}
theorem Qxc {sz:Nat} {es:List (List AV)} {k:Nat} (hk:k≤es.length) (hz:∀c,c∈es→c.length=sz):slc sz (.ro es) (some (iv (k:Nat))) none none σ=some (.ro (es.drop k)):=by
 have e1:abd (some (iv (k:Nat))) 0=some k:=Qb7 _ _;have e2:abd none es.length=some es.length:=rfl;simp only[slc,e1,e2];rw[if_pos ⟨hk,Nat.le_refl _,Nat.le_refl _,by simp,by rw[List.all_eq_true];intro c hc;simpa using hz c hc⟩];rw[List.take_length]
section
variable {ds:List Dat} {φm:Nat} {C:List Cor}
theorem QaR {x:Nat} (hl:ds.length≤1000000) (h:R (.ret (roK (Qe ds x))) σ):acall TP QiZ [roD ds,iv (x:Int)] σ R:=by
 refine Qn1 ?_;unfold x77;dsimp only[den,dE,di,tupL,lTup,den2,den3,den4,List.map,den0,den1];refine bsl0 ?_;simp only[QA,RR];refine Ua ds.length (fun i y τ=>∃u,y=(iv (x:Int),u,roD ds,iv (ds.length:Int),iv (i:Int),())∧Buf τ 1 u (innK (kdTo ds i x))∧AH.Sub σ τ∧∀ψ,ψ∈famL u→σ ψ=none) ⟨.emp,rfl,.inl ⟨.inr rfl,rfl⟩,.refl σ,fun ψ c=>by cases c⟩ ?_;rintro i _ τ hi ⟨u,rfl,hB,hs,hf⟩ R' hR';by_cases hlt:i<ds.length
 ·have g:(i:Int)<(ds.length:Int):=by omega
  have l1:∀τ,lod (.rop (Qc (dat ds i)) 1) τ=some (iv (dat ds i).parent):=fun _=>rfl
  simp only[g,Qq hlt Ql,QZ hlt,Qu (Ql _),jn,RR];refine Ji rfl (Ql _) rfl (Q2 _) ?_;simp only[l1,RR];by_cases c:(dat ds i).parent=(x:Int)
  ·simp only[c,RR];refine US (row:=[iv (i:Int)]) hB rfl (by omega) rfl (fun y hy=>by obtain rfl:=List.mem_singleton.1 hy;rfl) (by have:=Qth ds i x;simp;omega) fun u' τ' hB' hK hfam=>?_
   simp only[Qh hlt (by omega),RR];refine hR' _ _ _ hlt (.refl _) ⟨u',rfl,?_,hK.sub hs hf,fun ψ hψ=>(hfam ψ hψ).elim (hf ψ) fun d=>hs.none d⟩;rw[QgA,if_pos c];simpa[innK] using hB'
  ·simp only[c,Qh hlt (by omega),RR];refine hR' _ _ _ hlt (.refl _) ⟨u,rfl,?_,hs,hf⟩;rw[QgA,if_neg c,List.append_nil];exact hB
 ·have g:¬(i:Int)<(ds.length:Int):=by omega
  obtain rfl:i=ds.length:=by omega
  simp only[g,RR];exact QW hs (Uq hB hf rfl (by intro c hc;obtain ⟨o,_,rfl⟩:=List.mem_map.1 hc;rfl) fun _ _ _ _=> .same _) h
theorem QoH {x:Nat} (hls:DLs ds) (hd:DOk ds) (hx:x<ds.length) (h:R (.ret (roD (subD ds x))) σ):acall TP Qma [roD ds,iv (x:Int)] σ R:=by
 have hl:=hd.len;refine QqE ?_;unfold x223;dsimp only[den,dE,di,tupL,lTup,den2,den3,den4,List.map,den0,den1,Option.map];simp only[Qq hx Ql,QZ hx,Qu (Ql _),RR];refine bsl1 (row:=Qc (dat ds x)) rfl (by omega) fun φ hφ=>?_
 have ix:idx 4 (.own φ 0 0 1) (iv 0) (σ.set φ ⟨0,4,[Qc (dat ds x)]⟩)=some (.ptr φ 0 0 0):=Jg (i:=0) (AH.set_same ..) (by omega);simp only[ix,RR];refine Q4 (es:=[Qc (dat ds x)]) (cs:=Qc (dat ds x)) (AH.set_same ..) rfl (show 1<4 by omega) rfl rfl ?_;rw[AH.set_set];have x1:∀(d:Dat) (a:Int),[Qc d].set 0 ((Qc d).set 1 (iv a))=[Qc {d with parent:=a}]:=fun d a=>rfl
 rw[x1];have hs0:AH.Sub σ (σ.set φ ⟨0,4,[Qc {dat ds x with parent:= -1}]⟩):= .set (.refl σ) _ hφ;refine J3 (P:=fun z τ=>∃u,z=(u,())∧Buf τ 4 u ((subD ds x).map Qc)∧AH.Sub σ τ∧∀ψ,ψ∈famL u→σ ψ=none) ?_ ?_
 ·rintro z τ ⟨u,rfl,hB,hs,hf⟩;exact QW hs (Uq hB hf rfl (by intro c hc;obtain ⟨o,_,rfl⟩:=List.mem_map.1 hc;rfl) fun _ _ _ _=> .same _) h
 intro k hk;have ea:ibin .add (iv (x:Int)) (iv 1)=some (iv ((x+1:Nat):Int)):=by rw[Jk (by omega) (by omega)];rfl
 have es:slc 4 (roD ds) (some (iv ((x+1:Nat):Int))) none none (σ.set φ ⟨0,4,[Qc {dat ds x with parent:= -1}]⟩)=some (roD (ds.drop (x+1))):=by
  rw[Qxc (by simp;omega) (by intro c hc;obtain ⟨o,_,rfl⟩:=List.mem_map.1 hc;rfl),←List.map_drop]
 have el:lenS (roD (ds.drop (x+1)))=some (iv ((ds.length - (x+1):Nat):Int)):=by rw[QA];simp
 simp only[ea,es,el,RR];refine QF (fun n y τ=>∃(j:Nat) (u:AV) (es:List Dat),y=(iv (x:Int),u,roD (ds.drop (x+1)),iv ((ds.length - (x+1):Nat):Int),iv (j:Int),())∧Buf τ 4 u (es.map Qc)∧AH.Sub σ τ∧(∀ψ,ψ∈famL u→σ ψ=none)∧ds.length - (x+1) - j=n∧j≤ds.length - (x+1)∧es.length=j+1∧es++subB ds x (ds.length - (x+1) - j) (x+1+j)=subD ds x) (ds.length - (x+1))
  ⟨0,.own φ 0 0 1,[{dat ds x with parent:= -1}],rfl,.inr ⟨φ,0,rfl,AH.set_same ..⟩,hs0,(fun ψ c=>by obtain rfl:ψ=φ:=(by simpa[famL] using c);exact hφ),rfl,by omega,rfl,by rw[QAb hls hd hx];rfl⟩ ?_
 rintro n y τ ⟨j,u,es,rfl,hB,hs,hf,rfl,hj,hes,e⟩ R' hR';by_cases hlt:j<ds.length - (x+1)
 ·have g:(j:Int)<((ds.length - (x+1):Nat):Int):=by omega
  have hi:x+1+j<ds.length:=by omega
  have ix2:idx 4 (roD (ds.drop (x+1))) (iv (j:Int)) τ=some (.rop (Qc (dat ds (x+1+j))) 0):=by
   have hjl:j<(ds.drop (x+1)).length:=by simp;omega
   rw[Qq hjl Ql,List.getElem_drop,QZ hi]
  obtain ⟨n,hn⟩:∃n,ds.length - (x+1) - j=n+1:=⟨ds.length - (x+1) - j - 1,by omega⟩;rw[hn,subB] at e;have hpar: -1≤(dat ds (x+1+j)).parent∧(dat ds (x+1+j)).parent≤80:=by
   have:=hd.par (x+1+j) (by omega) hi;omega
  simp only[g,ix2,Qu (Ql _),RR];intro ψ hψ;refine QH (es:=[[iv 0,iv 0,iv 0,str ⟨#[]⟩]]) (cs:=Qc (dat ds (x+1+j))) (AH.set_same ..) (by simp) rfl rfl rfl (Q2 _) ?_;simp only[List.set_cons_zero,AH.set_set];have ll:lod (.ptr ψ 0 0 1) (τ.set ψ ⟨0,4,[Qc (dat ds (x+1+j))]⟩)=some (iv (dat ds (x+1+j)).parent):=Qz (AH.set_same ..) rfl rfl;have hsψ:AH.Sub τ (τ.set ψ ⟨0,4,[Qc (dat ds (x+1+j))]⟩):= .set (.refl τ) _ hψ;by_cases c:(dat ds (x+1+j)).parent<x
  ·rw[if_pos c,List.append_nil] at e;subst e;simp only[ll,c,RR];exact hk _ _ ⟨u,rfl,hB.up fun χ hχ=>AH.set_ne' (by rintro rfl;obtain ⟨F,hF⟩:=hB.live hχ;rw[hψ] at hF;cases hF),hs.trans hsψ,hf⟩
  ·rw[if_neg c] at e;have es1:ibin .sub (iv (dat ds (x+1+j)).parent) (iv (x:Int))=some (iv ((dat ds (x+1+j)).parent - x)):=QU (by omega) (by omega);simp only[ll,c,es1,RR];refine Q4 (es:=[Qc (dat ds (x+1+j))]) (cs:=Qc (dat ds (x+1+j))) (AH.set_same ..) rfl (show 1<4 by omega) rfl rfl ?_;rw[AH.set_set,x1];refine QK hψ rfl ?_;simp only[Qu (Ql _),RR];refine US (row:=Qc {dat ds (x+1+j) with parent:=(dat ds (x+1+j)).parent - x}) hB rfl (by omega) rfl (Q2 _) (by simp;omega) fun u' τ3 hB' hK hfam=>?_
   simp only[Qh hlt (by omega),RR];refine hR' _ _ n τ3 (by omega) (.refl _) ⟨j+1,u',es++[{dat ds (x+1+j) with parent:=(dat ds (x+1+j)).parent - x}],rfl,by simpa using hB',hK.sub hs hf,(fun ψ hψ=>(hfam ψ hψ).elim (hf ψ) fun d=>hs.none d),by omega,hlt,by simp;omega,?_⟩;rw[show ds.length - (x+1) - (j+1)=n by omega,List.append_assoc];exact e
 ·have g:¬(j:Int)<((ds.length - (x+1):Nat):Int):=by omega
  obtain rfl:j=ds.length - (x+1):=by omega
  rw[Nat.sub_self,subB,List.append_nil] at e;subst e;simp only[g,RR];exact hk _ _ ⟨u,rfl,hB,hs,hf⟩
theorem QoI {u:AV} {l:List ByteArray} {s:ByteArray} (hu:RdN σ u l) (hl:l.length≤1000000) (h:R (.ret (iv (idxS l s 0))) σ):acall TP Qar [u,str s] σ R:=by
 refine Qb5 ?_;unfold x246;dsimp only[den,dE,di,tupL,lTup,den2,den3,den4,List.map,den0,den1];simp only[hu.len,RR];refine QF (fun n x τ=>τ=σ∧∃i:Nat,x=(u,str s,iv (l.length:Int),iv (i:Int),())∧l.length - i=n∧i≤l.length∧idxS l s 0=idxS (l.drop i) s i) l.length ⟨rfl,0,rfl,by omega,by omega,by simp⟩ ?_;rintro n x τ ⟨rfl,i,rfl,rfl,hi,hj⟩ R' hR';by_cases hlt:i<l.length
 ·have g:(i:Int)<(l.length:Int):=by omega
  rw[List.drop_eq_getElem_cons hlt,idxS] at hj;obtain ⟨q,q1,q2⟩:=hu.at_ i hlt
  simp only[g,q1,q2,Jy,RR];by_cases c:s=l[i]
  ·rw[if_pos c] at hj;rw[hj] at h;have cd:decide (s=l[i])=true:=by simp[c]
   simp only[cd,RR];exact Qa h
  ·rw[if_neg c] at hj;have cd:decide (s=l[i])=false:=by simp[c]
   simp only[cd,Qh hlt (by omega),RR];exact hR' _ _ (l.length - (i+1)) τ (by omega) (.refl _) ⟨rfl,i+1,rfl,rfl,hlt,hj⟩
 ·have g:¬(i:Int)<(l.length:Int):=by omega
  obtain rfl:i=l.length:=by omega
  rw[List.drop_length,idxS] at hj;rw[hj] at h;simp only[g,RR];exact Qa h
theorem Qk3 {u:AV} {l:List ByteArray} {s:ByteArray} (hu:RdN σ u l) (hl:l.length≤1000000) (h:R (.ret (bv (inL l s))) σ):acall TP UQ [u,str s] σ R:=by
 refine QaL ?_;unfold x245;dsimp only[den,dE,di,List.map,den0,den1];refine QoI hu hl ?_;simp only[RR,Qtf];exact Qa h
def nmsV (o:Option (List ByteArray)):AV:=match o with
 |none=> .tup [roS [],bv false]
 |some ns=> .tup [roS ns,bv true]
structure RdK (τ:AH) (u:AV) (ks:List Nat):Prop where
 len:lenS u=some (iv (ks.length:Int))
 at_:∀j (h:j<ks.length),∃p,idx 1 u (iv (j:Int)) τ=some p∧lod p τ=some (iv (ks[j]:Nat))
theorem RdK.mono {u:AV} {ks:List Nat} (h:RdK τ u ks) (hs:AH.Sub τ τ'):RdK τ' u ks:=⟨h.len,fun j hj=>by
 obtain ⟨p,h1,h2⟩:=h.at_ j hj
 exact ⟨p,Qmt hs h1,Jv hs h2⟩⟩
theorem RdK.ro {ks:List Nat}:RdK τ (roK ks) ks:=⟨lenK,fun j hj=>⟨_,Q1 hj,by rw[Qv];simp[List.getD,hj]⟩⟩
theorem RdK.buf {u:AV} {ks:List Nat} (h:Buf τ 1 u (innK ks)):RdK τ u ks:=by
 have hb:=h.bfj;refine ⟨by have:=hb.len;rwa [List.length_map] at this,fun j hj=>?_⟩;obtain ⟨φt,st,t1,t2⟩:=hb.at (i:=j) (by simpa using hj);exact ⟨_,t1,t2 0 (iv (ks[j]:Nat)) (by rw[List.getElem_map];rfl)⟩
theorem U4 {ks:List Nat} {u0:AV} (hu0:RdK τ u0 ks) (e0:lod (.ptr φm 0 0 0) τ=some (roD ds)) (hks:∀k,k∈ks→k<ds.length) (hl:ks.length≤1000) (h:R (.ret (nmsV (JY ds ks []))) τ):acall TP Qbq [.ptr φm 0 0 0,u0] τ R:=by
 refine Qfb ?_;unfold x247;dsimp only[den,dE,di,tupL,lTup,den2,den3,den4,List.map,den0,den1];refine bsl0 ?_;simp only[hu0.len,RR];refine QF (fun n y τ1=>∃(j:Nat) (u:AV) (ns:List ByteArray),y=(.ptr φm 0 0 0,u,u0,iv (ks.length:Int),iv (j:Int),())∧Buf τ1 1 u (ns.map fun s=>[str s])∧AH.Sub τ τ1∧(∀ψ,ψ∈famL u→τ ψ=none)∧ks.length - j=n∧j≤ks.length∧ns.length=j∧JY ds (ks.drop j) ns=JY ds ks []) ks.length
  ⟨0,.emp,[],rfl,U2,.refl _,(fun ψ c=>by cases c),by omega,by omega,rfl,rfl⟩ ?_
 rintro n y τ1 ⟨j,u,ns,rfl,hB,hs,hf,rfl,hj,hnl,e⟩ R' hR';by_cases c:j<ks.length
 ·have g:(j:Int)<(ks.length:Int):=by omega
  have ej:ks[j]=ks.getD j 0:=by simp[List.getD,c]
  have hk:=hks _ (QD c);rw[List.drop_eq_getElem_cons c,JY,ej] at e;obtain ⟨q,q1,q2⟩:=(hu0.mono hs).at_ j c
  rw[ej] at q2;generalize ks.getD j 0=x at e hk ej q2;have e1:=Jv hs e0;have l0:∀τ,lod (.rop (Qc (dat ds x)) 0) τ=some (iv (dat ds x).kind):=fun _=>rfl
  have l3:∀τ,lod (.rop (Qc (dat ds x)) 3) τ=some (str (dat ds x).name):=fun _=>rfl
  simp only[g,q1,q2,e1,Qq hk Ql,QZ hk,Qu (Ql _),RR];intro φ hφ;refine QH (es:=[[iv 0,iv 0,iv 0,str ⟨#[]⟩]]) (cs:=Qc (dat ds x)) (AH.set_same ..) (by simp) rfl rfl rfl (Q2 _) ?_;simp only[List.set_cons_zero,AH.set_set];refine J3 (P:=fun z τ2=>τ2=τ1∧z=(.ptr φm 0 0 0,u,.rop (Qc (dat ds x)) 0,u0,iv (ks.length:Int),iv (j:Int),bv (badP ds x ns),())) ?_ ?_
  ·rintro z τ2 ⟨rfl,rfl⟩;cases hb:badP ds x ns with
   |true=>
    rw[if_pos hb] at e;rw[←e] at h;simp only[RR];refine QW (a':=nmsV none) hs (.tup rfl fun j hj=>?_) h;match j,hj with
    |0,_=>exact .nil
    |1,_=>exact .same _
   |false=>
    rw[if_neg (by rw[hb];decide)] at e;simp only[l3,RR];refine US (row:=[str (dat ds x).name]) hB aft1 (by omega) rfl QiN (by simp;omega) fun u' τ3 hB' hK hfam=>?_
    simp only[Qh c (by omega),RR];exact hR' _ _ (ks.length - (j+1)) τ3 (by omega) (.refl _) ⟨j+1,u',ns++[(dat ds x).name],rfl,by simpa using hB',hK.sub hs hf,(fun ψ hψ=>(hfam ψ hψ).elim (hf ψ) fun d=>hs.none d),rfl,c,by simp;omega,e⟩
  ·intro k hk';refine QK hφ rfl ?_;by_cases c3:(dat ds x).kind=3
   ·simp only[l0,l3,c3,RR];refine QbR ?_;cases ck:kwB (dat ds x).name with
    |true=>
     simp only[RR];exact hk' _ _ ⟨rfl,by simp[badP,ck];rfl⟩
    |false=>
     simp only[RR];refine Qk3 (RdN.buf hB) (by omega) ?_;simp only[RR];exact hk' _ _ ⟨rfl,by simp[badP,ck,c3];rfl⟩
   ·simp only[l0,c3,RR];exact hk' _ _ ⟨rfl,by simp[badP,c3];rfl⟩
 ·have g:¬(j:Int)<(ks.length:Int):=by omega
  obtain rfl:j=ks.length:=by omega
  rw[List.drop_length,JY] at e;rw[←e] at h;simp only[g,RR];refine QW (a':=nmsV (some ns)) hs (.tup rfl fun j hj=>?_) h;match j,hj with
  |0,_=>exact Uq hB hf rfl (by intro c hc;obtain ⟨o,_,rfl⟩:=List.mem_map.1 hc;rfl) fun _ _ _ _=> .same _
  |1,_=>exact .same _
abbrev roSc (sc:Sco):AV:= .ro (sc.reverse.map fun ns=>[roS ns])
theorem QBJ {sc:Sco} {j:Nat} (h:j<sc.length):idx 1 (roSc sc) (iv ((sc.length - 1 - j:Nat):Int)) τ=some (.rop [roS sc[j]] 0):=by
 have hl:sc.length - 1 - j<sc.reverse.length:=by simp;omega
 have:=Qq (σ:=τ) (enc:=fun ns:List ByteArray=>[roS ns]) hl (sz:=1) fun _=>rfl
 rw[this,List.getElem_reverse];have e:sc.length - 1 - (sc.length - 1 - j)=j:=by omega
 simp only[e]
theorem Qt4 (s:ByteArray) (sc:Sco) (j:Nat) (h:j<sc.length):JA (sc.drop j) s=match posL sc[j] s with
  |some b=>some (0,b)
  |none=>(JA (sc.drop (j+1)) s).map fun p=>(p.1+1,p.2):=by
 rw[List.drop_eq_getElem_cons h,JA];cases posL sc[j] s<;>rfl
theorem Qmm {sc:Sco} {s:ByteArray} (hl:sc.length≤1000) (hsm:∀ns,ns∈sc→ns.length≤1000) (h:R (.ret (fndV (JA sc s))) σ):acall TP Qj4 [roSc sc,str s] σ R:=by
 refine Qpm ?_;unfold x225;dsimp only[den,dE,di,tupL,lTup,den2,den3,den4,List.map,den0,den1];have hlen:lenS (roSc sc)=some (iv (sc.length:Int)):=by rw[QA];simp
 simp only[hlen,RR];refine QF (fun n x τ=>τ=σ∧∃j:Nat,x=(roSc sc,str s,iv (sc.length:Int),iv (j:Int),())∧sc.length - j=n∧j≤sc.length∧shF j (JA (sc.drop j) s)=JA sc s) sc.length ⟨rfl,0,rfl,by omega,by omega,by simp only[List.drop_zero];cases JA sc s<;>rfl⟩ ?_;rintro n x τ ⟨rfl,j,rfl,rfl,hj,e⟩ R' hR';by_cases c:j<sc.length
 ·have g:(j:Int)<(sc.length:Int):=by omega
  rw[Qt4 s sc j c] at e;have s1:ibin .sub (iv (sc.length:Int)) (iv 1)=some (iv ((sc.length:Int) - 1)):=QU (by omega) (by omega);have s2:ibin .sub (iv ((sc.length:Int) - 1)) (iv (j:Int))=some (iv ((sc.length - 1 - j:Nat):Int)):=by rw[QU (by omega) (by omega)];congr 3;omega
  simp only[g,hlen,s1,s2,QBJ c,Qv,RR];refine Qdx (Nat.le_trans (hsm _ (List.getElem_mem c)) (by omega)) ?_;have ip:=Qxb s sc[j] 0;cases hp:posL sc[j] s with
  |some b=>
   rw[hp] at e ip;simp only[shF,Option.map_some,Nat.zero_add] at e;rw[←e] at h;dsimp only[Nat.add_zero] at ip;rw[ip];have g0:(0:Int)≤(b:Int):=Int.natCast_nonneg b;simp only[g0,RR];exact Qa h
  |none=>
   rw[hp] at e ip;dsimp only at e ip;rw[ip];have g0:¬(0:Int)≤ -1:=by omega
   simp only[g0,Qh c (by omega),RR];refine hR' _ _ (sc.length - (j+1)) τ (by omega) (.refl _) ⟨rfl,j+1,rfl,rfl,c,?_⟩;rw[←e];unfold shF;rw[Option.map_map]
   congr 1
   funext p
   show (p.1+(j+1),p.2)=(p.1+1+j,p.2)
   congr 1;omega
 ·have g:¬(j:Int)<(sc.length:Int):=by omega
  obtain rfl:j=sc.length:=by omega
  rw[List.drop_length] at e;simp only[JA,shF,Option.map_none] at e;rw[←e] at h;simp only[g,RR];exact Qa h
theorem Qxd:isSl TT QAD=true:=by kernel_rfl
theorem Qk4 {sc:Sco} {ns:List ByteArray} (hl:sc.length≤1000) (h:R (.ret (roSc (ns::sc))) σ):acall TP Qi5 [roSc sc,roS ns] σ R:=by
 refine Qoe ?_;unfold x248;dsimp only[den,dE,di,List.map,den0,den1];have rest:∀u τ,Buf τ 1 u (sc.reverse.map fun ns=>[roS ns])→AH.Sub σ τ→(∀ψ,ψ∈famL u→σ ψ=none)→bsl 1 [nilS] 1 [(0,roS ns)] τ fun v8 τ=>E.app 1 u v8 τ fun v9 τ=>aret v9 τ R:=fun u τ hB hs hf=>by
  refine US (row:=[roS ns]) hB rfl (by omega) rfl (fun y hy=>by obtain rfl:=List.mem_singleton.1 hy;rfl) (by simp;omega) fun u' τ' hB' hK hfam=>?_
  refine QW (hK.sub hs hf) (Uq hB' (fun ψ hψ=>(hfam ψ hψ).elim (hf ψ) fun d=>hs.none d) rfl (by intro c hc;rcases List.mem_append.1 hc with hc|hc;(obtain ⟨o,_,rfl⟩:=List.mem_map.1 hc;rfl);(obtain rfl:=List.mem_singleton.1 hc;rfl)) fun _ _ _ _=> .same _) ?_;have e:(sc.reverse.map fun ns=>[roS ns])++[[roS ns]]=((ns::sc).reverse.map fun ns=>[roS ns]):=by simp
  rw[e];exact h
 refine QhX ?_;unfold x254;dsimp only[den,dE,di,List.map,den0,den1];refine QuV Qxd fun b hb=>?_
 cases b with
 |true=>
  have e:sc=[]:=by
   refine Classical.byContradiction fun c=>?_
   have:=hb (by simpa using c);cases this
  subst e;simp only[RR];refine Qa ?_;simp only[RR];exact rest _ σ (.inl ⟨.inl rfl,rfl⟩) (.refl σ) fun ψ c=>by cases c
 |false=>
  simp only[RR];refine bsl0 ?_;refine Ui (es:=[]) (.inl ⟨.inr rfl,rfl⟩) (xs:=sc.reverse.map fun ns=>[roS ns]) rfl (by intro c hc;obtain ⟨x,_,rfl⟩:=List.mem_map.1 hc;rfl) (by intro c hc y hy;obtain ⟨x,_,rfl⟩:=List.mem_map.1 hc;obtain rfl:=List.mem_singleton.1 hy;rfl) (by simp;omega) fun a τ' h1 h2 h3=>?_
  refine Qa ?_;simp only[RR];exact rest a τ' (by simpa using h1) (h2.sub (.refl σ) fun ψ c=>by cases c) fun ψ hψ=>(h3 ψ hψ).elim (fun c=>by cases c) id
def fdQ (ds:List Dat) (C:List Cor):List Fd:=[.fix (roD ds),.lst 6 (C.map Qs)]
theorem QR {c:Cor} (h:MSt σ τ φm (fdQ ds C)) (hn:C.length≤1000) (h1:∀τ',MSt σ τ' φm (fdQ ds (C++[c]))→R (.ret (iv (C.length:Int))) τ'):acall TP Uv [.ptr φm 0 0 0,.agg (Qs c)] τ R:=by
 refine QgM ?_;unfold x222;dsimp only[den,dE,di,dwat,Qf,List.map,den0,den1];refine Qan rfl ?_;obtain ⟨v,e1,b1⟩:=h.lst (i:=1) rfl;simp only[e1,Qu (UJ _),RR];rw[lit1 (sz:=6) (row:=Qs c) rfl rfl (by omega)];simp only[RR];refine h.app (i:=1) rfl e1 (row:=Qs c) rfl rfl (Qea _) (by simp;omega) fun v' τ1 k1=>?_
 simp only[RR,true_and];refine k1 _ fun τ2 S2=>?_
 have ef:(fdQ ds C).set 1 (.lst 6 (C.map Qs++[Qs c]))=fdQ ds (C++[c]):=by simp[fdQ]
 rw[ef] at S2;obtain ⟨v2,e2,b2⟩:=S2.lst (i:=1) rfl;have l2:=Jt b2;have hl:(C++[c]).length=C.length+1:=by simp
 have es:ibin .sub (iv (((C++[c]).length:Nat):Int)) (iv 1)=some (iv (C.length:Int)):=by
  rw[Uy (by omega) (by omega),hl];rfl
 simp only[e2,l2,es,RR,true_and];exact Qa (h1 τ2 S2)
end
end
section
set_option maxRecDepth 100000
variable [L:Lam] {σ σ1 τ τ':AH} {R:AEnd→AH→Prop}
theorem MSt.base {φm:Nat} {fd:List Fd} {τ1:AH} (h:MSt σ τ φm fd) (hs:AH.Sub τ τ1):∃σ1,MSt σ1 τ1 φm fd∧AH.Sub σ σ1∧∀ψ,τ ψ=none→σ1 ψ=τ1 ψ:=by
 classical
 refine ⟨fun ψ=>if τ ψ=none then τ1 ψ else σ ψ,h.keep (fun ψ hn hc=>?_) (fun hn=>?_) fun ψ F hF=>?_,fun ψ F hF=>?_,fun ψ hψ=>by simp[hψ]⟩
 ·have hk:τ1 ψ=τ ψ:=by
   cases e:τ ψ with
   |none=>exact absurd e hn
   |some F=>exact hs _ _ e
  refine ⟨?_,hk⟩;show (if τ ψ=none then τ1 ψ else σ ψ)=none;rw[if_neg hn];rcases hc with rfl|hc
  ·exact h.fr
  ·exact hc
 ·have hk:τ1 φm=τ φm:=by
   cases e:τ φm with
   |none=>exact absurd e hn
   |some F=>exact hs _ _ e
  refine ⟨?_,hk⟩;show (if τ φm=none then τ1 φm else σ φm)=none;rw[if_neg hn];exact h.fr
 ·have hF:(if τ ψ=none then τ1 ψ else σ ψ)=some F:=hF;split at hF
  ·exact hF
  ·exact hs _ _ (h.sub _ _ hF)
 ·have:τ ψ=some F:=h.sub _ _ hF;show (if τ ψ=none then τ1 ψ else σ ψ)=some F;rw[if_neg (by rw[this];simp)];exact hF
section
variable {ds:List Dat} {φm f:Nat} {C:List Cor}
def EndQ (σ:AH) (φm:Nat) (ds:List Dat) (E:Ex) (R:AEnd→AH→Prop):Prop:=(E.2=0→∀τ',MSt σ τ' φm (fdQ ds E.1)→R (.ret (.tup [])) τ')∧(E.2≠0→R (.pan (flt E.2)) σ)
theorem EndQ.step {E:Ex} {k:AV→AH→Prop} (h:E.2≠0→R (.pan (flt E.2)) σ) (hs:AH.Sub σ σ1) (hk:E.2=0→∀τ',MSt σ1 τ' φm (fdQ ds E.1)→k (.tup []) τ'):EndQ σ1 φm ds E (onr k fun v σ=>apan v σ R):=
 ⟨fun h0 τ' S=>hk h0 τ' S,fun h0=>QcO hs (h h0)⟩
theorem EndQ.tail {E:Ex} (h:EndQ σ φm ds E R) (hs:AH.Sub σ σ1):EndQ σ1 φm ds E (onr (fun _ σ=>aret (.tup []) σ R) fun v σ=>apan v σ R):=
 .step h.2 hs fun h0 τ' S=>Qa (h.1 h0 τ' (S.drop hs))
theorem EndQ.bad {e:Int} {D:List Cor} (h:EndQ σ φm ds (D,e) R) (he:e≠0):R (.pan (flt e)) σ:=h.2 he
theorem EndQ.ok {D:List Cor} (h:EndQ σ φm ds (D,0) R) (S:MSt σ τ φm (fdQ ds D)):R (.ret (.tup [])) τ:=h.1 rfl τ S
theorem QV {b:Bool} {c:Int} {K:AV→AH→Prop} (hs:AH.Sub σ τ) (h:b=true→R (.pan (flt c)) σ) (hk:b=false→K (.tup []) τ):acall TP QaW [bv b,iv c] τ (onr K fun v σ=>apan v σ R):=
 Qam (fun e=>hk e) fun e=>QcO hs (h e)
def ExpQ (ds:List Dat) (f φm:Nat):Prop:=∀(σ:AH) (x:Nat) (p:Int) (sc:Sco) (C:List Cor) (τ:AH) (R:AEnd→AH→Prop),x<ds.length→ds.length≤f+x→((p= -1∧sc=[])∨0≤p)→MSt σ τ φm (fdQ ds C)→(∀ns,ns∈sc→ns.length≤3)→C.length+2*nv ds x≤400→sc.length+nv ds x≤400→
 EndQ σ φm ds (expE ds f x p sc C) R→acall TP Ue [.ptr φm 0 0 0,iv (x:Int),iv p,roSc sc] τ R
theorem Qas (hd:DOk ds) (hE:ExpQ ds f φm) {ks:List Nat} {p:Int} {sc:Sco} (hp:0≤p) (hks:∀k,k∈ks→k<ds.length∧ds.length≤f+k) (h:MSt σ τ φm (fdQ ds C)) (hsc:∀ns,ns∈sc→ns.length≤3) (hC:C.length+2*nvK ds ks≤400) (hn:sc.length+nvK ds ks≤400)
  (h1:EndQ σ φm ds (allE (fun k C'=>expE ds f k p sc C') ks C) R):acall TP Qaa [.ptr φm 0 0 0,iv p,roK ks,roSc sc] τ R:=by
 refine QgN ?_;unfold x227;dsimp only[den,dE,di,tupL,lTup,den2,den3,den4,List.map,den0,den1];have hln:=Qia (ds:=ds) ks;simp only[lenK,RR];refine QF (fun n x τ'=>∃(j:Nat) (C1:List Cor),x=(.ptr φm 0 0 0,iv p,roSc sc,roK ks,iv (ks.length:Int),iv (j:Int),())∧MSt σ τ' φm (fdQ ds C1)∧ks.length - j=n∧j≤ks.length∧C1.length≤C.length+2*nvK ds (ks.take j)∧
  allE (fun k C'=>expE ds f k p sc C') (ks.drop j) C1=allE (fun k C'=>expE ds f k p sc C') ks C) ks.length ⟨0,C,rfl,h,by omega,by omega,by simp,rfl⟩ ?_
 rintro n x τ' ⟨j,C1,rfl,S,rfl,hj,hCl,e⟩ R' hR';by_cases c:j<ks.length
 ·have g:(j:Int)<(ks.length:Int):=by omega
  have hm:=hks _ (QD c);have ev:=Qca (ds:=ds) c;have ej:ks[j]=ks.getD j 0:=by simp[List.getD,c]
  rw[List.drop_eq_getElem_cons c,allE,ej] at e;simp only[g,Q1 c,Qv,RR];have hle:=Qfm hd f (ks.getD j 0) p sc C1 hm.1;refine hE σ _ p sc C1 τ' _ hm.1 hm.2 (.inr hp) S hsc (by omega) (by omega) (.step (fun c2=>?_) (.refl _) fun c2 τ2 S2=>?_)
  ·rw[if_pos (by simpa using c2)] at e;rw[←e] at h1;exact h1.2 c2
  ·rw[if_neg (by simpa using c2)] at e;simp only[Qh c (by omega),RR];have et:nvK ds (ks.take (j+1))=nvK ds (ks.take j)+nv ds (ks.getD j 0):=by
    rw[List.take_succ_eq_append_getElem c,Qh8,ej];simp[nvK]
   exact hR' _ _ (ks.length - (j+1)) τ2 (by omega) (.refl _) ⟨j+1,_,rfl,S2,rfl,c,by omega,e⟩
 ·have g:¬(j:Int)<(ks.length:Int):=by omega
  obtain rfl:j=ks.length:=by omega
  rw[List.drop_length,allE] at e;rw[←e] at h1;simp only[g,RR];exact Qa (h1.ok S)
section
variable {ks:List Nat} {p:Int} {sc:Sco}
theorem Qvk (h:1≤ks.length):lenS (roK (ks.drop 1))=some (iv ((ks.length - 1:Nat):Int)):=by rw[lenK,List.length_drop]
theorem QoJ {j:Nat} (h:j+1<ks.length):idx 1 (roK (ks.drop 1)) (iv (j:Int)) τ=some (.rop [iv ((ks.getD (j+1) 0:Nat):Int)] 0):=by
 have:=Q1 (σ:=τ) (ks:=ks.drop 1) (j:=j) (by rw[List.length_drop];omega);rw[this];simp[List.getD,Nat.add_comm]
theorem Qeq {o:Option (List ByteArray)}:aext (nmsV o) 0=some (roS (o.getD []))∧aext (nmsV o) 1=some (bv o.isSome):=by cases o<;>exact ⟨rfl,rfl⟩
theorem Qnq (h:ks.length=3):nv ds (ks.getD 1 0)+nv ds (ks.getD 2 0)+1≤nvK ds ks:=by
 have o1:=Qca (ds:=ds) (ks:=ks) (j:=1) (by omega);have o3:=Qaq (ds:=ds) (ks:=ks.drop 2) (j:=0) (by rw[List.length_drop];omega);have e2:(ks.drop 2).getD 0 0=ks.getD 2 0:=by simp[List.getD]
 have o4:=Qia (ds:=ds) (ks.take 1);rw[e2] at o3;rw[List.length_take] at o4;simp only[Nat.reduceAdd] at o1;omega
set_option maxHeartbeats 400000 in
theorem QjP (hl:DLs ds) (hd:DOk ds) (hE:ExpQ ds f φm) (h0:1≤ks.length) (hks:∀k,k∈ks→k<ds.length∧ds.length≤f+k) (h:MSt σ τ φm (fdQ ds C)) (hsc:∀ns,ns∈sc→ns.length≤3) (hC:C.length+2*nvK ds ks+2≤400) (hn:sc.length+nvK ds ks≤400)
  (h1:EndQ σ φm ds (letE ds (expE ds f) ks p sc C) R):acall TP Qcs [.ptr φm 0 0 0,roK (ks.drop 1),iv p,roSc sc] τ R:=by
 refine QgO ?_;unfold x249;dsimp only[den,dE,di,tupL,lTup,den2,den3,den4,dwat,Qf,List.map,den0,den1];unfold letE at h1;have hdl:=hd.len;have e0:lod (.ptr φm 0 0 0) τ=some (roD ds):=h.fix rfl;simp only[Qvk h0,RR];by_cases c3:ks.length=3
 case neg=>
  rw[if_pos (.inl c3)] at h1;have g3:¬((ks.length - 1:Nat):Int)=2:=by omega
  simp only[g3,RR];exact QV h.sub (fun _=>h1.bad (by decide)) fun c=>by cases c
 have g3:((ks.length - 1:Nat):Int)=2:=by omega
 have hm1:=hks _ (QD (ks:=ks) (j:=1) (by omega));have hm2:=hks _ (QD (ks:=ks) (j:=2) (by omega));have x1:∀τ,idx 1 (roK (ks.drop 1)) (iv 0) τ=some (.rop [iv ((ks.getD 1 0:Nat):Int)] 0):=fun τ=>QoJ (j:=0) (by omega)
 have x2:∀τ,idx 1 (roK (ks.drop 1)) (iv 1) τ=some (.rop [iv ((ks.getD 2 0:Nat):Int)] 0):=fun τ=>QoJ (j:=1) (by omega)
 have o1:=Qnq (ds:=ds) c3;have he1:=Qgz hd hm1.1;have l0:∀τ y,lod (.rop (Qc (dat ds y)) 0) τ=some (iv (dat ds y).kind):=fun _ _=>rfl
 by_cases c4:(dat ds (ks.getD 1 0)).kind=4
 case neg=>
  rw[if_pos (.inr c4)] at h1;simp only[g3,x1,Qv,e0,Qq hm1.1 Ql,QZ hm1.1,l0,c4,RR];exact QV h.sub (fun _=>h1.bad (by decide)) fun c=>by cases c
 rw[if_neg (by rintro (k|k);exact k c3;exact k c4)] at h1;simp only[g3,x1,Qv,e0,Qq hm1.1 Ql,QZ hm1.1,l0,c4,RR];refine QV h.sub (fun c=>by cases c) fun _=>?_
 simp only[RR,true_and];refine bsl0 (bsl0 ?_);simp only[x1,Qv,e0,RR];refine QaR (by omega) ?_;simp only[lenK,RR,true_and];have hkl:=Qc0 (ds:=ds) (ks.getD 1 0);have hkm:∀k,k∈Qe ds (ks.getD 1 0)→k<ds.length∧ks.getD 1 0<k:=fun k hk=>⟨(hd.kid hk).2,(hd.kid hk).1⟩
 have le:=QAc (ds:=ds) (Qe ds (ks.getD 1 0)) [] [];rw[le] at h1;generalize Qe ds (ks.getD 1 0)=lst at h1 hkl hkm he1 le ⊢;refine QF (fun n x τ'=>∃(j:Nat) (u v:AV),x=(.ptr φm 0 0 0,roK (ks.drop 1),iv p,roSc sc,u,v,roK lst,iv (lst.length:Int),iv (j:Int),())∧AH.Sub τ τ'∧Buf τ' 1 u (innK ((lst.take j).map fun k=>(Qe ds k).getD 0 0))∧(∀ψ,ψ∈famL u→τ ψ=none)∧Buf τ' 1 v (innK ((lst.take j).map fun k=>(Qe ds k).getD 1 0))∧(∀ψ,ψ∈famL v→τ ψ=none)∧(∀ψ,ψ∈famL u→ψ∉famL v)∧
   lst.length - j=n∧j≤lst.length∧∀k,k∈lst.take j→(Qe ds k).length=2) lst.length
  ⟨0,.emp,.emp,rfl,.refl τ,U2,(fun ψ c=>by cases c),U2,(fun ψ c=>by cases c),(fun ψ c=>by cases c),by omega,by omega,fun k hk=>by simp at hk⟩ ?_
 rintro n x τ1 ⟨j,u,v,rfl,hs,hB,hf,hBv,hfv,hdj,rfl,hj,h2⟩ R' hR';have e0':=Jv hs e0;by_cases c:j<lst.length
 ·have g:(j:Int)<(lst.length:Int):=by omega
  have ej:lst[j]=lst.getD j 0:=by simp[List.getD,c]
  have hmem:=QD (ks:=lst) c;have hk:=hkm _ hmem;simp only[g,Q1 c,Qv,e0',RR];refine QaR (by omega) ?_;simp only[e0',Qq hk.1 Ql,QZ hk.1,l0,lenK,List.length_map,RR];by_cases c2:(Qe ds (lst.getD j 0)).length=2
  ·have g2:((Qe ds (lst.getD j 0)).length:Int)=2:=by omega
   have k4:(dat ds (lst.getD j 0)).kind=4:=Qvj hl hd (QD (ks:=Qe ds (lst.getD j 0)) (j:=0) (by omega));have y0:∀τ,idx 1 (roK (Qe ds (lst.getD j 0))) (iv 0) τ=some (.rop [iv (((Qe ds (lst.getD j 0)).getD 0 0:Nat):Int)] 0):=fun τ=>Q1 (j:=0) (by omega)
   have y1:∀τ,idx 1 (roK (Qe ds (lst.getD j 0))) (iv 1) τ=some (.rop [iv (((Qe ds (lst.getD j 0)).getD 1 0:Nat):Int)] 0):=fun τ=>Q1 (j:=1) (by omega)
   simp only[lenK,g2,k4,RR];refine QV (h.sub.trans hs) (fun c=>by cases c) fun _=>?_
   simp only[y0,y1,Qv,litI,RR];have hln:∀(q:Nat→Nat),((lst.take j).map q).length=j:=fun q=>by rw[List.length_map,List.length_take];omega
   refine Ui hB (xs:=[[iv (((Qe ds (lst.getD j 0)).getD 0 0:Nat):Int)]]) rfl (by intro c hc;obtain rfl:=List.mem_singleton.1 hc;rfl) (by intro c hc y hy;obtain rfl:=List.mem_singleton.1 hc;obtain rfl:=List.mem_singleton.1 hy;rfl) (by rw[List.length_map,hln];simp;omega) fun u' τ2 hB2 hK hfam=>?_
   have hBv2:Buf τ2 1 v (innK ((lst.take j).map fun k=>(Qe ds k).getD 1 0)):=hBv.up fun ψ hψ=>by
    obtain ⟨F,hF⟩:=hBv.live hψ;exact hK ψ (fun c=>hdj ψ c hψ) (by rw[hF];simp)
   have hdj2:∀ψ,ψ∈famL u'→ψ∉famL v:=fun ψ a b=>by
    rcases hfam ψ a with q|q
    ·exact hdj ψ q b
    ·obtain ⟨F,hF⟩:=hBv.live b;rw[q] at hF;cases hF
   have hs2:AH.Sub τ τ2:=hK.sub hs hf;have hf2:∀ψ,ψ∈famL u'→τ ψ=none:=fun ψ hψ=>(hfam ψ hψ).elim (hf ψ) fun d=>hs.none d
   simp only[y1,Qv,true_and,and_true];refine Ui hBv2 (xs:=[[iv (((Qe ds (lst.getD j 0)).getD 1 0:Nat):Int)]]) rfl (by intro c hc;obtain rfl:=List.mem_singleton.1 hc;rfl) (by intro c hc y hy;obtain rfl:=List.mem_singleton.1 hc;obtain rfl:=List.mem_singleton.1 hy;rfl) (by rw[List.length_map,hln];simp;omega) fun v' τ3 hB3 hK3 hfam3=>?_
   have hB2':Buf τ3 1 u' (innK ((lst.take j).map fun k=>(Qe ds k).getD 0 0)++[[iv (((Qe ds (lst.getD j 0)).getD 0 0:Nat):Int)]]):=hB2.up fun ψ hψ=>by
    obtain ⟨F,hF⟩:=hB2.live hψ;exact hK3 ψ (hdj2 ψ hψ) (by rw[hF];simp)
   have et:∀q:Nat→Nat,innK ((lst.take (j+1)).map q)=innK ((lst.take j).map q)++[[iv ((q (lst.getD j 0):Nat):Int)]]:=fun q=>by
    rw[List.take_succ_eq_append_getElem c,ej];simp[innK]
   simp only[Qh c (by omega),RR];refine hR' _ _ (lst.length - (j+1)) τ3 (by omega) (.refl _) ⟨j+1,u',v',rfl,hK3.sub hs2 hfv,by rw[et];exact hB2',hf2,by rw[et];exact hB3,(fun ψ hψ=>(hfam3 ψ hψ).elim (hfv ψ) fun d=>hs2.none d),fun ψ a b=>?_,rfl,c,fun k hk=>?_⟩
   ·rcases hfam3 ψ b with q|q
    ·exact hdj2 ψ a q
    ·obtain ⟨F,hF⟩:=hB2.live a;rw[q] at hF;cases hF
   ·rw[List.take_succ_eq_append_getElem c,ej] at hk;rcases List.mem_append.1 hk with hk|hk
    ·exact h2 k hk
    ·obtain rfl:=List.mem_singleton.1 hk;exact c2
  ·have g2:¬((Qe ds (lst.getD j 0)).length:Int)=2:=by omega
   rw[if_neg (fun k=>c2 (k _ hmem))] at h1;by_cases k4:(dat ds (lst.getD j 0)).kind=4
   ·simp only[lenK,g2,k4,RR];exact QV (h.sub.trans hs) (fun _=>h1.bad (by decide)) fun c=>by cases c
   ·simp only[k4,RR];exact QV (h.sub.trans hs) (fun _=>h1.bad (by decide)) fun c=>by cases c
 ·have g:¬(j:Int)<(lst.length:Int):=by omega
  obtain rfl:j=lst.length:=by omega
  rw[List.take_length] at h2 hB hBv;rw[if_pos h2] at h1 le;simp only[g,RR];have hvk:∀k,k∈(lst.map fun k=>(Qe ds k).getD 0 0)→k<ds.length:=fun k hk=>by
   obtain ⟨y,hy,rfl⟩:=List.mem_map.1 hk;exact (hd.kid (QD (ks:=Qe ds y) (j:=0) (by have:=h2 y hy;omega))).2
  refine U4 (RdK.buf hB) e0' hvk (by rw[List.length_map];omega) ?_;simp only[Qeq.1,Qeq.2,RR];cases hN:JY ds (lst.map fun k=>(Qe ds k).getD 0 0) [] with
  |none=>
   rw[hN] at h1;simp only[Option.map_none] at h1;exact QV (h.sub.trans hs) (fun _=>h1.bad (by decide)) fun c=>by cases c
  |some ns=>
   rw[hN] at h1 le;simp only[Option.map_some,List.nil_append] at h1 le;have ll:=QpL hd _ _ _ _ _ (fun k hk=>(hkm k hk).1) le;have e00:nvK ds []=0:=rfl;refine QV (h.sub.trans hs) (fun c=>by cases c) fun _=>?_
   simp only[Option.getD_some,QiL,RR];refine QV (h.sub.trans hs) (fun c5=>?_) fun c5=>?_
   ·have c5:3<ns.length:=by have:decide ((3:Int)<(ns.length:Int))=true:=c5;simp at this;omega
    rw[if_pos c5] at h1;exact h1.bad (by decide)
   have c5:¬3<ns.length:=by have:decide ((3:Int)<(ns.length:Int))=false:=c5;simp at this;omega
   rw[if_neg c5] at h1;obtain ⟨σ1,S1,hs1,hb1⟩:=h.base hs;have hBv1:Buf σ1 1 v (innK (lst.map fun k=>(Qe ds k).getD 1 0)):=hBv.up fun ψ hψ=>hb1 ψ (hfv ψ hψ)
   have hfv1:∀ψ,ψ∈famL v→σ ψ=none:=fun ψ hψ=>h.sub.none (hfv ψ hψ)
   generalize (lst.map fun k=>(Qe ds k).getD 1 0)=vs at h1 ll hBv1;simp only[QgB,RR];refine JW (nodC 9 p 0) rfl rfl ?_;refine QR S1 (by omega) fun τ2 S2=>?_
   simp only[x2,Qv,bldC,QiL,RR];refine JW (nodC 5 (C.length:Int) ns.length) rfl rfl ?_;refine QR S2 (by simp;omega) fun τ3 S3=>?_
   have hl1:(C++[nodC 9 p 0]).length=C.length+1:=by simp
   rw[hl1];simp only[x2,Qv,RR,true_and,and_true];have np1:=Qh9 (ds:=ds) (ks.getD 1 0);refine Qk4 (by omega) ?_;simp only[RR];have hle:=Qfm hd f (ks.getD 2 0) ((C.length+1:Nat):Int) (ns::sc) (C++[nodC 9 p 0]++[nodC 5 (C.length:Int) ns.length]) hm2.1;rw[List.length_append,List.length_append,List.length_singleton,List.length_singleton] at hle;refine hE σ1 _ _ (ns::sc) _ τ3 _ hm2.1 hm2.2 (.inr (by omega)) S3 (fun q hq=>?_) (by rw[List.length_append,List.length_append,List.length_singleton,List.length_singleton];omega) (by rw[List.length_cons];omega) ?_
   ·rcases List.mem_cons.1 hq with rfl|hq
    ·omega
    ·exact hsc q hq
   generalize expE ds f (ks.getD 2 0) ((C.length+1:Nat):Int) (ns::sc) (C++[nodC 9 p 0]++[nodC 5 (C.length:Int) ns.length])=r at h1 hle ⊢;refine .step (fun c6=>?_) hs1 fun c6 τ6 S6=>?_
   ·rw[if_pos (by simpa using c6)] at h1;exact h1.2 c6
   rw[if_neg (by simpa using c6)] at h1;obtain ⟨σ7,τ7,S7,hs7,hst7,hfz7,_⟩:=S6.give (sz2:=1) (b:= .emp) (fs:=[]) hs1 hBv1 hfv1 (by intro c hc;obtain ⟨x,_,rfl⟩:=List.mem_map.1 hc;rfl) U2 (fun ψ _ c=>by cases c);refine JI (args':=[.ptr φm 0 0 0,iv (C.length:Int),roK vs,roSc sc]) hst7 rfl (fun i hi=>?_) ?_
   ·match i,hi with
    |0,_=>exact .same _
    |1,_=>exact .same _
    |2,_=>exact hfz7
    |3,_=>exact .same _
   refine Qas hd hE (Int.natCast_nonneg _) (fun k hk=>?_) (S7.drop hs7) hsc (by omega) (by omega) (h1.tail (.refl _));rcases ll.2 k hk with q|⟨q,w,q2,q3⟩
   ·cases q
   ·have:=hkm w q2;exact ⟨q,by omega⟩
end
end
end
section
set_option maxRecDepth 100000
variable [L:Lam] {σ σ1 τ τ':AH} {R:AEnd→AH→Prop}
theorem QAd {w:ByteArray} (h:kwB w=true) (c1:¬w=⟨#[113,117,111,116,101]⟩) (c2:¬w=⟨#[105,102]⟩) (c3:¬w=⟨#[98,101,103,105,110]⟩) (c4:¬w=⟨#[108,97,109,98,100,97]⟩) (c5:¬w=⟨#[108,101,116]⟩):w=⟨#[100,101,102,105,110,101]⟩∨w=⟨#[115,101,116,33]⟩:=by
 unfold kwB inL kws at h;simp only[List.any_cons,List.any_nil,Bool.or_eq_true,decide_eq_true_iff,Bool.or_false] at h;rcases h with h|h|h|h|h|h|h
 ·exact absurd h c1
 ·exact absurd h c2
 ·exact absurd h c4
 ·exact absurd h c5
 ·exact absurd h c3
 ·exact .inl h
 ·exact .inr h
section
variable {ds:List Dat} {φm f:Nat} {C:List Cor} {ks:List Nat} {p:Int} {sc:Sco}
theorem QAe (h:2≤ks.length):slc 1 (roK (ks.drop 1)) none (some (iv 1)) none τ=some (roK [ks.getD 1 0]):=by
 have hl:(ks.drop 1).length=ks.length - 1:=List.length_drop ..;have e1:abd none 0=some 0:=rfl;have e2:abd (some (iv 1)) ((ks.drop 1).map fun k:Nat=>[iv (k:Int)]).length=some 1:=rfl;have e3:abd none ((ks.drop 1).map fun k:Nat=>[iv (k:Int)]).length=some ((ks.drop 1).map fun k:Nat=>[iv (k:Int)]).length:=rfl;simp only[slc,e1,e2,e3];rw[if_pos ⟨by omega,by simp;omega,by simp,by simp,by rw[List.all_eq_true];intro c hc;obtain ⟨x,_,rfl⟩:=List.mem_map.1 hc;rfl⟩];match ks,h with
 |a::b::r,_=>rfl
theorem Qvl {k:Nat}:JY ds [k] []=if badP ds k [] then none else some [(dat ds k).name]:=by
 rw[JY];split
 ·rfl
 ·rfl
set_option maxHeartbeats 1000000 in
theorem Qfw (hl:DLs ds) (hd:DOk ds) (hE:ExpQ ds f φm) {w:ByteArray} (hw:kwB w=true) (hp:(p= -1∧sc=[])∨0≤p) (h0:1≤ks.length) (hks:∀k,k∈ks→k<ds.length∧ds.length≤f+k) (h:MSt σ τ φm (fdQ ds C)) (hsc:∀ns,ns∈sc→ns.length≤3) (hC:C.length+2*nvK ds ks+2≤400) (hn:sc.length+nvK ds ks≤400)
   (h1:EndQ σ φm ds (Qa2 ds (expE ds f) w ks p sc C) R):acall TP QaI [.ptr φm 0 0 0,str w,roK (ks.drop 1),iv p,roSc sc] τ R:=by
 refine QdH ?_;unfold x226;dsimp only[den,dE,di,tupL,lTup,den2,den3,den4,dwat,Qf,List.map,den0,den1,Option.map];unfold Qa2 at h1;have hdl:=hd.len;have hnl:=Qia (ds:=ds) ks;have e0:lod (.ptr φm 0 0 0) τ=some (roD ds):=h.fix rfl;have hdr:=Qnn (ds:=ds) ks 1;have l0:∀τ y,lod (.rop (Qc (dat ds y)) 0) τ=some (iv (dat ds y).kind):=fun _ _=>rfl
 simp only[Qvk h0,Jy,RR];have x1:2≤ks.length→∀τ,idx 1 (roK (ks.drop 1)) (iv 0) τ=some (.rop [iv ((ks.getD 1 0:Nat):Int)] 0):=fun h τ=>QoJ (j:=0) (by omega)
 have x2:3≤ks.length→∀τ,idx 1 (roK (ks.drop 1)) (iv 1) τ=some (.rop [iv ((ks.getD 2 0:Nat):Int)] 0):=fun h τ=>QoJ (j:=1) (by omega)
 by_cases c1:w=⟨#[113,117,111,116,101]⟩
 · rw[if_pos c1] at h1
   simp only[c1,RR];by_cases c:ks.length=2
   · rw[if_neg (by simpa using c)] at h1
     have g:((ks.length - 1:Nat):Int)=1:=by omega
     have hm1:=hks _ (QD (ks:=ks) (j:=1) (by omega));simp only[g,RR];refine QV h.sub (fun c=>by cases c) fun _=>?_
     simp only[e0,x1 (by omega),Qv,RR];refine QoH hl hd hm1.1 ?_;simp only[Qq4,RR,true_and];refine QR h (by omega) fun τ1 S1=>?_
     simp only[RR,true_and];exact Qa (h1.ok S1)
   · rw[if_pos (by simpa using c)] at h1
     have g:¬((ks.length - 1:Nat):Int)=1:=by omega
     simp only[g,RR];exact QV h.sub (fun _=>h1.bad (by decide)) fun c=>by cases c
 rw[if_neg c1] at h1;have go:∀k,EndQ σ φm ds (allE (fun k C'=>expE ds f k (C.length:Int) sc C') (ks.drop 1) (C++[nodC k p 0])) R→acall TP Uv [.ptr φm 0 0 0,.agg [iv k,iv p,iv 0,iv 0,str ⟨#[]⟩,nilS]] τ (onr (fun v40 σ=>
       acall TP Qaa [.ptr φm 0 0 0,v40,roK (ks.drop 1),roSc sc] σ (onr (fun v42 σ=>
       aret (.tup []) σ R) (fun v σ=>apan v σ R))) (fun v σ=>apan v σ R)):=fun k h1=>by
   refine JW (nodC k p 0) rfl rfl ?_;refine QR h (by omega) fun τ1 S1=>?_
   simp only[RR];exact Qas hd hE (Int.natCast_nonneg _) (fun k hk=>hks k (List.mem_of_mem_drop hk)) S1 hsc (by rw[List.length_append,List.length_singleton];omega) (by omega) (h1.tail (.refl _))
 by_cases c2:w=⟨#[105,102]⟩
 · rw[if_pos c2] at h1
   have d1:¬(⟨#[105,102]⟩:ByteArray)=⟨#[113,117,111,116,101]⟩:=by rw[←c2];exact c1
   simp only[c2,d1,RR];by_cases c:ks.length=4
   · rw[if_neg (by simpa using c)] at h1
     have g:((ks.length - 1:Nat):Int)=3:=by omega
     simp only[g,RR];refine QV h.sub (fun c=>by cases c) fun _=>?_
     have hh:=go 4 h1;simp only[QgB,RR];exact hh
   · rw[if_pos (by simpa using c)] at h1
     have g:¬((ks.length - 1:Nat):Int)=3:=by omega
     simp only[g,RR];exact QV h.sub (fun _=>h1.bad (by decide)) fun c=>by cases c
 rw[if_neg c2] at h1;by_cases c3:w=⟨#[98,101,103,105,110]⟩
 · rw[if_pos c3] at h1
   have d1:¬(⟨#[98,101,103,105,110]⟩:ByteArray)=⟨#[113,117,111,116,101]⟩:=by rw[←c3];exact c1
   have d2:¬(⟨#[98,101,103,105,110]⟩:ByteArray)=⟨#[105,102]⟩:=by rw[←c3];exact c2
   simp only[c3,d1,d2,RR];by_cases c:ks.length<2
   · rw[if_pos c] at h1
     have g:((ks.length - 1:Nat):Int)=0:=by omega
     simp only[g,RR];exact QV h.sub (fun _=>h1.bad (by decide)) fun c=>by cases c
   · rw[if_neg c] at h1
     have g:¬((ks.length - 1:Nat):Int)=0:=by omega
     simp only[g,RR];refine QV h.sub (fun c=>by cases c) fun _=>?_
     have hh:=go 6 h1;simp only[QgB,RR];exact hh
 rw[if_neg c3] at h1;by_cases c4:w=⟨#[108,97,109,98,100,97]⟩
 · rw[if_pos c4] at h1
   have d1:¬(⟨#[108,97,109,98,100,97]⟩:ByteArray)=⟨#[113,117,111,116,101]⟩:=by rw[←c4];exact c1
   have d2:¬(⟨#[108,97,109,98,100,97]⟩:ByteArray)=⟨#[105,102]⟩:=by rw[←c4];exact c2
   have d3:¬(⟨#[108,97,109,98,100,97]⟩:ByteArray)=⟨#[98,101,103,105,110]⟩:=by rw[←c4];exact c3
   simp only[c4,d1,d2,d3,RR];unfold lamE at h1;by_cases k3:ks.length=3
   case neg=>
     rw[if_pos (.inl k3)] at h1;have g3:¬((ks.length - 1:Nat):Int)=2:=by omega
     simp only[g3,RR];exact QV h.sub (fun _=>h1.bad (by decide)) fun c=>by cases c
   have g3:((ks.length - 1:Nat):Int)=2:=by omega
   have hm1:=hks _ (QD (ks:=ks) (j:=1) (by omega));have hm2:=hks _ (QD (ks:=ks) (j:=2) (by omega));have o1:=Qnq (ds:=ds) k3;have np1:=Qh9 (ds:=ds) (ks.getD 1 0);by_cases k4:(dat ds (ks.getD 1 0)).kind=4
   case neg=>
     rw[if_pos (.inr k4)] at h1;simp only[g3,x1 (by omega),Qv,e0,Qq hm1.1 Ql,QZ hm1.1,l0,k4,RR];exact QV h.sub (fun _=>h1.bad (by decide)) fun c=>by cases c
   rw[if_neg (by rintro (k|k);exact k k3;exact k k4)] at h1;simp only[g3,x1 (by omega),Qv,e0,Qq hm1.1 Ql,QZ hm1.1,l0,k4,RR];refine QV h.sub (fun c=>by cases c) fun _=>?_
   simp only[x1 (by omega),Qv,e0,RR,true_and];refine QaR (by omega) ?_;simp only[RR,true_and];have hkl:=Qc0 (ds:=ds) (ks.getD 1 0);refine U4 RdK.ro e0 (fun k hk=>(hd.kid hk).2) (by omega) ?_;simp only[Qeq.1,Qeq.2,RR,true_and];cases hN:JY ds (Qe ds (ks.getD 1 0)) [] with
   |none=>
     rw[hN] at h1;exact QV h.sub (fun _=>h1.bad (by decide)) fun c=>by cases c
   |some ns=>
     rw[hN] at h1;dsimp only at h1;refine QV h.sub (fun c=>by cases c) fun _=>?_
     simp only[Option.getD_some,QiL,RR];refine QV h.sub (fun c5=>?_) fun c5=>?_
     · have c5:3<ns.length:=by have:decide ((3:Int)<(ns.length:Int))=true:=c5;simp at this;omega
       rw[if_pos c5] at h1;exact h1.bad (by decide)
     have c5:¬3<ns.length:=by have:decide ((3:Int)<(ns.length:Int))=false:=c5;simp at this;omega
     rw[if_neg c5] at h1;simp only[x2 (by omega),Qv,bldC,QiL,RR];refine JW (nodC 5 p ns.length) rfl rfl ?_;refine QR h (by omega) fun τ3 S3=>?_
     simp only[x2 (by omega),Qv,RR,true_and,and_true];refine Qk4 (by omega) ?_;simp only[RR];refine hE σ _ _ (ns::sc) _ τ3 _ hm2.1 hm2.2 (.inr (Int.natCast_nonneg _)) S3 (fun q hq=>?_) (by rw[List.length_append,List.length_singleton];omega) (by rw[List.length_cons];omega) (h1.tail (.refl _));rcases List.mem_cons.1 hq with rfl|hq
     · omega
     · exact hsc q hq
 rw[if_neg c4] at h1;by_cases c5:w=⟨#[108,101,116]⟩
 · rw[if_pos c5] at h1
   have d1:¬(⟨#[108,101,116]⟩:ByteArray)=⟨#[113,117,111,116,101]⟩:=by rw[←c5];exact c1
   have d2:¬(⟨#[108,101,116]⟩:ByteArray)=⟨#[105,102]⟩:=by rw[←c5];exact c2
   have d3:¬(⟨#[108,101,116]⟩:ByteArray)=⟨#[98,101,103,105,110]⟩:=by rw[←c5];exact c3
   have d4:¬(⟨#[108,101,116]⟩:ByteArray)=⟨#[108,97,109,98,100,97]⟩:=by rw[←c5];exact c4
   simp only[c5,d1,d2,d3,d4,RR];exact QjP hl hd hE h0 hks h hsc hC hn (h1.tail (.refl _))
 rw[if_neg c5] at h1;have hw2:=QAd hw c1 c2 c3 c4 c5;simp only[c1,c2,c3,c4,c5,RR];by_cases k3:ks.length=3
 case neg=>
   have h1:R (.pan (flt 1)) σ:=by
     rcases hw2 with k|k
     · rw[if_pos k] at h1;unfold asgE at h1;rw[if_pos (.inl k3)] at h1;exact h1.bad (by decide)
     · rw[if_neg (by rw[k];decide)] at h1;unfold asgE at h1;rw[if_pos (.inl k3)] at h1;exact h1.bad (by decide)
   have g3:¬((ks.length - 1:Nat):Int)=2:=by omega
   simp only[g3,RR];exact QV h.sub (fun _=>h1) fun c=>by cases c
 have g3:((ks.length - 1:Nat):Int)=2:=by omega
 have hm1:=hks _ (QD (ks:=ks) (j:=1) (by omega));have hm2:=hks _ (QD (ks:=ks) (j:=2) (by omega));have o1:=Qnq (ds:=ds) k3;have np1:=Qh9 (ds:=ds) (ks.getD 1 0);simp only[g3,RR];refine QV h.sub (fun c=>by cases c) fun _=>?_
 simp only[QAe (show 2≤ks.length by omega),RR];refine U4 (ks:=[ks.getD 1 0]) RdK.ro e0 (fun k hk=>by obtain rfl:=List.mem_singleton.1 hk;exact hm1.1) (by simp) ?_;rw[Qvl];simp only[Qeq.1,Qeq.2,RR];cases hb:badP ds (ks.getD 1 0) [] with
 |true=>
   have h1:R (.pan (flt 1)) σ:=by
     rcases hw2 with k|k
     · rw[if_pos k] at h1;unfold asgE at h1;rw[if_pos hb] at h1;split at h1<;>exact h1.bad (by decide)
     · rw[if_neg (by rw[k];decide)] at h1;unfold asgE at h1;rw[if_pos hb] at h1;split at h1<;>exact h1.bad (by decide)
   simp only[if_true,Option.isSome_none,RR];exact QV h.sub (fun _=>h1) fun c=>by cases c
 |false=>
   simp only[Bool.false_eq_true,if_false,Option.isSome_some,Option.getD_some,Jy,RR];have rest:∀(kind:Int),EndQ σ φm ds (expE ds f (ks.getD 2 0) (C.length:Int) sc (C++[nmdC kind p (dat ds (ks.getD 1 0)).name])) R→
       acall TP Uv [.ptr φm 0 0 0,.agg [iv kind,iv p,iv 0,iv 0,str (dat ds (ks.getD 1 0)).name,nilS]] τ (onr (fun v67 σ=>
               acall TP Ue [.ptr φm 0 0 0,iv ((ks.getD 2 0:Nat):Int),v67,roSc sc] σ (onr (fun v69 σ=>
               aret (.tup []) σ R) (fun v σ=>apan v σ R))) (fun v σ=>apan v σ R)):=fun kind h1=>by
     refine JW (nmdC kind p (dat ds (ks.getD 1 0)).name) rfl rfl ?_;refine QR h (by omega) fun τ3 S3=>?_
     simp only[RR];exact hE σ _ _ sc _ τ3 _ hm2.1 hm2.2 (.inr (Int.natCast_nonneg _)) S3 hsc (by rw[List.length_append,List.length_singleton];omega) (by omega) (h1.tail (.refl _))
   have xs:∀τ,idx 1 (roS [(dat ds (ks.getD 1 0)).name]) (iv 0) τ=some (.rop [str (dat ds (ks.getD 1 0)).name] 0):=fun τ=>Qq3 (j:=0) (l:=[(dat ds (ks.getD 1 0)).name]) (by simp)
   rcases hw2 with k|k
   · rw[if_pos k] at h1
     have d1:¬(⟨#[100,101,102,105,110,101]⟩:ByteArray)=⟨#[115,101,116,33]⟩:=by decide
     unfold asgE at h1;rcases hp with ⟨hp1,hp2⟩|hp
     · subst hp1 hp2
       rw[if_neg (by rintro (q|⟨_,q⟩);exact q k3;exact q rfl),if_neg (by rw[hb];decide)] at h1;simp only[JA,Option.isSome_none,Bool.false_eq_true,if_false] at h1;have g0:¬(0:Int)≤ -1:=by omega
       simp only[k,g0,RR];refine QV h.sub (fun c=>by cases c) fun _=>?_
       simp only[jn,d1,x2 (by omega),xs,Qv,QoC,RR,true_and,and_true];exact rest 8 h1
     · rw[if_pos (.inr ⟨rfl,by omega⟩)] at h1
       simp only[k,hp,RR];exact QV h.sub (fun _=>h1.bad (by decide)) fun c=>by cases c
   · rw[if_neg (by rw[k];decide)] at h1
     have d1:¬(⟨#[115,101,116,33]⟩:ByteArray)=⟨#[100,101,102,105,110,101]⟩:=by decide
     unfold asgE at h1;rw[if_neg (by rintro (q|⟨q,_⟩);exact q k3;cases q),if_neg (by rw[hb];decide)] at h1;simp only[k,d1,RR];refine QV h.sub (fun c=>by cases c) fun _=>?_
     simp only[jn,xs,Qv,RR];refine Qmm (by omega) (fun ns hns=>by have:=hsc ns hns;omega) ?_;cases hf:JA sc (dat ds (ks.getD 1 0)).name with
     |some q=>
       rw[hf] at h1;simp only[Option.isSome_some,if_true] at h1;have a0:aext (fndV (some q)) 0=some (iv (q.1:Int)):=rfl;have a1:aext (fndV (some q)) 1=some (iv (q.2:Int)):=rfl;have a2:aext (fndV (some q)) 2=some (bv true):=rfl;simp only[a0,a1,a2,RR];exact QV h.sub (fun _=>h1.bad (by decide)) fun c=>by cases c
     |none=>
       rw[hf] at h1;simp only[Option.isSome_none,Bool.false_eq_true,if_false] at h1;have a0:aext (fndV none) 0=some (iv 0):=rfl;have a1:aext (fndV none) 1=some (iv 0):=rfl;have a2:aext (fndV none) 2=some (bv false):=rfl;simp only[a0,a1,a2,RR];refine QV h.sub (fun c=>by cases c) fun _=>?_
       simp only[x2 (by omega),xs,Qv,QoC,RR,true_and,and_true];exact rest 7 h1
end
end
section
set_option maxRecDepth 100000
variable [L:Lam] {σ σ1 τ τ':AH} {R:AEnd→AH→Prop}
section
variable {ds:List Dat} {φm f:Nat}
set_option maxHeartbeats 1000000 in
theorem Qxe (hl:DLs ds) (hd:DOk ds):∀f,ExpQ ds f φm:=by
 intro f
 induction f with
 |zero=>intro σ x p sc C τ R hx hf;omega
 |succ f ih=>
  intro σ x p sc C τ R hx hfx hp h hsc hC hn h1;have hdl:=hd.len;have hkd:=hd.kind x hx;have hnv:=Qgz hd hx;have hks:∀k,k∈Qe ds x→k<ds.length∧ds.length≤f+k:=fun k hk=>by have:=hd.kid hk;omega
  have e0:∀{τ C},MSt σ τ φm (fdQ ds C)→lod (.ptr φm 0 0 0) τ=some (roD ds):=fun h=>h.fix rfl
  have l0:∀τ y,lod (.rop (Qc (dat ds y)) 0) τ=some (iv (dat ds y).kind):=fun _ _=>rfl
  have l3:∀τ y,lod (.rop (Qc (dat ds y)) 3) τ=some (str (dat ds y).name):=fun _ _=>rfl
  refine Qfr ?_;unfold x190;dsimp only[den,dE,di,tupL,lTup,den2,den3,den4,dwat,Qf,List.map,den0,den1,Option.map];simp only[e0 h,Qq hx Ql,QZ hx,Qu (Ql _),RR];refine Ji rfl (Ql _) rfl (Q2 _) ?_;simp only[l0,RR];rw[expE] at h1;refine J3 (P:=fun z τ'=>τ'=τ∧z=(.ptr φm 0 0 0,iv (x:Int),iv p,roSc sc,.rop (Qc (dat ds x)) 0,iv (dat ds x).kind,bv (decide ((dat ds x).kind=1)||decide ((dat ds x).kind=2)),())) ?_ ?_
  ·rintro z τ' ⟨rfl,rfl⟩;by_cases c12:(dat ds x).kind=1∨(dat ds x).kind=2
   ·rw[if_pos c12] at h1;have g:(decide ((dat ds x).kind=1)||decide ((dat ds x).kind=2))=true:=by simpa using c12
    simp only[g,e0 h,RR];refine QoH hl hd hx ?_;simp only[Qq4,RR];refine QR h (by omega) fun τ1 S1=>?_
    simp only[RR];exact Qa (h1.ok S1)
   rw[if_neg c12] at h1;have g:(decide ((dat ds x).kind=1)||decide ((dat ds x).kind=2))=false:=by simpa using c12
   by_cases c3:(dat ds x).kind=3
   ·rw[if_pos c3] at h1;have g2:(decide ((3:Int)=1)||decide ((3:Int)=2))=false:=rfl;simp only[c3,g2,l3,RR];refine QbR ?_;simp only[RR];refine QV h.sub (fun hk=>?_) fun hk=>?_
    ·rw[if_pos hk] at h1;exact h1.bad (by decide)
    rw[if_neg (by rw[hk];decide)] at h1;simp only[jn,l3,RR];refine Qmm (by omega) (fun ns hns=>by have:=hsc ns hns;omega) ?_;cases hf:JA sc (dat ds x).name with
    |some q=>
     rw[hf] at h1;dsimp only at h1;have a0:aext (fndV (some q)) 0=some (iv (q.1:Int)):=rfl;have a1:aext (fndV (some q)) 1=some (iv (q.2:Int)):=rfl;have a2:aext (fndV (some q)) 2=some (bv true):=rfl;simp only[a0,a1,a2,Qxy,RR];refine JW (locC p q.1 q.2) rfl rfl ?_;refine QR h (by omega) fun τ1 S1=>?_
     simp only[RR];exact Qa (h1.ok S1)
    |none=>
     rw[hf] at h1;dsimp only at h1;have a0:aext (fndV none) 0=some (iv 0):=rfl;have a1:aext (fndV none) 1=some (iv 0):=rfl;have a2:aext (fndV none) 2=some (bv false):=rfl;simp only[a0,a1,a2,l3,QoC,RR];refine JW (nmdC 3 p (dat ds x).name) rfl rfl ?_;refine QR h (by omega) fun τ1 S1=>?_
     simp only[RR];exact Qa (h1.ok S1)
   rw[if_neg c3] at h1;simp only[g,c3,e0 h,RR];refine QaR (by omega) ?_;simp only[lenK,RR];refine QV h.sub (fun c0=>?_) fun c0=>?_
   ·have c0:(Qe ds x).length=0:=by have:decide (((Qe ds x).length:Int)=0)=true:=c0;simp at this;rw[this];rfl
    rw[if_pos c0] at h1;exact h1.bad (by decide)
   have c0:¬(Qe ds x).length=0:=by have:decide (((Qe ds x).length:Int)=0)=false:=c0;simpa using this
   rw[if_neg c0] at h1;have hk0:=hks _ (QD (ks:=Qe ds x) (j:=0) (by omega));have x0:∀τ,idx 1 (roK (Qe ds x)) (iv 0) τ=some (.rop [iv (((Qe ds x).getD 0 0:Nat):Int)] 0):=fun τ=>Q1 (j:=0) (by omega)
   simp only[x0,Qv,e0 h,Qq hk0.1 Ql,QZ hk0.1,Qu (Ql _),RR];intro φ hφ;simp only[true_and];refine QH (es:=[[iv 0,iv 0,iv 0,str ⟨#[]⟩]]) (cs:=Qc (dat ds ((Qe ds x).getD 0 0))) (AH.set_same ..) (by simp) rfl rfl rfl (Q2 _) ?_;simp only[List.set_cons_zero,AH.set_set,true_and];refine J3 (P:=fun z τ2=>τ2=τ'∧z=(.ptr φm 0 0 0,iv p,roSc sc,roK (Qe ds x),.rop (Qc (dat ds ((Qe ds x).getD 0 0))) 0,bv (decide ((dat ds ((Qe ds x).getD 0 0)).kind=3∧kwB (dat ds ((Qe ds x).getD 0 0)).name=true)),())) ?_ ?_
   ·rintro z τ2 ⟨rfl,rfl⟩;by_cases cf:(dat ds ((Qe ds x).getD 0 0)).kind=3∧kwB (dat ds ((Qe ds x).getD 0 0)).name=true
    ·rw[if_pos cf] at h1;have gf:decide ((dat ds ((Qe ds x).getD 0 0)).kind=3∧kwB (dat ds ((Qe ds x).getD 0 0)).name=true)=true:=by simpa using cf
     simp only[gf,l3,Qr5 (show 1≤(Qe ds x).length by omega),RR,true_and];exact Qfw hl hd ih cf.2 hp (by omega) hks h hsc (by omega) (by omega) (h1.tail (.refl _))
    ·rw[if_neg cf] at h1;have gf:decide ((dat ds ((Qe ds x).getD 0 0)).kind=3∧kwB (dat ds ((Qe ds x).getD 0 0)).name=true)=false:=by simpa using cf
     simp only[gf,lenK,RR];refine QV h.sub (fun c4=>?_) fun c4=>?_
     ·have c4:4<(Qe ds x).length:=by have:decide ((4:Int)<((Qe ds x).length:Int))=true:=c4;simp at this;omega
      rw[if_pos c4] at h1;exact h1.bad (by decide)
     have c4:¬4<(Qe ds x).length:=by have:decide ((4:Int)<((Qe ds x).length:Int))=false:=c4;simp at this;omega
     rw[if_neg c4] at h1;simp only[QgB,RR];refine JW (nodC 9 p 0) rfl rfl ?_;refine QR h (by omega) fun τ3 S3=>?_
     simp only[RR];exact Qas hd ih (Int.natCast_nonneg _) hks S3 hsc (by rw[List.length_append,List.length_singleton];omega) (by omega) (h1.tail (.refl _))
   ·intro k hk;refine QK hφ rfl ?_;by_cases c:(dat ds ((Qe ds x).getD 0 0)).kind=3
    ·simp only[l0,l3,c,RR];refine QbR ?_;simp only[RR];exact hk _ _ ⟨rfl,by rw[Qve c]<;>rfl⟩
    ·simp only[l0,c,RR];exact hk _ _ ⟨rfl,by rw[Qvf c]<;>rfl⟩
  ·intro k hk;by_cases c1:(dat ds x).kind=1
   ·have:(decide ((dat ds x).kind=1)||decide ((dat ds x).kind=2))=true:=by simp[c1]
    rw[this] at hk;simp only[c1,RR] at hk ⊢;exact hk _ _ ⟨rfl,rfl⟩
   ·have:(decide ((dat ds x).kind=1)||decide ((dat ds x).kind=2))=decide ((dat ds x).kind=2):=by simp[c1]
    rw[this] at hk;simp only[c1,RR];exact hk _ _ ⟨rfl,rfl⟩
end
def expV (ds:List Dat):AV:=if (expE ds ds.length 0 (-1) [] []).2≠0 then .tup [roC [],iv (expE ds ds.length 0 (-1) [] []).2] else if 160<(expE ds ds.length 0 (-1) [] []).1.length then .tup [roC [],iv 2] else .tup [roC (expE ds ds.length 0 (-1) [] []).1,iv 0]
set_option maxHeartbeats 1000000 in
theorem QoK {ds:List Dat} (h0:JM ds=0) (h:R (.ret (expV ds)) σ):acall TP QeU [roD ds] σ R:=by
 have hd:=DOk.of h0;have hls:=DLs.of h0;have hdl:=hd.len;refine QjS (Q:=fun e τ=>∃v,e= .ret v∧AH.Sub σ τ∧Fz σ τ v (expV ds)) ?_ (fun e τ ⟨v,h1,h2,h3⟩=>⟨v,h1,_,σ,QaT h2 h3,h⟩);refine Qkv (tF:=Qhs) Qu3 fun φa φb hφa hφb=>?_
 unfold Qgn;have hs1:AH.Sub σ ((σ.set φa ⟨0,1,[[.val (.slice none 0 0)]]⟩).set φb ⟨0,1,[[.val (.int .i64 0)]]⟩):=(AH.Sub.set (.refl σ) _ hφa).trans (.set (.refl _) _ hφb);have hne:φa≠φb:=by rintro rfl;rw[AH.set_same] at hφb;cases hφb
 have hFa:((σ.set φa ⟨0,1,[[.val (.slice none 0 0)]]⟩).set φb ⟨0,1,[[.val (.int .i64 0)]]⟩) φa=some ⟨0,1,[[.val (.slice none 0 0)]]⟩:=by rw[AH.set_ne' hne,AH.set_same]
 have hFb:((σ.set φa ⟨0,1,[[.val (.slice none 0 0)]]⟩).set φb ⟨0,1,[[.val (.int .i64 0)]]⟩) φb=some ⟨0,1,[[.val (.int .i64 0)]]⟩:=AH.set_same ..;have hb0:σ φb=none:=by rwa [AH.set_ne' (Ne.symm hne)] at hφb
 generalize (σ.set φa ⟨0,1,[[.val (.slice none 0 0)]]⟩).set φb ⟨0,1,[[.val (.int .i64 0)]]⟩=σ1 at hs1 hFa hFb ⊢;have hset:∀(a b:AV),AH.Sub σ ((σ1.set φa ⟨0,1,[[a]]⟩).set φb ⟨0,1,[[b]]⟩):=fun a b ψ F hF=>by
  rw[AH.set_ne' (by rintro rfl;rw[hb0] at hF;cases hF),AH.set_ne' (by rintro rfl;rw[hφa] at hF;cases hF)];exact hs1 _ _ hF
 have hpan:∀c:Int,expV ds= .tup [roC [],iv c]→RD φa φb Qhs (fun e τ=>∃v,e= .ret v∧AH.Sub σ τ∧Fz σ τ v (expV ds)) (.pan (flt c)) σ1:=fun c hc=>⟨c,_,_,rfl,hFa,hFb,_,rfl,hset _ _,by
  rw[hc];refine .tup rfl fun j hj=>?_
  match j,hj with
  |0,_=>exact .nil
  |1,_=>exact .same _⟩
 have eb:bld [nilS,nilS] [(0,1),(1,1)] [(0,roD ds)]=some (.agg [roD ds,nilS]):=rfl;simp only[eb,RR];refine QrU rfl fun φm hφm=>?_
 have S0:MSt σ1 (σ1.set φm ⟨0,(fdQ ds []).length,[[roD ds,nilS]]⟩) φm (fdQ ds []):=by
  refine MSt.new hφm rfl (fun i f hf=>?_) (by intro v hv;simp only[List.mem_cons,List.not_mem_nil,or_false] at hv;rcases hv with rfl|rfl<;>rfl);match i,hf with
  |0,hf=>obtain rfl:=Option.some.inj hf;exact ⟨rfl,rfl,rfl⟩
  |1,hf=>obtain rfl:=Option.some.inj hf;exact .nil
 refine JI (σ0:=σ1.set φm ⟨0,2,[[roD ds,nilS]]⟩) (args':=[.ptr φm 0 0 0,iv ((0:Nat):Int),iv (-1),roSc []]) (.refl _) rfl (fun i hi=>?_) ?_
 ·match i,hi with
  |0,_=>exact .same _
  |1,_=>exact .same _
  |2,_=>exact .same _
  |3,_=>exact .nil
 have hb:=Qr4 hd (x:=0) (by omega);have hV:expV ds=expV ds:=rfl
 conv at hV=>rhs;unfold expV
 refine Qxe hls hd ds.length σ1 0 (-1) [] [] _ _ (by omega) (by omega) (.inl ⟨rfl,rfl⟩) S0 (fun q hq=>by cases hq) (by simp;omega) (by simp;omega) ?_;generalize expE ds ds.length 0 (-1) [] []=E at hV ⊢;refine .step (fun c2=>?_) (.refl _) fun c2 τ' S=>?_
 ·rw[if_pos c2] at hV;exact hpan _ hV
 rw[if_neg (by simpa using c2)] at hV;have hfz:Fz σ1 τ' (.ptr φm 0 0 0) (.rop [roD ds,roC E.1] 0):=by
  obtain ⟨vs,q1,q2,q3,q4,q5⟩:=S.ex;obtain ⟨v1,e1,b1⟩:=S.lst (i:=1) rfl;have e0:lod (.ptr φm 0 0 0) τ'=some (roD ds):=S.fix rfl;have z1:=S.fzl (i:=1) rfl e1 (by intro c hc;obtain ⟨x,_,rfl⟩:=List.mem_map.1 hc;rfl);have hl:vs.length=2:=q2;obtain ⟨a0,a1,rfl⟩:∃a0 a1,vs=[a0,a1]:=by
   match vs,hl with
   |[a0,a1],_=>exact ⟨a0,a1,rfl⟩
  have y0:lod (.ptr φm 0 0 0) τ'=some a0:=Qz q1 rfl rfl;have y1:lod (.ptr φm 0 0 1) τ'=some a1:=Qz q1 rfl rfl;rw[y0] at e0;rw[y1] at e1;obtain rfl:=Option.some.inj e0;obtain rfl:=Option.some.inj e1;refine .ptr q1 S.fr rfl (by simp) rfl rfl fun j hj=>?_
  match j,hj with
  |0,_=>exact .same _
  |1,_=>exact z1
 refine ⟨_,σ1,S.sub,hfz,?_⟩;have l1:∀τ,lod (.rop [roD ds,roC E.1] 1) τ=some (roC E.1):=fun _=>rfl
 have an:anil (.rop [roD ds,roC E.1] 0)=some (.rop [roD ds,roC E.1] 0):=rfl;simp only[an,l1,QA,RR];refine QV (.refl _) (fun c3=>?_) fun c3=>?_
 ·have c3:160<E.1.length:=by have:decide ((160:Int)<(E.1.length:Int))=true:=c3;simp at this;omega
  rw[if_pos c3] at hV;exact hpan _ hV
 have c3:¬160<E.1.length:=by have:decide ((160:Int)<(E.1.length:Int))=false:=c3;simp at this;omega
 rw[if_neg c3] at hV;refine Q4 (cs:=[.val (.slice none 0 0)]) hFa rfl (by decide) (JO rfl) rfl ?_;refine Q4 (cs:=[.val (.int .i64 0)]) (by rw[AH.set_ne' (Ne.symm hne)];exact hFb) rfl (by decide) rfl rfl ?_;have la:lod (.ptr φa 0 0 0) ((σ1.set φa ⟨0,1,[[roC E.1]]⟩).set φb ⟨0,1,[[.val (.int .i64 0)]]⟩)=some (roC E.1):=Qz (i:=0) (by rw[AH.set_ne' hne];exact AH.set_same ..) rfl rfl;have lb:lod (.ptr φb 0 0 0) ((σ1.set φa ⟨0,1,[[roC E.1]]⟩).set φb ⟨0,1,[[.val (.int .i64 0)]]⟩)=some (iv 0):=Qz (i:=0) (AH.set_same ..) rfl rfl;show og (lod (.ptr φa 0 0 0) ((σ1.set φa ⟨0,1,[[roC E.1]]⟩).set φb ⟨0,1,[[.val (.int .i64 0)]]⟩)) _;rw[la];show og (lod (.ptr φb 0 0 0) ((σ1.set φa ⟨0,1,[[roC E.1]]⟩).set φb ⟨0,1,[[.val (.int .i64 0)]]⟩)) _;rw[lb];refine Qa ⟨_,rfl,hset _ _,?_⟩;rw[hV];exact .same _
theorem Ql4 {ds:List Dat} (h:R (.ret (.agg [iv (expR ds).2,roC (expR ds).1])) σ):acall TP Qdk [roD ds] σ R:=by
 refine Qix ?_;unfold x117;dsimp only[den,dE,di,List.map,den0,den1];intro φ hφ;refine Qfg ?_;unfold expR at h;simp only[RR];by_cases c:JM ds=0
 ·rw[if_neg (by simpa using c)] at h;simp only[c,RR];refine QoK c ?_;unfold expV;generalize expE ds ds.length 0 (-1) [] []=E at h ⊢;have fin:∀(a:Int) (cs:List Cor),R (.ret (.agg [iv a,roC cs])) σ→onr (fun v14 σ=>
    og (aext v14 0) fun v15=>
    og (aext v14 1) fun v16=>
    og (bld [(iv 0),nilS] [(0,1),(1,1)] [(0,v16),(1,v15)]) fun v19=>
    sto 2 (.ptr φ 0 0 0) v19 σ fun σ=>
    og (lodA 2 (.ptr φ 0 0 0) σ) fun r2=>
    aret r2 σ R) (fun v σ=>apan v σ R) (.ret (.tup [roC cs,iv a])) (σ.set φ ⟨0,2,[[iv 0,nilS]]⟩):=fun a cs hh=>by
   have x0:aext (.tup [roC cs,iv a]) 0=some (roC cs):=rfl;have x1:aext (.tup [roC cs,iv a]) 1=some (iv a):=rfl;have eb:bld [(iv 0),nilS] [(0,1),(1,1)] [(0,iv a),(1,roC cs)]=some (.agg [iv a,roC cs]):=rfl;simp only[x0,x1,eb,RR];exact J0 hφ rfl rfl (by intro x hx;simp at hx;rcases hx with rfl|rfl<;>rfl) hh
  by_cases c2:E.2=0
  ·rw[if_neg (by simpa using c2)] at h ⊢;by_cases c3:160<E.1.length
   ·rw[if_pos c3] at h ⊢;exact fin _ _ h
   ·rw[if_neg c3] at h ⊢;exact fin _ _ h
  ·rw[if_pos (by simpa using c2)] at h ⊢;exact fin _ _ h
 ·rw[if_pos (by simpa using c)] at h;have eb:bld [(iv 0),nilS] [(0,1),(1,1)] [(0,iv (JM ds))]=some (.agg [iv (JM ds),nilS]):=rfl;simp only[c,eb,RR];refine Qdv (cs':=[iv (JM ds),roC []]) hφ rfl rfl (by intro x hx;simp at hx;rcases hx with rfl|rfl<;>rfl) rfl (fun j hj=>?_) h;match j,hj with
  |0,_=>exact .same _
  |1,_=>exact .nil
end
section
set_option maxRecDepth 100000
variable [L:Lam] {σ τ τ':AH} {R:AEnd→AH→Prop}
theorem Qsb {φ:Nat} {z cs:List AV} (hF:τ φ=some ⟨0,2,[z]⟩) (hz:z.length=2) (hc:cs.length=2) (h1:∀y,y∈cs→y.one=true) (h:aret (.agg cs) (τ.set φ ⟨0,2,[cs]⟩) R):
  sto 2 (.ptr φ 0 0 0) (.agg cs) τ fun σ=>og (lodA 2 (.ptr φ 0 0 0) σ) fun r=>aret r σ R:=by
 refine QH (es:=[z]) (cs:=cs) hF (by simp) (by simpa using hz) rfl hc h1 ?_;simp only[List.set_cons_zero];have e:=UG (σ:=τ.set φ ⟨0,2,[cs]⟩) (φ:=φ) (st:=0) (i:=0) (n:=2) (cs:=cs) (AH.set_same ..) rfl rfl hc;rw[e];exact h
theorem QiQ (hs:AH.Sub σ τ):NewB σ τ nilS []:=⟨⟨nilB,fun p hp=>by cases hp⟩,.nil,(fun ψ c=>by cases c),hs⟩
end
section
set_option maxRecDepth 100000
variable [L:Lam] {σ τ τ':AH} {R:AEnd→AH→Prop}
open Classical in
noncomputable def only (τ:AH) (F:List Nat):AH:=fun φ=>if φ∈F then τ φ else none
end
section
set_option maxRecDepth 100000
variable [L:Lam] {σ τ τ':AH} {R:AEnd→AH→Prop}
def bCo (N:Nat) (cs:List Cor):Prop:=cs.length≤N∧∀x,x∈cs→x.name.size≤N∧bD N x.data
theorem Qvm {N:Nat} {cs:List Cor} (h:bCo N cs) (i:Nat):(Qj cs i).name.size≤N∧bD N (Qj cs i).data:=by
 by_cases hi:i<cs.length
 ·rw[←QcX hi];exact h.2 _ (List.getElem_mem hi)
 ·have:Qj cs i=default:=by simp[Qj,List.getD,List.getElem?_eq_none (Nat.le_of_not_lt hi)]
  rw[this];exact ⟨Nat.zero_le _,Nat.zero_le _,fun d hd=>by cases hd⟩
def plC (t:List UInt8):Int:=if (Qy t).2≠0 then (Qy t).2 else if fitB (fin0 (Qy t).1) then 0 else 2
def plB (t:List UInt8):List Blk:=if plC t=0 then toBk (fin0 (Qy t).1) else []
theorem Qvn {t:List UInt8} (hl:t.length≤1048576) (h:(Qy t).2=0):bCo 1048576 (Qy t).1:=by
 obtain ⟨hw,hd⟩:=QiO h;have hs:=Qw6 hl;refine ⟨by have:=hw.len;omega,fun c hc=>⟨(hs c hc).1,?_,(hs c hc).2⟩⟩;obtain ⟨i,hi,rfl⟩:=Qqp hc;have:=hd i;omega
theorem QoL {t:List UInt8} (hl:t.length≤1048576):bC 1048576 (plB t):=by
 unfold plB;split
 case isFalse=>exact ⟨by simp,fun b hb=>by cases hb⟩
 rename_i h0;have hc:(Qy t).2=0:=by
  unfold plC at h0;split at h0
  ·rename_i c;exact absurd h0 c
  ·rename_i c;simpa using c
 have hf:fits (fin0 (Qy t).1):=by
  unfold plC at h0;rw[if_neg (by simpa using hc)] at h0;split at h0
  ·rename_i c;exact QiK.1 c
  ·cases h0
 have hb:=Qvn hl hc;have hA:AllO (fun o=>o.name.size≤1048576∧bD 1048576 o.data) (fin0 (Qy t).1):=Qs1 ⟨fun o h1 h2=>by rw[h1,h2];exact ⟨by rw[Qqe];omega,Nat.zero_le _,fun d hd=>by cases hd⟩,fun k i=>⟨(Qvm hb i).1,Nat.zero_le _,fun d hd=>by cases hd⟩,fun i=>⟨by show (⟨#[]⟩:ByteArray).size≤_;rw[Qqe];omega,(Qvm hb i).2⟩,fun o a h=>h⟩ _ _ _ _ _ (fun p hp q hq=>by simp at hp;subst hp;cases hq);refine ⟨by have:=hf.1;simp only[toBk,List.length_map];omega,fun b hb=>?_⟩;obtain ⟨p,hp,rfl⟩:=List.mem_map.1 hb;refine ⟨?_,fun o ho=>hA p hp o ho⟩;obtain ⟨k,hk,rfl⟩:=List.mem_iff_getElem.1 hp;have:=hf.2 k hk;unfold Qd at this;rw[show (fin0 (Qy t).1).getD k (0,[])=(fin0 (Qy t).1)[k] by simp[List.getD,hk]] at this;show (fin0 (Qy t).1)[k].2.length≤_;omega
theorem Qmn {f1 f2:FuncId} {t:List UInt8} (h1:∀{σ:AH} {R:AEnd→AH→Prop},R (.ret (.agg [iv (Q3 t).2.1,iv ((Q3 t).2.2:Nat),roD (Q3 t).1])) σ→acall TP f1 [str (bs t)] σ R)
  (h2:∀{σ:AH} {R:AEnd→AH→Prop},R (.ret (.agg [iv (expR (Q3 t).1).2,roC (expR (Q3 t).1).1])) σ→acall TP f2 [roD (Q3 t).1] σ R) (h:R (.ret (.tup [roC (Qy t).1,iv (Qy t).2])) σ):
  acall TP f1 [str (bs t)] σ (onr (fun v7 σ=>
 new [(iv 0),(iv 0),nilS] σ fun v4 σ=>
 sto 3 v4 v7 σ fun σ=>
 frz v4 σ fun f4 σ=>
 og (fldA 0 f4) fun v8=>
 og (lod v8 σ) fun v9=>
 og (ibin .neq v9 (iv 0)) fun v10=>
 apick v10 (
  og (fldA 0 f4) fun v11=>
  og (lod v11 σ) fun v12=>
  aret (.tup [nilS,v12]) σ R) (
  og (fldA 2 f4) fun v13=>
  og (lod v13 σ) fun v14=>
  acall TP f2 [v14] σ (onr (fun v15 σ=>
  new [(iv 0),nilS] σ fun v5 σ=>
  sto 2 v5 v15 σ fun σ=>
  frz v5 σ fun f5 σ=>
  og (fldA 1 f5) fun v16=>
  og (lod v16 σ) fun v17=>
  og (fldA 0 f5) fun v18=>
  og (lod v18 σ) fun v19=>
  aret (.tup [v17,v19]) σ R) (fun v σ=>apan v σ R)))) (fun v σ=>apan v σ R)):=by
 refine h1 ?_;simp only[RR];refine Ji rfl rfl rfl (by intro y hy;simp only[List.mem_cons,List.not_mem_nil,or_false] at hy;rcases hy with rfl|rfl|rfl<;>rfl) ?_;have l0:∀τ,lod (.rop [iv (Q3 t).2.1,iv ((Q3 t).2.2:Nat),roD (Q3 t).1] 0) τ=some (iv (Q3 t).2.1):=fun _=>rfl
 have l2:∀τ,lod (.rop [iv (Q3 t).2.1,iv ((Q3 t).2.2:Nat),roD (Q3 t).1] 2) τ=some (roD (Q3 t).1):=fun _=>rfl
 unfold Qy at h;simp only[l0,RR];by_cases c:(Q3 t).2.1=0
 ·rw[if_neg (by simpa using c)] at h;simp only[c,l2,RR];refine h2 ?_;simp only[RR];refine Ji rfl rfl rfl (one2 rfl rfl) ?_;have m0:∀τ,lod (.rop [iv (expR (Q3 t).1).2,roC (expR (Q3 t).1).1] 0) τ=some (iv (expR (Q3 t).1).2):=fun _=>rfl
  have m1:∀τ,lod (.rop [iv (expR (Q3 t).1).2,roC (expR (Q3 t).1).1] 1) τ=some (roC (expR (Q3 t).1).1):=fun _=>rfl
  simp only[m0,m1,RR];exact Qa h
 ·rw[if_pos (by simpa using c)] at h;simp only[c,l0,RR];refine QW (a':= .tup [roC [],iv (Q3 t).2.1]) (.refl _) (.tup rfl fun j hj=>?_) h;match j,hj with
  |0,_=>exact .nil
  |1,_=>exact .same _
theorem QpM {t:List UInt8} (hl:t.length≤1048576) (h:R (.ret (.tup [roC (Qy t).1,iv (Qy t).2])) σ):acall TP QfU [str (bs t)] σ R:=by
 refine QlE ?_;unfold x80;dsimp only[den,dE,di,List.map,den0,den1];exact Qmn (fun h=>QoA hl h) (fun h=>Ql3 (Qqs hl).sD h) h
theorem QoM {t:List UInt8} (hl:t.length≤1048576) (h:R (.ret (.tup [roBk (plB t),iv (plC t)])) σ):acall TP QeJ [str (bs t)] σ R:=by
 refine Qke ?_;unfold x57;dsimp only[den,dE,di,List.map,den0,den1];refine QpM hl ?_;have x0:aext (.tup [roC (Qy t).1,iv (Qy t).2]) 0=some (roC (Qy t).1):=rfl;have x1:aext (.tup [roC (Qy t).1,iv (Qy t).2]) 1=some (iv (Qy t).2):=rfl;have no:∀c:Int,c≠0→plC t=c→aret (.tup [nilS,iv c]) σ R:=fun c hc e=>by
  have eB:plB t=[]:=by unfold plB;rw[if_neg (by rw[e];exact hc)]
  rw[eB,e] at h;refine QW (a':= .tup [roBk [],iv c]) (.refl _) (.tup rfl fun j hj=>?_) h;match j,hj with
  |0,_=>exact .nil
  |1,_=>exact .same _
 simp only[x0,x1,RR];by_cases c:(Qy t).2=0
 ·obtain ⟨hw,hd⟩:=QiO c;simp only[c,RR];refine QqU hw (fun i=>by have:=hd i;omega) ?_;have y0:aext (.tup [roBk (toBk (fin0 (Qy t).1)),bv (fitB (fin0 (Qy t).1))]) 0=some (roBk (toBk (fin0 (Qy t).1))):=rfl;have y1:aext (.tup [roBk (toBk (fin0 (Qy t).1)),bv (fitB (fin0 (Qy t).1))]) 1=some (bv (fitB (fin0 (Qy t).1))):=rfl;simp only[y0,y1,RR];cases hf:fitB (fin0 (Qy t).1) with
  |true=>
   have eC:plC t=0:=by unfold plC;rw[if_neg (by simpa using c),if_pos hf]
   have eB:plB t=toBk (fin0 (Qy t).1):=by unfold plB;rw[if_pos eC]
   rw[eB,eC] at h;simp only[RR];exact Qa h
  |false=>
   simp only[RR];exact no 2 (by decide) (by unfold plC;rw[if_neg (by simpa using c),if_neg (by rw[hf];decide)])
 ·simp only[c,RR];exact no _ c (by unfold plC;rw[if_pos (by simpa using c)])
section
variable [K:Knows QS]
theorem QoN {t:List UInt8} (hl:t.length≤1048576) (h:R (.ret (.tup [roC (Qy t).1,iv (Qy t).2])) σ):acall TP QeM [str (bs t)] σ R:=by
 refine Qki ?_;unfold x85;dsimp only[den,dE,di,List.map,den0,den1];exact Qmn (fun h=>QoF (fun h=>QoG h) h) (fun h=>Ql4 h) h
theorem Qnr {t:List UInt8} (hl:t.length≤1048576) (h:∀v B τ,cont B=plB t→NewB σ τ v B→R (.ret (.tup [v,iv (plC t)])) τ):acall TP QdM [str (bs t)] σ R:=by
 refine QjF ?_;unfold x62;dsimp only[den,dE,di,List.map,den0,den1];refine QoN hl ?_;have x0:aext (.tup [roC (Qy t).1,iv (Qy t).2]) 0=some (roC (Qy t).1):=rfl;have x1:aext (.tup [roC (Qy t).1,iv (Qy t).2]) 1=some (iv (Qy t).2):=rfl;simp only[x0,x1,RR];by_cases c:(Qy t).2=0
 ·obtain ⟨hw,hd⟩:=QiO c;simp only[c,RR];refine Qou hw (fun i=>by have:=hd i;omega) (fun fD v B τ hcB hN=>?_) (fun nf τ hs=>?_)
  ·have eC:plC t=0:=by unfold plC;rw[if_neg (by simpa using c),if_pos (QiK.2 fD)]
   have eB:plB t=toBk (fin0 (Qy t).1):=by unfold plB;rw[if_pos eC]
   have y0:aext (.tup [v,iv 0]) 0=some v:=rfl;have y1:aext (.tup [v,iv 0]) 1=some (iv 0):=rfl;simp only[y0,y1,RR];have:=h v B τ (by rw[eB];exact hcB) hN;rw[eC] at this;exact Qa this
  ·have eC:plC t=2:=by unfold plC;rw[if_neg (by simpa using c),if_neg (fun k=>nf (QiK.1 k))]
   have eB:plB t=[]:=by unfold plB;rw[if_neg (by rw[eC];decide)]
   have y0:aext (.tup [nilS,iv 2]) 0=some nilS:=rfl;have y1:aext (.tup [nilS,iv 2]) 1=some (iv 2):=rfl;simp only[y0,y1,RR];have:=h nilS [] τ (by rw[eB];rfl) (QiQ hs);rw[eC] at this;exact Qa this
 ·have eC:plC t=(Qy t).2:=by unfold plC;rw[if_pos (by simpa using c)]
  have eB:plB t=[]:=by unfold plB;rw[if_neg (by rw[eC];exact c)]
  simp only[c,RR];have:=h nilS [] σ (by rw[eB];rfl) (QiQ (.refl σ));rw[eC] at this;exact Qa this
end
end
section
set_option maxRecDepth 100000
def smK (c:Cor):Prop:=0≤c.a∧c.a≤999∧0≤c.b∧c.b≤999
def AllK (C:List Cor):Prop:=∀c,c∈C→smK c
theorem AllK.one {C:List Cor} {c:Cor} (h:AllK C) (g:smK c):AllK (C++[c]):=fun x hx=>(List.mem_append.1 hx).elim (h x) fun hx=>by obtain rfl:=List.mem_singleton.1 hx;exact g
theorem QoO {k p:Int} {s:ByteArray} {d:List Dat}:smK ⟨k,p,0,0,s,d⟩:=⟨Int.le_refl 0,by show (0:Int)≤999;omega,Int.le_refl 0,by show (0:Int)≤999;omega⟩
theorem Qer {k p:Int} {a:Nat} (h:a≤999):smK (nodC k p a):=⟨by show (0:Int)≤(a:Int);omega,by show (a:Int)≤999;omega,Int.le_refl 0,by show (0:Int)≤999;omega⟩
theorem QAf {p:Int} {a b:Nat} (h:a≤999) (g:b≤999):smK (locC p a b):=⟨by show (0:Int)≤(a:Int);omega,by show (a:Int)≤999;omega,by show (0:Int)≤(b:Int);omega,by show (b:Int)≤999;omega⟩
theorem QAg {s:ByteArray}:∀(ns:List ByteArray) (b:Nat),posL ns s=some b→b<ns.length:=by
 intro ns
 induction ns with
 |nil=>intro b h;cases h
 |cons t r ih=>
  intro b h;rw[posL] at h;split at h
  ·have:0=b:=Option.some.inj h;rw[List.length_cons];omega
  ·cases hp:posL r s with
   |none=>rw[hp] at h;cases h
   |some q=>
    rw[hp] at h;have:q+1=b:=Option.some.inj h;have:=ih q hp;rw[List.length_cons];omega
def Sm3 (sc:Sco):Prop:=∀ns,ns∈sc→List.length ns≤3
theorem Qxf {s:ByteArray}:∀(sc:Sco) (a b:Nat),Sm3 sc→JA sc s=some (a,b)→a<sc.length∧b<3:=by
 intro sc
 induction sc with
 |nil=>intro a b _ h;cases h
 |cons ns r ih=>
  intro a b h3 h;rw[JA] at h;cases hp:posL ns s with
  |some k=>
   rw[hp] at h;have:(0,k)=(a,b):=Option.some.inj h;injection this with h1 h2
   have:=QAg _ _ hp;have:=h3 ns (by simp);rw[←h1,←h2,List.length_cons];omega
  |none=>
   rw[hp] at h;cases hf:JA r s with
   |none=>rw[hf] at h;cases h
   |some q=>
    rw[hf] at h;have:(q.1+1,q.2)=(a,b):=Option.some.inj h;injection this with h1 h2
    have:=ih q.1 q.2 (fun ns h=>h3 ns (List.mem_cons_of_mem _ h)) hf;rw[←h2,List.length_cons];omega
def OkK (g:Gx) (m:Nat):Prop:=∀x p sc C,List.length sc≤m→Sm3 sc→AllK C→AllK (g x p sc C).1
theorem Qq7 {g:Nat→List Cor→Ex} (hg:∀k C,AllK C→AllK (g k C).1):∀ks C,AllK C→AllK (allE g ks C).1:=by
 intro ks
 induction ks with
 |nil=>intro C h;exact h
 |cons k r ih=>
  intro C h;rw[allE];split
  ·exact hg k C h
  ·exact ih _ (hg k C h)
section
variable {ds:List Dat}
theorem QBK {g:Gx} {m:Nat} (hg:OkK g m) (hg1:OkK g (m+1)) {w:ByteArray} {ks:List Nat} {p:Int} {sc:Sco} {C:List Cor} (hs:sc.length≤m) (h3:Sm3 sc) (hC:AllK C):AllK (Qa2 ds g w ks p sc C).1:=by
 have asg:∀kind,AllK (asgE ds g ks p sc C kind).1:=fun kind=>by
  unfold asgE;split
  ·exact hC
  split
  ·exact hC
  split
  ·exact hC
  ·exact hg _ _ _ _ hs h3 (hC.one QoO)
 have more:∀ns:List ByteArray,¬3<ns.length→Sm3 (ns::sc):=fun ns h n hn=>by
  rcases List.mem_cons.1 hn with rfl|hn
  ·omega
  ·exact h3 n hn
 unfold Qa2;split
 ·split
  ·exact hC
  ·exact hC.one QoO
 split
 ·split
  ·exact hC
  ·exact Qq7 (fun k C h=>hg _ _ _ _ hs h3 h) _ _ (hC.one (Qer (by omega)))
 split
 ·split
  ·exact hC
  ·exact Qq7 (fun k C h=>hg _ _ _ _ hs h3 h) _ _ (hC.one (Qer (by omega)))
 split
 ·unfold lamE;split
  ·exact hC
  ·split
   ·exact hC
   ·split
    ·exact hC
    ·exact hg1 _ _ _ _ (by rw[List.length_cons];omega) (more _ (by assumption)) (hC.one (Qer (by omega)))
 split
 ·unfold letE;split
  ·exact hC
  ·split
   ·exact hC
   ·rename_i ns vs _;split
    ·exact hC
    ·rename_i hn;have h1:AllK (g (ks.getD 2 0) ((C.length+1:Nat):Int) (ns::sc) (C++[nodC 9 p 0]++[nodC 5 (C.length:Int) ns.length])).1:=hg1 _ _ _ _ (by rw[List.length_cons];omega) (more _ hn) ((hC.one (Qer (by omega))).one (Qer (by omega)));split
     ·exact h1
     ·exact Qq7 (fun k C h=>hg _ _ _ _ hs h3 h) _ _ h1
 split
 ·exact asg 8
 ·exact asg 7
theorem QB7:∀f m,m+f≤900→OkK (expE ds f) m:=by
 intro f
 induction f with
 |zero=>intro m _ x p sc C _ _ hC;exact hC
 |succ f ih=>
  intro m hm x p sc C hs h3 hC;rw[expE];split
  ·exact hC.one QoO
  split
  ·split
   ·exact hC
   ·split
    ·rename_i a b e;have:=Qxf _ _ _ h3 e;exact hC.one (QAf (by omega) (by omega))
    ·exact hC.one QoO
  split
  ·exact hC
  split
  ·exact QBK (ih m (by omega)) (ih (m+1) (by omega)) hs h3 hC
  split
  ·exact hC
  ·exact Qq7 (fun k C h=>ih m (by omega) _ _ _ _ hs h3 h) _ _ (hC.one (Qer (by omega)))
end
variable [L:Lam]
theorem Qvo {t:List UInt8}:∀i,smK (Qj (Qy t).1 i):=by
 have no:AllK []:=fun c hc=>by cases hc
 have key:AllK (Qy t).1:=by
  unfold Qy;split
  ·exact no
  unfold expR;split
  ·exact no
  rename_i c;have hl:=QkZ (Classical.byContradiction c);split
  ·exact no
  split
  ·exact no
  ·exact QB7 _ 0 (by omega) _ _ _ _ (Nat.le_refl _) (fun ns h=>by cases h) no
 intro i;by_cases hi:i<(Qy t).1.length
 ·have:=key _ (List.getElem_mem hi)
  rwa [QcX hi] at this
 ·have:Qj (Qy t).1 i=default:=by simp[Qj,List.getD,List.getElem?_eq_none (Nat.le_of_not_lt hi)]
  rw[this];exact QoO
end
section
set_option maxRecDepth 100000
variable [L:Lam] {σ τ τ':AH} {R:AEnd→AH→Prop}
def encF (s t:Int) (p q:Bool):List AV:=[iv s,iv t,bv p,bv q]
theorem Qxg (s t:Int) (p q:Bool):∀y,y∈encF s t p q→y.one=true:=by
 intro y hy;simp only[encF,List.mem_cons,List.not_mem_nil,or_false] at hy;rcases hy with rfl|rfl|rfl|rfl<;>rfl
theorem RF (s t:Int) (p q:Bool):(∀σ,lod (.rop (encF s t p q) 0) σ=some (iv s))∧(∀σ,lod (.rop (encF s t p q) 1) σ=some (iv t))∧(∀σ,lod (.rop (encF s t p q) 2) σ=some (bv p))∧(∀σ,lod (.rop (encF s t p q) 3) σ=some (bv q)):=
 ⟨fun _=>rfl,fun _=>rfl,fun _=>rfl,fun _=>rfl⟩
def cfgF (s t:Int):Int:=if inB 1 64 s&&inB 0 15 t then 0 else 3
theorem Qk5 {s t:Int} {p q:Bool} (h:R (.ret (iv (cfgF s t))) σ):acall TP QcE [.agg (encF s t p q)] σ R:=by
 refine Qhy ?_;unfold x34;dsimp only[den,dE,di,tupL,lTup,den2,den3,den4,List.map,den0,den1];unfold cfgF at h;simp only[jn];refine Qan rfl ?_;simp only[RR,RF];refine QmL ?_;unfold x60;dsimp only[den,dE,di,List.map,den0,den1];refine JX ?_;simp only[RR];refine Qa ?_;cases c:inB 1 64 s
 ·rw[c] at h;simp only[RR];exact Qa h
 ·rw[c] at h;simp only[RR,RF];refine Ql1 ?_;cases c2:inB 0 15 t
  ·rw[c2] at h;simp only[RR];exact Qa h
  ·rw[c2] at h;simp only[RR];exact Qa h
theorem QoP {s t:Int} {p q:Bool} (h:R (.ret (iv (cfgF s t))) σ):acall TP QeH [.rop (encF s t p q) 0] σ R:=by
 refine Qka ?_;unfold x32;dsimp only[den,dE,di,tupL,lTup,den2,den3,den4,List.map,den0,den1];unfold cfgF at h;simp only[jn,RR,RF];refine QlB ?_;unfold x55;dsimp only[den,dE,di,List.map,den0,den1];refine JK ?_;simp only[RR];refine Qa ?_;cases c:inB 1 64 s
 ·rw[c] at h;simp only[RR];exact Qa h
 ·rw[c] at h;simp only[RR,RF];refine Qkd ?_;unfold x56;dsimp only[den,dE,di,List.map,den0,den1];refine JK ?_;simp only[RR];refine Qa ?_;cases c2:inB 0 15 t
  ·rw[c2] at h;simp only[RR];exact Qa h
  ·rw[c2] at h;simp only[RR];exact Qa h
theorem Qtq {s t:Int} (h:cfgF s t=0):1≤s∧s≤64∧0≤t∧t≤15:=by
 unfold cfgF at h;split at h
 ·rename_i c;rw[Bool.and_eq_true] at c;have:=Js.1 c.1;have:=Js.1 c.2;omega
 ·cases h
theorem QgE {s t:Int} {p q:Bool} (h:R (.ret (.agg (encF s t p q))) σ):acall TP QeE [.agg (encF s t p q)] σ R:=by
 refine Qj7 ?_;unfold x13;dsimp only[den,dE,di,List.map,den0,den1];refine QtJ rfl fun φ2 φ3 hne h2 h3=>?_
 simp only[RR,RF];refine QiC (by decide) rfl ?_;refine QiC (by decide) rfl ?_;refine QiC (by decide) rfl ?_;refine QiC (by decide) rfl ?_;exact Qwj hne h2 h3 rfl rfl (Qxg s t p q) h
theorem Qvp (tab:Int) (T:Nat→Bool):∀(n k:Nat) (os:List OpD),os.length≤n→(UL tab T k os).length≤os.length:=by
 intro n
 induction n with
 |zero=>intro k os h;cases os with|nil=>exact Nat.le_refl _|cons=>simp at h
 |succ n ih=>
  intro k os h;match os,h with
  |[],_=>exact Nat.le_refl _
  |[p],_=>exact Nat.le_refl _
  |p::q::r,h=>
   simp only[UL];split
   ·have:=ih (k+2) r (by simp at h;omega);simp;omega
   ·have:=ih (k+1) (q::r) (by simp at h ⊢;omega);simp at this ⊢;omega
theorem Qxh {N:Nat} (tab:Int) (T:Nat→Bool):∀(n k:Nat) (os:List OpD),os.length≤n→(∀o,o∈os→o.name.size≤N∧bD N o.data)→∀o,o∈UL tab T k os→o.name.size≤N∧bD N o.data:=by
 intro n
 induction n with
 |zero=>intro k os h;cases os with|nil=>intro _ o ho;cases ho|cons=>simp at h
 |succ n ih=>
  intro k os h hb o ho;match os,h,hb,ho with
  |[],_,_,ho=>cases ho
  |[p],_,hb,ho=>exact hb o ho
  |p::q::r,h,hb,ho=>
   simp only[UL] at ho;split at ho
   ·rename_i o' h1 h2;rcases List.mem_cons.1 ho with rfl|ho
    ·obtain ⟨e1,e2⟩:=Qqk h2;have:=hb p (by simp);rw[e1,e2];refine ⟨Nat.zero_le _,?_⟩;split
     ·exact this.2
     ·exact ⟨Nat.zero_le _,fun d hd=>by cases hd⟩
    ·exact ih (k+2) r (by simp at h;omega) (fun o ho=>hb o (by simp[ho])) o ho
   ·rcases List.mem_cons.1 ho with rfl|ho
    ·exact hb _ (by simp)
    ·exact ih (k+1) (q::r) (by simp at h ⊢;omega) (fun o ho=>hb o (List.mem_cons_of_mem _ ho)) o ho
theorem Qt5 (xs:List Int) (o:OpD):(UK xs o).name=o.name:=by unfold UK;(repeat' split)<;>rfl
theorem QBL {bs:List Blk} {tab:Int} (h:bC 1048576 bs):bC 1048576 (bs.map (fusB tab)):=by
 refine ⟨by rw[List.length_map];exact h.1,fun b hb=>?_⟩;obtain ⟨b0,hb0,rfl⟩:=List.mem_map.1 hb;obtain ⟨h1,h2⟩:=h.2 b0 hb0;have hl:(fusB tab b0).ops.length≤b0.ops.length:=by
  simp only[fusB,fusO,List.length_map];exact Qvp tab _ _ 0 _ (Nat.le_refl _)
 refine ⟨by omega,fun o ho=>?_⟩;obtain ⟨q,hq,rfl⟩:=List.mem_map.1 ho;rw[Qt5,Qoq];exact Qxh tab _ _ 0 _ (Nat.le_refl _) h2 q hq
theorem QAh {bs:List Blk} (h:bC 1048576 bs):bC 1048576 (bs.map Qeh):=by
 refine ⟨by rw[List.length_map];exact h.1,fun b hb=>?_⟩;obtain ⟨b0,hb0,rfl⟩:=List.mem_map.1 hb;obtain ⟨h1,h2⟩:=h.2 b0 hb0;refine ⟨by show (QbF b0.ops).length≤_;rw[QkW];exact h1,fun o ho=>?_⟩;obtain ⟨q,hq,rfl⟩:=List.mem_map.1 ho;have hq2:=h2 q hq;unfold Qln;split
 ·exact ⟨Nat.zero_le _,Nat.zero_le _,fun d hd=>by cases hd⟩
 ·unfold J8;split
  ·exact hq2
  ·exact hq2
def mkX (t:List UInt8) (p:Bool):List Blk:=if p then (plB t).map Qeh else plB t
def mcB (t:List UInt8) (p:Bool) (tab:Int):List Blk:=if plC t=0 then (mkX t p).map (fusB tab) else []
theorem QoQ {t:List UInt8} (h:plC t=0):FwC (plB t):=by
 have hc:(Qy t).2=0:=by
  unfold plC at h;split at h
  ·rename_i c;exact absurd h c
  ·rename_i c;simpa using c
 have hf:fits (fin0 (Qy t).1):=by
  unfold plC at h;rw[if_neg (by simpa using hc)] at h;split at h
  ·rename_i c;exact QiK.1 c
  ·cases h
 have eB:plB t=toBk (fin0 (Qy t).1):=by unfold plB;rw[if_pos h]
 rw[eB];obtain ⟨hw, -⟩:=QiO hc;exact QBG hf (QwH rfl hw fun i _ _=>by have:=Qvo (t:=t) i;exact ⟨⟨this.1,this.2.1⟩,this.2.2.1,this.2.2.2⟩)
theorem Qvq {t:List UInt8} (h:plC t=0) (p:Bool):FOk (mkX t p):=by
 unfold mkX;split
 ·exact (QoQ h).peep
 ·exact (QoQ h).fok
theorem Qsc {t:List UInt8} (hl:t.length≤1048576) (p:Bool):bC 1048576 (mkX t p):=by
 unfold mkX;split
 ·exact QAh (QoL hl)
 ·exact QoL hl
theorem QBM {t:List UInt8} (hl:t.length≤1048576) (p:Bool) (tab:Int):bC 1048576 (mcB t p tab):=by
 unfold mcB;split
 ·exact QBL (Qsc hl p)
 ·exact ⟨Nat.zero_le _,fun b hb=>by cases hb⟩
theorem QiR {x:AV} {xs z:List AV} {k:AV→AV→AH→Prop} (hx:JF x=some xs) (h:∀φ,σ φ=none→k (.rop xs 0) (.ptr φ 0 0 0) (σ.set φ ⟨0,z.length,[z]⟩)):abox x σ fun v1 σ=>new z σ fun v2 σ=>frz v1 σ fun f1 σ=>k f1 v2 σ:=by
 unfold abox;rw[hx];intro φ1 h1 φ2 h2;rw[AH.set_none] at h2;rw[AH.set_comm _ _ _ (Ne.symm h2.1)];exact QK (AH.set_none.2 ⟨Ne.symm h2.1,h1⟩) rfl (h φ2 h2.2)
section
variable [K:Knows QS]
theorem QoR {t:List UInt8} {s tb:Int} {p q:Bool} (hl:t.length≤1048576) (h0:0≤tb) (h1:tb≤15) (h:∀v B τ,cont B=mcB t p tb→NewB σ τ v B→R (.ret (.tup [v,iv (plC t)])) τ):acall TP QeI [str (bs t),.agg (encF s tb p q)] σ R:=by
 refine Qkb ?_;unfold x35;dsimp only[den,dE,di,tupL,lTup,den2,den3,den4,List.map,den0,den1];refine Qan rfl ?_;refine Qnr hl fun v B τ hcB hN=>?_
 have y0:aext (.tup [v,iv (plC t)]) 0=some v:=rfl;have y1:aext (.tup [v,iv (plC t)]) 1=some (iv (plC t)):=rfl;simp only[y0,y1,RR];by_cases c:plC t=0
 case neg=>
  simp only[c,RR];exact Qa (h nilS [] τ (by unfold mcB;rw[if_neg c];rfl) (QiQ hN.sub))
 simp only[c,RR];rw[c] at h;refine J3 (P:=fun z τ'=>∃v' B',z=(.rop (encF s tb p q) 0,v',())∧cont B'=mkX t p∧NewB σ τ' v' B') ?_ ?_
 ·rintro z τ' ⟨v',B',rfl,hcB',hN'⟩;simp only[RR,RF];refine JI (args':=[roBk (mkX t p),iv tb]) hN'.sub rfl (fun i hi=>?_) ?_
  ·match i,hi with
   |0,_=>have:=hN'.fz';rw[hcB'] at this;exact this
   |1,_=>exact .same _
  refine QqO (Qsc hl p) h0 h1 (Qvq c p) fun v2 B2 τ2 hc2 hN2=>?_
  simp only[RR];exact Qa (h v2 B2 τ2 (by unfold mcB;rw[if_pos c];exact hc2) hN2)
 ·intro k hk;simp only[RR,RF];cases p with
  |false=>
   simp only[RR];exact hk _ _ ⟨v,B,rfl,hcB,hN⟩
  |true=>
   simp only[RR];refine JI (args':=[roBk (plB t)]) hN.sub rfl (fun i hi=>?_) ?_
   ·match i,hi with
    |0,_=>have:=hN.fz';rw[hcB] at this;exact this
   refine QqQ (QoL hl) (QoQ c) fun v2 B2 τ2 hc2 hN2=>?_
   simp only[RR];exact hk _ _ ⟨v2,B2,rfl,hc2,hN2⟩
def mkc (t:List UInt8) (s tb:Int):Int:=if cfgF s tb=0 then plC t else cfgF s tb
def mkb (t:List UInt8) (s tb:Int) (p:Bool):List Blk:=if cfgF s tb=0 then mcB t p tb else []
theorem QoS {t:List UInt8} {s tb:Int} {p q:Bool} (hl:t.length≤1048576) (h:∀v B τ,cont B=mkb t s tb p→NewB σ τ v B→R (.ret (.agg [iv (mkc t s tb),v])) τ):acall TP QeF [str (bs t),.agg (encF s tb p q)] σ R:=by
 refine Qj8 ?_;unfold x14;dsimp only[den,dE,di,List.map,den0,den1];refine QiR rfl fun φ hφ=>?_
 simp only[Qu (cs:=encF s tb p q) (n:=4) rfl,RR];refine Qk5 ?_;unfold mkc mkb at h;by_cases c:cfgF s tb=0
 case neg=>
  rw[if_neg c,if_neg c] at h;have eb:bld [(iv 0),nilS] [(0,1),(1,1)] [(0,iv (cfgF s tb))]=some (.agg [iv (cfgF s tb),nilS]):=rfl;simp only[c,eb,RR];exact J0 hφ rfl rfl (one2 rfl rfl) (h nilS [] σ rfl (QiQ (.refl σ)))
 rw[if_pos c,if_pos c] at h;obtain ⟨-, -,h0,h1⟩:=Qtq c;simp only[c,Qu (cs:=encF s tb p q) (n:=4) rfl,RR];have hs1:AH.Sub σ (σ.set φ ⟨0,[(AV.val (.int .i64 0)),(AV.val (.slice none 0 0))].length,[[(AV.val (.int .i64 0)),(AV.val (.slice none 0 0))]]⟩):= .set (.refl σ) _ hφ;have hF1:=AH.set_same σ φ (⟨0,2,[[(AV.val (.int .i64 0)),(AV.val (.slice none 0 0))]]⟩:Fam);refine QoR hl h0 h1 fun v B τ hcB hN=>?_
 have y0:aext (.tup [v,iv (plC t)]) 0=some v:=rfl;have y1:aext (.tup [v,iv (plC t)]) 1=some (iv (plC t)):=rfl;have eb:=Qs3 (n:=plC t) hN.own.1;simp only[y0,y1,eb,RR];have hφB:φ∉Jz v B:=fun c=>by have:=hN.fr φ c;rw[AH.set_same] at this;cases this
 refine Qsb (hN.sub _ _ hF1) rfl rfl (one2 rfl hN.one) (Qa ?_);exact h v B _ hcB ⟨hN.own.keep fun ψ hψ=>AH.set_ne' (by rintro rfl;exact hφB hψ),hN.nd,fun ψ hψ=>hs1.none (hN.fr ψ hψ),fun ψ G hG=>by
  rw[AH.set_ne' (by rintro rfl;rw[hφ] at hG;cases hG)];exact hN.sub _ _ (hs1 _ _ hG)⟩
end
theorem Qt6 {bs:List Blk} (hb:bC 1048576 bs) (hF:FwC bs) (h:R (.ret (roBk (bs.map Qeh))) σ):acall TP QaB [roBk bs] σ R:=by
 refine QjS (Ql2 (σ:=σ) (R:=fun e τ=>∃v B,e= .ret v∧cont B=bs.map Qeh∧NewB σ τ v B) hb hF fun v B τ h1 h2=>⟨v,B,rfl,h1,h2⟩) ?_;rintro e τ ⟨v,B,rfl,hc,hN⟩;have:=hN.fz';rw[hc] at this;exact ⟨_,rfl,_,σ,QaT hN.sub this,h⟩
theorem Qt7 {bs:List Blk} {tab:Int} (hb:bC 1048576 bs) (h0:0≤tab) (h1:tab≤15) (hF:FOk bs) (h:R (.ret (roBk (bs.map (fusB tab)))) σ):acall TP QaC [roBk bs,iv tab] σ R:=by
 refine QjS (Ql0 (σ:=σ) (R:=fun e τ=>∃v B,e= .ret v∧cont B=bs.map (fusB tab)∧NewB σ τ v B) hb h0 h1 hF fun v B τ h1 h2=>⟨v,B,rfl,h1,h2⟩) ?_;rintro e τ ⟨v,B,rfl,hc,hN⟩;have:=hN.fz';rw[hc] at this;exact ⟨_,rfl,_,σ,QaT hN.sub this,h⟩
theorem QpN {t:List UInt8} {s tb:Int} {p q:Bool} (hl:t.length≤1048576) (h0:0≤tb) (h1:tb≤15) (h:R (.ret (.tup [roBk (mcB t p tb),iv (plC t)])) σ):acall TP QfL [str (bs t),.rop (encF s tb p q) 0] σ R:=by
 refine Qlu ?_;unfold x33;dsimp only[den,dE,di,tupL,lTup,den2,den3,den4,List.map,den0,den1];refine QoM hl ?_;have y0:aext (.tup [roBk (plB t),iv (plC t)]) 0=some (roBk (plB t)):=rfl;have y1:aext (.tup [roBk (plB t),iv (plC t)]) 1=some (iv (plC t)):=rfl;have a0:anil (.rop (encF s tb p q) 0)=some (.rop (encF s tb p q) 0):=rfl;simp only[y0,y1,RR];by_cases c:plC t=0
 case neg=>
  have e:mcB t p tb=[]:=by unfold mcB;rw[if_neg c]
  rw[e] at h;simp only[c,RR];refine QW (a':= .tup [roBk [],iv (plC t)]) (.refl _) (.tup rfl fun j hj=>?_) h;match j,hj with
  |0,_=>exact .nil
  |1,_=>exact .same _
 have e:mcB t p tb=(mkX t p).map (fusB tb):=by unfold mcB;rw[if_pos c]
 rw[e,c] at h;simp only[c,RR];refine J3 (P:=fun z τ'=>σ=τ'∧z=(.rop (encF s tb p q) 0,roBk (mkX t p),())) ?_ ?_
 ·rintro z τ' ⟨rfl,rfl⟩;simp only[a0,RR,RF];refine Qt7 (Qsc hl p) h0 h1 (Qvq c p) ?_;simp only[RR];exact Qa h
 ·intro k hk;simp only[a0,RR,RF];cases p with
  |false=>
   simp only[RR];exact hk _ _ ⟨rfl,rfl⟩
  |true=>
   simp only[RR];refine Qt6 (QoL hl) (QoQ c) ?_;simp only[RR];exact hk _ _ ⟨rfl,rfl⟩
theorem QoT {t:List UInt8} {s tb:Int} {p q:Bool} (hl:t.length≤1048576) (h:R (.ret (.agg [iv (mkc t s tb),roBk (mkb t s tb p)])) σ):acall TP QeD [str (bs t),.agg (encF s tb p q)] σ R:=by
 refine Qj6 ?_;unfold x12;dsimp only[den,dE,di,List.map,den0,den1];refine QiR rfl fun φ hφ=>?_
 refine QoP ?_;unfold mkc mkb at h;by_cases c:cfgF s tb=0
 case neg=>
  rw[if_neg c,if_neg c] at h;have eb:bld [(iv 0),nilS] [(0,1),(1,1)] [(0,iv (cfgF s tb))]=some (.agg [iv (cfgF s tb),nilS]):=rfl;have hF1:=AH.set_same σ φ (⟨0,2,[[(AV.val (.int .i64 0)),(AV.val (.slice none 0 0))]]⟩:Fam);simp only[c,eb,RR];refine Qsb hF1 rfl rfl (one2 rfl rfl) (QwT ?_ (Fz.agg2 (.same _) .nil) h);rw[AH.set_set];exact .set (.refl σ) _ hφ
 rw[if_pos c,if_pos c] at h;obtain ⟨-, -,h0,h1⟩:=Qtq c;simp only[c,RR];refine QpN hl h0 h1 ?_;have y0:aext (.tup [roBk (mcB t p tb),iv (plC t)]) 0=some (roBk (mcB t p tb)):=rfl;have y1:aext (.tup [roBk (mcB t p tb),iv (plC t)]) 1=some (iv (plC t)):=rfl;have eb:bld [(iv 0),nilS] [(0,1),(1,1)] [(0,iv (plC t)),(1,roBk (mcB t p tb))]=some (.agg [iv (plC t),roBk (mcB t p tb)]):=rfl;simp only[y0,y1,eb,RR];exact J0 hφ rfl rfl (one2 rfl rfl) h
theorem QBN {t:List UInt8} (hl:t.length≤1048576) (s tb:Int) (p:Bool):bC 1048576 (mkb t s tb p):=by
 unfold mkb;split
 ·exact QBM hl p tb
 ·exact ⟨Nat.zero_le _,fun b hb=>by cases hb⟩
section
variable [K:Knows QS]
end
end
set_option maxRecDepth 100000
section
attribute [local instance] lam0
theorem QAi {m:Nat} {cs:List AV} (h:Sh Tryz.prog (m+2) 33 cs):∃(s t:Int) (p q:Bool),cs=encF s t p q:=by
 obtain ⟨h1,h2⟩:=QtB Tryz.underlying33 h;rw[show Tryz.prog.cellsOf 33=4 from by decide+kernel] at h1;obtain ⟨a,b,c,e,rfl⟩:∃a b c e,cs=[a,b,c,e]:=by match cs,h1 with|[a,b,c,e],_=>exact ⟨_,_,_,_,rfl⟩
 have g0:Sh Tryz.prog (m+1) 2 (([a,b,c,e].drop 0).take (Tryz.prog.cellsOf 2)):=h2 _ (.head _);rw[show Tryz.prog.cellsOf 2=1 from by decide+kernel] at g0;have k0:Sh Tryz.prog (m+1) 2 [a]:=g0;obtain ⟨n0,e0,_⟩:=QsS Tryz.underlying2 k0;cases e0;have g1:Sh Tryz.prog (m+1) 2 (([_,b,c,e].drop 1).take (Tryz.prog.cellsOf 2)):=h2 _ (.tail _ (.head _));rw[show Tryz.prog.cellsOf 2=1 from by decide+kernel] at g1;have k1:Sh Tryz.prog (m+1) 2 [b]:=g1;obtain ⟨n1,e1,_⟩:=QsS Tryz.underlying2 k1;cases e1;have g2:Sh Tryz.prog (m+1) 4 (([_,_,c,e].drop 2).take (Tryz.prog.cellsOf 4)):=h2 _ (.tail _ (.tail _ (.head _)));rw[show Tryz.prog.cellsOf 4=1 from by decide+kernel] at g2;have k2:Sh Tryz.prog (m+1) 4 [c]:=g2;obtain ⟨p,e2⟩:=Qrv Tryz.underlying4 k2;cases e2;have g3:Sh Tryz.prog (m+1) 4 (([_,_,_,e].drop 3).take (Tryz.prog.cellsOf 4)):=h2 _ (.tail _ (.tail _ (.tail _ (.head _))));rw[show Tryz.prog.cellsOf 4=1 from by decide+kernel] at g3;have k3:Sh Tryz.prog (m+1) 4 [e]:=g3;obtain ⟨q,e3⟩:=Qrv Tryz.underlying4 k3;cases e3;exact ⟨n0,n1,p,q,rfl⟩
end
section
set_option maxRecDepth 100000
def QgF (n:Int):List UInt8:=if n=1 then [35,116] else [35,102]
def QX (ds:List Dat):Nat→Nat→List UInt8
 |0,_=>[]
 |f+1,x=>
  if (dat ds x).kind=1 then Lib.itoa (dat ds x).num
  else if (dat ds x).kind=2 then QgF (dat ds x).num
  else if (dat ds x).kind=3 then by8 (dat ds x).name
  else 40::(Lib.join ((Qe ds x).map (QX ds f)) [32]++[41])
theorem Qdy (x:List UInt8) (r:List (List UInt8)):Lib.join (x::r) [32]=x++(r.map fun y=>32::y).flatten:=by
 rw[Lib.join_cons];rfl
theorem Qvr {l:List (List UInt8)} (h:l≠[]) (r:List (List UInt8)):Lib.join (l++r) [32]=Lib.join l [32]++(r.map fun y=>32::y).flatten:=by
 cases l with
 |nil=>exact absurd rfl h
 |cons x l=>rw[List.cons_append,Qdy,Qdy,List.map_append,List.flatten_append,List.append_assoc]
theorem Qqt (l:List (List UInt8)) (y:List UInt8):Lib.join (l++[y]) [32]=(if l=[] then y else Lib.join l [32]++32::y):=by
 split
 ·rename_i h;rw[h];exact Lib.join_one _ _
 ·rename_i h;rw[Qvr h];simp
def sumL (l:List (List UInt8)):Nat:=(l.map fun y=>y.length+1).sum
theorem QiS (a b:List (List UInt8)):sumL (a++b)=sumL a+sumL b:=by simp[sumL]
theorem Qns:∀l:List (List UInt8),(Lib.join l [32]).length≤sumL l:=by
 intro l;cases l with
 |nil=>simp[Lib.join_nil,sumL]
 |cons x r=>
  rw[Qdy,List.length_append];have:((r.map fun y=>(32:UInt8)::y).flatten).length=sumL r:=by simp[sumL,List.length_flatten,Function.comp_def]
  have e:sumL (x::r)=x.length+1+sumL r:=by simp[sumL]
  omega
theorem Qnt {ks:List Nat} {j:Nat} {X:Type} (f:Nat→X) (h:j<ks.length):(ks.take (j+1)).map f=(ks.take j).map f++[f (ks.getD j 0)]:=by
 rw[List.take_succ_eq_append_getElem h,List.map_append];simp[List.getD,h]
def DTx (ds:List Dat):Prop:=∀i,i<ds.length→((dat ds i).kind=1→ -1000000000≤(dat ds i).num∧(dat ds i).num≤1000000000)∧((dat ds i).kind=2→(dat ds i).num=0∨(dat ds i).num=1)∧((dat ds i).kind=3→(dat ds i).name.size≤12)
section
variable [L:Lam]
theorem Qsd {s:ByteArray} (h:Qax s=true):s.size≤12:=by
 unfold Qax at h;rw[Bool.and_eq_true] at h;have:=Js.1 h.1;omega
theorem DTx.of {ds:List Dat} (h:JM ds=0):DTx ds:=by
 have hz:∀j,j<ds.length→datF ds j=0:=by
  unfold JM at h;split at h
  ·intro j hj;exact Qbt _ _ h j (Nat.zero_le _) (by omega)
  ·cases h
 intro i hi;have h:=hz i hi;unfold datF at h;split at h
 ·cases h
 split at h
 ·rename_i hk;exact absurd h hk
 rename_i hk;have hk:QaX (dat ds i).kind (dat ds i).num (dat ds i).name=0:=Classical.byContradiction hk;unfold QaX at hk;refine ⟨fun c=>?_,fun c=>?_,fun c=>?_⟩
 ·rw[if_pos c] at hk;split at hk
  ·rename_i hn;exact Js.1 hn
  ·cases hk
 ·rw[if_neg (by omega),if_pos c] at hk;split at hk
  ·rename_i hn;have:=Js.1 hn;omega
  ·cases hk
 ·rw[if_neg (by omega),if_neg (by omega),if_pos c] at hk;split at hk
  ·rename_i hn;exact Qsd hn
  ·cases hk
theorem Um {v:Int} (h0: -1000000000≤v) (h1:v≤1000000000):(Lib.itoa v).length≤11:=by
 have h:=Qoj h0 h1;unfold J2 at h;rw[Bool.and_eq_true,Bool.and_eq_true,decide_eq_true_iff,decide_eq_true_iff] at h;have h2:=h.1.2;unfold dgsB at h2;split at h2
 ·rw[List.length_tail] at h2;omega
 ·omega
theorem Qse {f:Nat→List UInt8} {g:Nat→Nat} {B:Nat} (ks:List Nat) (h:∀k,k∈ks→(f k).length+1≤B*g k):sumL (ks.map f)≤B*(ks.map g).sum:=by
 induction ks with
 |nil=>simp[sumL]
 |cons k r ih=>
  have h1:=h k (by simp);have h2:=ih fun j hj=>h j (List.mem_cons_of_mem _ hj)
  have e:sumL ((k::r).map f)=(f k).length+1+sumL (r.map f):=by simp[sumL]
  rw[e,List.map_cons,List.sum_cons,Nat.mul_add];omega
theorem Qt8 {ds:List Dat} (hd:DOk ds) (ht:DTx ds):∀f x,x<ds.length→(QX ds f x).length+1≤20*(vis (fakC ds) f x).length:=by
 intro f
 induction f with
 |zero=>intro x _;simp[QX,vis]
 |succ f ih=>
  intro x hx;have hp:=Qs0 (fakC ds) (f+1) x;have hv:=Qlj (fakC ds) f x;rw[Qnm] at hv;obtain ⟨t1,t2,t3⟩:=ht x hx;rw[QX];split
  ·rename_i c;have:=Um (t1 c).1 (t1 c).2;omega
  split
  ·unfold QgF;split<;>simp<;>omega
  split
  ·rename_i c;have:=t3 c;rw[Qfd] at this;omega
  ·have h1:=Qns ((Qe ds x).map (QX ds f));have h2:=Qse (f:=QX ds f) (g:=fun k=>(vis (fakC ds) f k).length) (B:=20) (Qe ds x) fun k hk=>ih k (hd.kid hk).2
   change _≤20*visK (fakC ds) f (Qe ds x) at h2;rw[hv];simp only[List.length_cons,List.length_append,List.length_nil];omega
theorem QgG {ds:List Dat} (hd:DOk ds) (ht:DTx ds) (f x:Nat) (hx:x<ds.length):(QX ds f x).length≤3200:=by
 have h1:=Qt8 hd ht f x hx;have h2:=QkR hd.fak f x (by rw[Qa3];exact hx);omega
end
end
section
set_option maxRecDepth 100000
def kwL:List (List UInt8):=[[99,111,110,115,116],[108,111,99,97,108],[103,108,111,98,97,108],[99,108,111,115,117,114,101],[106,117,109,112],[105,102,110,111,116],[112,111,112],[115,101,116],[100,101,102],[99,97,108,108],[116,97,105,108],[114,101,116,117,114,110],[99,111,110,115,116,114,101,116],[108,111,99,97,108,114,101,116],[108,111,99,97,108,115],[108,111,99,97,108,105,102,110,111,116]]
def hdO (o:OpD):List (List UInt8):=kwL.getD (o.kind - 1).toNat []::(if JN o.kind then [by8 o.name] else if Uh o.kind then [QX o.data o.data.length 0] else [])
def Qvs (o:OpD):List (List UInt8):=hdO o++((opL o).take (QJ o.kind)).map Lib.itoa
def txtO (o:OpD):List UInt8:=Lib.join (Qvs o) [32]
def Qek (k:Nat) (o:OpD):List UInt8:=Lib.itoa (k:Int)++([58,32]++(txtO o++[10]))
def Jn (i:Nat) (a:Int):List UInt8:=[98,108,111,99,107,32]++(Lib.itoa (i:Int)++([32]++(Lib.itoa a++[10])))
def opsT (os:List OpD) (k:Nat):List UInt8:=((List.range k).map fun j=>Qek j (os.getD j default)).flatten
def blkT (i:Nat) (b:Blk):List UInt8:=Jn i b.args++opsT b.ops b.ops.length
def QE (bs:List Blk) (n:Nat):List UInt8:=((List.range n).map fun i=>blkT i (bs.getD i default)).flatten
def btxt (bs:List Blk):Int × List UInt8:=if opsF bs≠0 then (opsF bs,[]) else if 6000<(QE bs bs.length).length then (2,[]) else (0,QE bs bs.length)
theorem QgH (os:List OpD) (k:Nat):opsT os (k+1)=opsT os k++Qek k (os.getD k default):=by
 unfold opsT;rw[List.range_succ,List.map_append,List.flatten_append];simp
theorem QcC (bs:List Blk) (i:Nat):QE bs (i+1)=QE bs i++blkT i (bs.getD i default):=by
 unfold QE;rw[List.range_succ,List.map_append,List.flatten_append];simp
theorem QAj (os:List OpD) {k n:Nat} (h:k≤n):(opsT os k).length≤(opsT os n).length:=by
 induction n with
 |zero=>
   obtain rfl:k=0:=by omega
   exact Nat.le_refl _
 |succ n ih=>
   rcases Nat.lt_or_ge n k with c|c
   · obtain rfl:k=n+1:=by omega
     exact Nat.le_refl _
   · have:=ih c
     rw[QgH,List.length_append];omega
theorem Qnu (bs:List Blk) {k n:Nat} (h:k≤n):(QE bs k).length≤(QE bs n).length:=by
 induction n with
 |zero=>
   obtain rfl:k=0:=by omega
   exact Nat.le_refl _
 |succ n ih=>
   rcases Nat.lt_or_ge n k with c|c
   · obtain rfl:k=n+1:=by omega
     exact Nat.le_refl _
   · have:=ih c
     rw[QcC,List.length_append];omega
theorem QpO (bs:List Blk) {i n k:Nat} (hi:i<n) (hk:k≤(bs.getD i default).ops.length):(QE bs i++(Jn i (bs.getD i default).args++opsT (bs.getD i default).ops k)).length≤(QE bs n).length:=by
 have h1:=Qnu bs (show i+1≤n from hi);have h2:=QAj (bs.getD i default).ops hk;rw[QcC] at h1;unfold blkT at h1;simp only[List.length_append] at h1 ⊢;omega
section
variable [L:Lam]
theorem Qnv {b:Blk} (h:blkF b=0):(0≤b.args∧b.args≤3)∧b.ops.length≤200∧∀j,j<b.ops.length→opF (b.ops.getD j default)=0:=by
 unfold blkF at h;split at h
 ·cases h
 rename_i c;split at h
 ·cases h
 rename_i c2;have c:inB 0 3 b.args=true:=by simpa using c
 have:=Js.1 c;exact ⟨by omega,by omega,fun j hj=>Qbt _ _ h j (Nat.zero_le _) (by omega)⟩
theorem Qdz {bs:List Blk} (h:opsF bs=0):bs.length≤60∧∀j,j<bs.length→blkF (bs.getD j default)=0:=by
 unfold opsF at h;split at h
 ·cases h
 exact ⟨by omega,fun j hj=>Qbt _ _ h j (Nat.zero_le _) (by omega)⟩
structure OTx (o:OpD):Prop where
 kind:1≤o.kind∧o.kind≤16
 num:∀n,n∈opL o→0≤n∧n≤999
 name:JN o.kind=true→o.name.size≤12
 data:Uh o.kind=true→JM o.data=0
theorem QoU {k:Int} (h:JN k=true):Uh k=false:=by
 unfold JN at h;unfold Uh;simp only[Bool.or_eq_true,decide_eq_true_iff] at h;rcases h with (rfl|rfl)|rfl<;>rfl
theorem OTx.of {o:OpD} (h:opF o=0):OTx o:=by
 unfold opF at h;split at h
 ·cases h
 rename_i c1;split at h
 ·cases h
 rename_i c2;unfold opF1 at c1;unfold opF2 at c2;simp only[Bool.or_eq_true,not_or,Bool.not_eq_true] at c1 c2;obtain ⟨⟨⟨k1, -⟩, -⟩, -⟩:=c1;have k1:inB 1 16 o.kind=true:=by simpa using k1
 refine ⟨Js.1 k1,fun n hn=>?_,fun k=>?_,fun k=>?_⟩
 ·have:=List.any_eq_false.1 c2.1 n hn;exact Js.1 (by simpa using this)
 ·rw[if_pos k] at h;split at h
  ·rename_i c;exact Qsd c
  ·cases h
 ·rw[if_neg (fun c=>by rw[QoU c] at k;cases k),if_pos k] at h;exact h
theorem Qvt (k:Nat):(kwL.getD k []).length≤10:=by
 have h:∀w,w∈kwL→w.length≤10:=by decide
 simp only[List.getD];cases e:kwL[k]? with
 |none=>simp
 |some w=>exact h w (List.mem_of_getElem? e)
theorem Qvu {l:List Int} (h:∀n,n∈l→0≤n∧n≤999):sumL (l.map Lib.itoa)≤12*l.length:=by
 induction l with
 |nil=>simp[sumL]
 |cons x r ih=>
  have h1:=ih fun n hn=>h n (List.mem_cons_of_mem _ hn)
  have h2:=h x (by simp);have h3:=Um (v:=x) (by omega) (by omega);have e:sumL ((x::r).map Lib.itoa)=(Lib.itoa x).length+1+sumL (r.map Lib.itoa):=by simp[sumL]
  rw[e,List.length_cons];omega
theorem OTx.nums {o:OpD} (h:OTx o):∀n,n∈(opL o).take (QJ o.kind)→0≤n∧n≤999:=fun n hn=>h.num n (List.mem_of_mem_take hn)
theorem QAk {o:OpD} (h:OTx o):sumL (hdO o)≤3212:=by
 have h2:=Qvt (o.kind - 1).toNat;have h5:sumL (if JN o.kind then [by8 o.name] else if Uh o.kind then [QX o.data o.data.length 0] else [])≤3201:=by
  split
  ·rename_i c;have:=h.name c;have e:o.name.size=(by8 o.name).length:=Qfd ..;simp[sumL];omega
  split
  ·rename_i c;have hd:=h.data c;have:=QgG (DOk.of hd) (DTx.of hd) o.data.length 0 (by have:=(DOk.of hd).len;omega);simp[sumL];omega
  ·simp[sumL]
 have e:∀(x:List UInt8) r,sumL (x::r)=x.length+1+sumL r:=fun x r=>by simp[sumL]
 unfold hdO;rw[e];omega
theorem Qqu {o:OpD} (h:OTx o) (j:Nat):(Lib.join (hdO o++((opL o).take j).map Lib.itoa) [32]).length≤3300:=by
 have h1:=Qns (hdO o++((opL o).take j).map Lib.itoa);have h2:=QAk h;have h3:=Qvu (l:=(opL o).take j) fun n hn=>h.num n (List.mem_of_mem_take hn)
 have h4:((opL o).take j).length≤4:=by rw[List.length_take,Qlh];omega
 rw[QiS] at h1;omega
theorem QiT {o:OpD} (h:OTx o):(txtO o).length≤3300:=Qqu h _
theorem Qqv {o:OpD} (h:OTx o) {k:Nat} (hk:k≤200):(Qek k o).length≤3400:=by
 have h1:=QiT h;have h2:=Um (v:=(k:Int)) (by omega) (by omega);unfold Qek;simp only[List.length_append,List.length_cons,List.length_nil];omega
theorem Qqw {i:Nat} {a:Int} (hi:i≤60) (h0:0≤a) (h1:a≤3):(Jn i a).length≤40:=by
 have h2:=Um (v:=(i:Int)) (by omega) (by omega);have h3:=Um (v:=a) (by omega) (by omega);unfold Jn;simp only[List.length_append,List.length_cons,List.length_nil];omega
theorem QAl {os:List OpD} (h:∀j,j<os.length→opF (os.getD j default)=0) (hl:os.length≤200):∀k,k≤os.length→(opsT os k).length≤3400*k:=by
 intro k
 induction k with
 |zero=>intro _;simp[opsT]
 |succ k ih=>
  intro hk;have h1:=ih (by omega);have h2:=Qqv (.of (h k hk)) (k:=k) (by omega);rw[QgH,List.length_append];omega
theorem Qxi {bs:List Blk} (h:opsF bs=0):∀k,k≤bs.length→(QE bs k).length≤700000*k:=by
 obtain ⟨hl,hb⟩:=Qdz h;intro k
 induction k with
 |zero=>intro _;simp[QE]
 |succ k ih=>
  intro hk;have h1:=ih (by omega);obtain ⟨ha,ho,hop⟩:=Qnv (hb k hk);have h2:=QAl hop ho _ (Nat.le_refl _);have h3:=Qqw (i:=k) (by omega) ha.1 ha.2;rw[QcC,List.length_append];unfold blkT;rw[List.length_append];omega
theorem Qk6 {bs:List Blk} (h:opsF bs=0):(QE bs bs.length).length≤50000000:=by
 have:=Qxi h bs.length (Nat.le_refl _);have:=(Qdz h).1;omega
end
end
section
open Go Go.Proofs
open Go.Shelf
def QsF:Go.Shelf.Ren:=⟨fun|170=>29|n=>n,fun|70=>58|3=>3|0=>0|72=>61|37=>59|5=>5|n=>n,fun|n=>n⟩
theorem QAm:Go.Proofs.Lays.n170 Tryz.prog QsF:={
 mixed:=by kernel_rfl
 f170:=Tryz.func29.trans (congrArg some (by kernel_rfl))
 t0:=Tryz.underlying0
 a0:=Tryz.isAgg0
 z0:=Tryz.sizeOf0
 v0:=Tryz.zeroValue0
 t3:=Tryz.underlying3
 a3:=Tryz.isAgg3
 z3:=Tryz.sizeOf3
 v3:=Tryz.zeroValue3
 t37:=Tryz.underlying59
 a37:=Tryz.isAgg59
 z37:=Tryz.sizeOf59
 v37:=Tryz.zeroValue59
 t70:=Tryz.underlying58
 a70:=Tryz.isAgg58
 z70:=Tryz.sizeOf58
 v70:=Tryz.zeroValue58
 t72:=Tryz.underlying61
 a72:=Tryz.isAgg61
 z72:=Tryz.sizeOf61
 v72:=Tryz.zeroValue61}
def Qmo:Go.Shelf.Ren:=⟨fun|169=>30|n=>n,fun|70=>58|9=>9|0=>0|72=>61|37=>59|127=>89|3=>3|5=>5|n=>n,fun|n=>n⟩
theorem QAn:Go.Proofs.Lays.n169 Tryz.prog Qmo:={
 mixed:=by kernel_rfl
 f169:=Tryz.func30.trans (congrArg some (by kernel_rfl))
 t0:=Tryz.underlying0
 a0:=Tryz.isAgg0
 z0:=Tryz.sizeOf0
 v0:=Tryz.zeroValue0
 t3:=Tryz.underlying3
 a3:=Tryz.isAgg3
 z3:=Tryz.sizeOf3
 v3:=Tryz.zeroValue3
 t9:=Tryz.underlying9
 a9:=Tryz.isAgg9
 z9:=Tryz.sizeOf9
 v9:=Tryz.zeroValue9
 t37:=Tryz.underlying59
 a37:=Tryz.isAgg59
 z37:=Tryz.sizeOf59
 v37:=Tryz.zeroValue59
 t70:=Tryz.underlying58
 a70:=Tryz.isAgg58
 z70:=Tryz.sizeOf58
 v70:=Tryz.zeroValue58
 t72:=Tryz.underlying61
 a72:=Tryz.isAgg61
 z72:=Tryz.sizeOf61
 v72:=Tryz.zeroValue61
 t127:=Tryz.underlying89
 a127:=Tryz.isAgg89
 z127:=Tryz.sizeOf89
 v127:=Tryz.zeroValue89}
theorem QiU:Builder.Extra Tryz.prog Qmo:={
 sizeBuilder:=by kernel_rfl
 liesBuilder:=by kernel_rfl
 t5:=Tryz.underlying5
 a5:=Tryz.isAgg5
 z5:=Tryz.sizeOf5
 v5:=Tryz.zeroValue5
 infoByte:=by kernel_rfl
 cellsByte:=by kernel_rfl
 sizeByte:=by kernel_rfl
 neB5:=by decide}
def Qmp:Go.Shelf.Ren:=⟨fun|156=>53|165=>78|166=>26|169=>30|240=>47|241=>108|276=>74|277=>142|n=>n,fun|31=>79|9=>9|3=>3|4=>4|0=>0|20=>20|72=>61|76=>64|70=>58|37=>59|75=>63|127=>89|164=>108|5=>5|80=>66|n=>n,fun|n=>n⟩
theorem QpP:Go.Proofs.Lays.n156 Tryz.prog Qmp:={
 mixed:=by kernel_rfl
 f156:=Tryz.func53.trans (congrArg some (by kernel_rfl))
 f165:=Tryz.func78.trans (congrArg some (by kernel_rfl))
 f166:=Tryz.func26.trans (congrArg some (by kernel_rfl))
 f169:=Tryz.func30.trans (congrArg some (by kernel_rfl))
 f240:=Tryz.func47.trans (congrArg some (by kernel_rfl))
 f241:=Tryz.func108.trans (congrArg some (by kernel_rfl))
 f276:=Tryz.func74.trans (congrArg some (by kernel_rfl))
 f277:=Tryz.func142.trans (congrArg some (by kernel_rfl))
 t0:=Tryz.underlying0
 a0:=Tryz.isAgg0
 z0:=Tryz.sizeOf0
 v0:=Tryz.zeroValue0
 t3:=Tryz.underlying3
 a3:=Tryz.isAgg3
 z3:=Tryz.sizeOf3
 v3:=Tryz.zeroValue3
 t4:=Tryz.underlying4
 a4:=Tryz.isAgg4
 z4:=Tryz.sizeOf4
 v4:=Tryz.zeroValue4
 t9:=Tryz.underlying9
 a9:=Tryz.isAgg9
 z9:=Tryz.sizeOf9
 v9:=Tryz.zeroValue9
 t20:=Tryz.underlying20
 a20:=Tryz.isAgg20
 z20:=Tryz.sizeOf20
 v20:=Tryz.zeroValue20
 t31:=Tryz.underlying79
 a31:=Tryz.isAgg79
 z31:=Tryz.sizeOf79
 v31:=Tryz.zeroValue79
 t37:=Tryz.underlying59
 a37:=Tryz.isAgg59
 z37:=Tryz.sizeOf59
 v37:=Tryz.zeroValue59
 t70:=Tryz.underlying58
 a70:=Tryz.isAgg58
 z70:=Tryz.sizeOf58
 v70:=Tryz.zeroValue58
 t72:=Tryz.underlying61
 a72:=Tryz.isAgg61
 z72:=Tryz.sizeOf61
 v72:=Tryz.zeroValue61
 t75:=Tryz.underlying63
 a75:=Tryz.isAgg63
 z75:=Tryz.sizeOf63
 v75:=Tryz.zeroValue63
 t76:=Tryz.underlying64
 a76:=Tryz.isAgg64
 z76:=Tryz.sizeOf64
 v76:=Tryz.zeroValue64
 t127:=Tryz.underlying89
 a127:=Tryz.isAgg89
 z127:=Tryz.sizeOf89
 v127:=Tryz.zeroValue89
 t164:=Tryz.underlying108
 a164:=Tryz.isAgg108
 z164:=Tryz.sizeOf108
 v164:=Tryz.zeroValue108}
theorem Qai:Builder.Extra Tryz.prog Qmp:={
 sizeBuilder:=by kernel_rfl
 liesBuilder:=by kernel_rfl
 t5:=Tryz.underlying5
 a5:=Tryz.isAgg5
 z5:=Tryz.sizeOf5
 v5:=Tryz.zeroValue5
 infoByte:=by kernel_rfl
 cellsByte:=by kernel_rfl
 sizeByte:=by kernel_rfl
 neB5:=by decide}
open Go.RowKit in
theorem QcD (a:Option Addr) (c:Nat) (sep:ByteArray) (w:World):
  Calls Tryz.prog 53 #[.slice a 0 c,.string sep] w fun e w'=>e= .returned (.string ⟨#[]⟩)∧w'=w:=Any.strings_Join_none QpP Qai a c sep w
open Go.RowKit in
theorem QoV (bk o c:Nat) (xs:List ByteArray) (sep:ByteArray) (w:World) (hcells:∀(j:Nat) x,xs[j]? =some x→w.cell? ⟨bk,o+j,none⟩=some (.string x)) (hbk:bk<w.heap.size) (hN:xs.length≤140737488355328) (hcap:xs.length≤c) (hlen:(Lib.join (xs.map (·.data.toList)) sep.data.toList).length≤140737488355328):
  Calls Tryz.prog 53 #[.slice (some ⟨bk,o,none⟩) xs.length c,.string sep] w fun e w'=>e= .returned (.string ⟨(Lib.join (xs.map (·.data.toList)) sep.data.toList).toArray⟩)∧Below w.heap.size w w':=Any.strings_Join QpP Qai bk o c xs sep w hcells hbk hN hcap hlen
open Go.RowKit in
theorem Qnw (B b:Nat) (bs:List Value) (w:World) (h:Lib.IsBuilderF 61 5 B b bs w):
  Calls Tryz.prog 29 #[.pointer (some ⟨b,0,none⟩)] w fun e w'=>e= .returned (.int .i64 bs.length)∧w'=w:=Any.Builder_Len_f QAm B b bs w h
open Go.RowKit in
theorem Qfx (B b:Nat) (l:List UInt8) (w:World) (h:Lib.IsBuilderF 61 5 B b (Lib.byteCells l) w) (hBw:B≤w.heap.size):
  Calls Tryz.prog 30 #[.pointer (some ⟨b,0,none⟩)] w fun e w'=>e= .returned (.string ⟨l.toArray⟩)∧(Lib.IsBuilderF 61 5 B b (Lib.byteCells l) w'∧Below B w w'):=Any.Builder_String_any_f QAn QiU B b l w h hBw
theorem Qfo (B b:Nat) (bs:List Value) (s:ByteArray) (w:World) (h:Lib.IsBuilderF 61 5 B b bs w) (hlen:bs.length+s.size≤140737488355328) (hBw:B≤w.heap.size):
  Calls Tryz.prog 26 #[.pointer (some ⟨b,0,none⟩),.string s] w fun e w'=>e= .returned (.tuple #[.int .i64 s.size,.nilIface])∧(Lib.BuilderAtF 61 5 B b (.pointer (some ⟨b,0,none⟩)) (bs++Lib.strCells s) w'∧Go.RowKit.Below B w w'∧Lib.OthersKept 5 (some b) w w'):=Any.Builder_WriteString_k {QpP with} Qai B b bs s w h hlen hBw
end
section
set_option maxRecDepth 100000
variable [L:Lam] {σ τ τ':AH} {R:AEnd→AH→Prop}
theorem QAo {κ:Kap} {w:World} {xs:List ByteArray} {v:Value} (hr:Rel κ σ w) (hv:VR κ (roS xs) v):(∃b off cap,v= .slice (some ⟨b,off,none⟩) xs.length cap∧xs.length≤cap∧∀(j:Nat) x,xs[j]? =some x→w.cell? ⟨b,off+j,none⟩=some (.string x))∨(xs=[]∧∃a,v= .slice a 0 0):=by
 generalize ha:roS xs=a at hv;cases hv with
 |roEnd a0=>
  have:xs.map (fun s=>[str s])=[]:=by injection ha
  exact .inr ⟨by simpa using this,a0,rfl⟩
 |@ro es b off cap sz vals hc hz hm hv=>
  have he:xs.map (fun s=>[str s])=es:=by injection ha
  subst he;left;refine ⟨b,off,cap,by simp,by simpa using hc,fun j x hx=>?_⟩;have hj:j<xs.length:=(List.getElem?_eq_some_iff.1 hx).1;have hj':j<(xs.map fun s=>[str s]).length:=by simpa using hj
  have hg:(xs.map fun s=>[str s]).getD j []=[str x]:=by
   simp[List.getD,hx]
  have hs:sz=1:=by have:=hz j hj';rw[hg] at this;exact this.symm
  subst hs;have h1:=hm j 0 hj' (by omega);have h2:=hv j 0 hj' (by omega);rw[hg] at h2;have e:vals j 0= .string x:=by
   have h3:VR κ (str x) (vals j 0):=h2;generalize vals j 0=y at h3;cases h3;rfl
  rw[e] at h1;have:=hr.mem _ _ _ h1
  rwa [show off+j*1+0=off+j by omega] at this
 |_=>cases ha
theorem Qib {xs:List ByteArray} (hl:xs.length≤1000000) (hj:(Lib.join (xs.map by8) [32]).length≤1000000000) (h:R (.ret (str (bs (Lib.join (xs.map by8) [32])))) σ):acall TP QfR [roS xs,str ⟨#[32]⟩] σ R:=by
 refine ⟨_,Tryz.func53,rfl,by decide,fun κ w vs hr hv=>?_⟩;obtain ⟨v,z,rfl⟩:∃v z,vs=[v,z]:=by
  have:=hv.1;match vs,this with
  |[a,b],_=>exact ⟨a,b,rfl⟩
 have e2:z= .string ⟨#[32]⟩:=by have h:VR κ (str ⟨#[32]⟩) z:=hv.2 1 (by simp);cases h;rfl
 subst e2;have hx:VR κ (roS xs) v:=hv.2 0 (by simp);have eb:Lib.join (xs.map (·.data.toList)) (⟨#[32]⟩:ByteArray).data.toList=Lib.join (xs.map by8) [32]:=rfl
 rcases QAo hr hx with ⟨b,off,cap,rfl,hc,hm⟩|⟨rfl,a,rfl⟩
 ·by_cases hn:xs=[]
  ·subst hn;refine (QcD _ cap ⟨#[32]⟩ w).mono ?_;rintro e w' ⟨rfl,rfl⟩;exact ⟨κ,_,σ,h,.below hr (.refl _ _),.val _⟩
  ·have hp:0<xs.length:=List.length_pos_iff.2 hn;have h0:=hm 0 xs[0] (List.getElem?_eq_getElem hp);refine (QoV b off cap xs ⟨#[32]⟩ w hm (World.block_lt_of_cell? (h:=h0)) (by omega) hc (by rw[eb];omega)).mono ?_;rintro e w' ⟨rfl,hw⟩;exact ⟨κ,_,σ,h,.below hr hw,.val _⟩
 ·refine (QcD a 0 ⟨#[32]⟩ w).mono ?_;rintro e w' ⟨rfl,rfl⟩;exact ⟨κ,_,σ,h,.below hr (.refl _ _),.val _⟩
theorem QoW {n:Int} (h:R (.ret (str (bs (QgF n)))) σ):acall TP QeL [iv n] σ R:=by
 refine Qkg ?_;unfold x76;dsimp only[den,dE,di,List.map,den0,den1];unfold QgF at h;by_cases c:n=1
 ·rw[if_pos c] at h;simp only[c,RR];exact Qa h
 ·rw[if_neg c] at h;simp only[c,RR];exact Qa h
theorem cat1 {a b:List UInt8} (h:a.length+b.length≤1000000000):sbin .add (str (bs a)) (str (bs b))=some (str (bs (a++b))):=by
 have:=QiE (bs a) (bs b) (by rw[Qm,Qm];omega);rw[Qdr] at this;exact this
theorem QoX (c:Int) (u:ByteArray):bld [iv 0,str ⟨#[]⟩] [(0,1),(1,1)] [(0,iv c)]=some (.agg [iv c,str ⟨#[]⟩])∧bld [iv 0,str ⟨#[]⟩] [(0,1),(1,1)] [(1,str u)]=some (.agg [iv 0,str u]):=⟨rfl,rfl⟩
variable [K:Knows QP]
theorem QoY {n:Int} (h0: -9223372036854775808≤n) (h1:n≤9223372036854775807) (h:R (.ret (str (bs (Lib.itoa n)))) σ):acall TP Qsr [iv n] σ R:=by
 refine ⟨_,Tryz.func27,rfl,by decide,fun κ w vs hr hv=>?_⟩;obtain ⟨v,rfl⟩:∃v,vs=[v]:=by
  have:=hv.1;match vs,this with
  |[a],_=>exact ⟨a,rfl⟩
 have e1:v= .int .i64 n:=by have h:VR κ (iv n) v:=hv.2 0 (by simp);cases h;rfl
 subst e1;refine (Qq2 n h0 h1 w (QtP hr)).mono ?_;rintro e w' ⟨rfl,hw⟩;exact ⟨κ,_,σ,h,.below hr hw,.val _⟩
theorem Qlp (l:List (List UInt8)):(l.map bs).map by8=l:=by
 rw[List.map_map]
 conv=>rhs;rw[←List.map_id l]
 exact List.map_congr_left fun x _=>QBA x
theorem Qxj {u:AV} {ws:List (List UInt8)} (hB:Buf τ 1 u ((ws.map bs).map fun s=>[str s])) (hs:AH.Sub σ τ) (hf:∀ψ,ψ∈famL u→σ ψ=none) (hl:ws.length≤1000000) (hj:(Lib.join ws [32]).length≤900000000) (h:R (.ret (str (bs (40::(Lib.join ws [32]++[41]))))) σ):
   acall TP QfR [u,.val (.string ⟨#[32]⟩)] τ (onr (fun v46 σ=>
           og (sbin .add (.val (.string ⟨#[40]⟩)) v46) fun v47=>
           og (sbin .add v47 (.val (.string ⟨#[41]⟩))) fun v48=>
           aret v48 σ R) (fun v σ=>apan v σ R)):=by
 refine JI (args':=[roS (ws.map bs),str ⟨#[32]⟩]) hs rfl (fun i hi=>?_) ?_
 · match i,hi with
   |0,_=>exact Uq hB hf rfl (by intro c hc;obtain ⟨o,_,rfl⟩:=List.mem_map.1 hc;rfl) fun _ _ _ _=> .same _
   |1,_=>exact .same _
 refine Qib (by simpa using hl) (by rw[Qlp];omega) ?_;rw[Qlp];have a1:=cat1 (a:=[40]) (b:=Lib.join ws [32]) (by simp;omega);have a2:=cat1 (a:=[40]++Lib.join ws [32]) (b:=[41]) (by simp;omega);change sbin .add (.val (.string ⟨#[40]⟩)) _=_ at a1;change sbin .add _ (.val (.string ⟨#[41]⟩))=_ at a2;simp only[a1,a2,RR];exact Qa h
section
variable {ds:List Dat}
theorem QpQ (hd:DOk ds) (ht:DTx ds):∀f x,x<ds.length→ds.length≤f+x→∀{σ:AH} {R:AEnd→AH→Prop},R (.ret (str (bs (QX ds f x)))) σ→acall TP QfQ [roD ds,iv (x:Int)] σ R:=by
 intro f
 induction f with
 |zero=>intro x hx hf;omega
 |succ f ih=>
  intro x hx hfx σ R h;have hdl:=hd.len;have l0:∀τ,lod (.rop (Qc (dat ds x)) 0) τ=some (iv (dat ds x).kind):=fun _=>rfl
  have l2:∀τ,lod (.rop (Qc (dat ds x)) 2) τ=some (iv (dat ds x).num):=fun _=>rfl
  have l3:∀τ,lod (.rop (Qc (dat ds x)) 3) τ=some (str (dat ds x).name):=fun _=>rfl
  have hsm:=QgG hd ht (f+1) x hx;obtain ⟨t1,t2,t3⟩:=ht x hx;refine QlA ?_;unfold x51;dsimp only[den,dE,di,tupL,lTup,den2,den3,den4,List.map,den0,den1];simp only[Qq hx Ql,QZ hx,Qu (Ql _),RR];refine Ji rfl (Ql _) rfl (Q2 _) ?_;rw[QX] at h hsm;by_cases c1:(dat ds x).kind=1
  ·rw[if_pos c1] at h;simp only[l0,c1,l2,RR];have:=t1 c1;refine QoY (by omega) (by omega) ?_;simp only[RR];exact Qa h
  rw[if_neg c1] at h hsm;by_cases c2:(dat ds x).kind=2
  ·rw[if_pos c2] at h;have d1:¬(2:Int)=1:=by decide
   simp only[l0,c2,d1,l2,RR];refine QoW ?_;simp only[RR];exact Qa h
  rw[if_neg c2] at h hsm;by_cases c3:(dat ds x).kind=3
  ·rw[if_pos c3,Qfc] at h;have d1:¬(3:Int)=1:=by decide
   have d2:¬(3:Int)=2:=by decide
   simp only[l0,c3,d1,d2,l3,RR];exact Qa h
  rw[if_neg c3] at h hsm;simp only[l0,c1,c2,c3,RR];refine bsl0 ?_;refine QaR (by omega) ?_;simp only[lenK,RR];have hks:∀k,k∈Qe ds x→k<ds.length∧ds.length≤f+k:=fun k hk=>by have:=hd.kid hk;omega
  have hkl:=Qc0 (ds:=ds) x;generalize Qe ds x=ks at h hsm hks hkl ⊢;refine QF (fun n y τ=>∃(j:Nat) (u:AV),y=(roD ds,u,roK ks,iv (ks.length:Int),iv (j:Int),())∧Buf τ 1 u ((((ks.take j).map (QX ds f)).map bs).map fun s=>[str s])∧AH.Sub σ τ∧(∀ψ,ψ∈famL u→σ ψ=none)∧ks.length - j=n∧j≤ks.length) ks.length ⟨0,.emp,rfl,U2,.refl σ,(fun ψ c=>by cases c),rfl,by omega⟩ ?_;rintro n y τ ⟨j,u,rfl,hB,hs,hf,rfl,hj⟩ R' hR';by_cases c:j<ks.length
  ·have g:(j:Int)<(ks.length:Int):=by omega
   have hm:=hks _ (QD c);simp only[g,Q1 c,Qv,RR];refine ih _ hm.1 hm.2 ?_;simp only[RR];refine US (row:=[str (bs (QX ds f (ks.getD j 0)))]) hB aft1 (by omega) rfl QiN (by simp;omega) fun u' τ' hB' hK hfam=>?_
   simp only[Qh c (by omega),RR];refine hR' _ _ (ks.length - (j+1)) τ' (by omega) (.refl _) ⟨j+1,u',rfl,?_,hK.sub hs hf,(fun ψ hψ=>(hfam ψ hψ).elim (hf ψ) fun d=>hs.none d),rfl,c⟩;rw[Qnt _ c];simpa using hB'
  ·have g:¬(j:Int)<(ks.length:Int):=by omega
   obtain rfl:j=ks.length:=by omega
   rw[List.take_length] at hB;simp only[g,RR];refine Qxj hB hs hf (by simp;omega) ?_ h;simp only[List.length_cons,List.length_append,List.length_nil] at hsm;omega
end
section
variable {cs:List Cor}
end
end
end Go.Proofs.YtggnjjalfnhiiaaGreatDoor.E

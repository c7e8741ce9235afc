import Derived.Test.YtggnjjalfnhiiaaGreatDoorPG15
/- Tokens of a text: the reference's way, all of it. -/
set_option linter.unusedSectionVars false
set_option linter.unusedSimpArgs false
set_option linter.unusedVariables false
namespace Go.Proofs.YtggnjjalfnhiiaaGreatDoor.E
open Go Go.RowKit
section
set_option maxRecDepth 100000
theorem QwX {c:UInt8} {r:List UInt8} (h:skp false (c::r)=0):¬c.toNat=59∧¬c.toNat=32∧¬c.toNat=10:=by
 rw[skp] at h;refine ⟨fun c1=>?_,fun c1=>?_,fun c1=>?_⟩
 ·rw[if_pos c1] at h;omega
 ·rw[if_neg (by omega),if_pos (.inl c1)] at h;omega
 ·rw[if_neg (by omega),if_pos (.inr c1)] at h;omega
theorem Qr0:∀(l:List UInt8) (b:Bool),skp false (l.drop (skp b l))=0:=by
 intro l
 induction l with
 |nil=>intro b;cases b<;>rfl
 |cons c r ih=>
  intro b;cases b with
  |true=>
   rw[skp];split
   ·rw[List.drop_succ_cons];exact ih false
   ·rw[List.drop_succ_cons];exact ih true
  |false=>
   rw[skp];split
   ·rw[List.drop_succ_cons];exact ih true
   ·split
    ·rw[List.drop_succ_cons];exact ih false
    ·rename_i h1 h2;rw[List.drop_zero,skp,if_neg h1,if_neg h2]
theorem QBH (t:List UInt8) (q:Nat):skp false (t.drop (q+skp false (t.drop q)))=0:=by
 rw[←List.drop_drop];exact Qr0 _ _
variable [L:Lam] {σ τ:AH} {R:AEnd→AH→Prop}
theorem Qr1 {l:List UInt8} {a b:Nat} (h1:a≤b) (h2:b≤l.length):slcStr (str (bs l)) (some (iv (a:Int))) (some (iv (b:Int)))=some (str (bs ((l.drop a).take (b - a)))):=by
 have e1:abd (some (iv (a:Int))) 0=some a:=Qb7 _ _;have e2:abd (some (iv (b:Int))) (bs l).size=some b:=Qb7 _ _;simp only[slcStr,e1,e2];rw[if_pos ⟨h1,by rw[Qm];exact h2⟩]
 congr 3
 apply ByteArray.ext
 rw[ByteArray.data_extract];simp[List.drop_take]
theorem Qu7 {x:Tok}:JD 3 [[iv 0,iv 0,str ⟨#[]⟩]] [(0,.agg (Qw x))]=some [Qw x]:=rfl
theorem Qov {a b:AV} (hs:AH.Sub σ τ) (h:R (.ret (.tup [.ro [],a,b])) σ):aret (.tup [.val (.slice none 0 0),a,b]) τ R:=by
 refine QW (a':= .tup [.ro [],a,b]) hs (.tup rfl fun j hj=>?_) h;match j,hj with
 |0,_=>exact .nil
 |1,_=>exact .same _
 |2,_=>exact .same _
theorem Qdv {φ n:Nat} {zs cs cs':List AV} (hφ:σ φ=none) (hz:zs.length=n) (hc:cs.length=n) (h1:∀x,x∈cs→x.one=true) (hl:cs.length=cs'.length) (hf:∀i,i<cs.length→Fz σ (σ.set φ ⟨0,n,[cs]⟩) (cs.getD i .any) (cs'.getD i .any)) (h:R (.ret (.agg cs')) σ):
  sto n (.ptr φ 0 0 0) (.agg cs) (σ.set φ ⟨0,n,[zs]⟩) fun σ=>og (lodA n (.ptr φ 0 0 0) σ) fun r=>aret r σ R:=by
 refine QH (es:=[zs]) (cs:=cs) (AH.set_same ..) (by simp) (by simpa using hz) rfl hc h1 ?_;simp only[List.set_cons_zero,AH.set_set];have e:=UG (σ:=σ.set φ ⟨0,n,[cs]⟩) (φ:=φ) (st:=0) (i:=0) (n:=n) (cs:=cs) (AH.set_same ..) rfl rfl hc;simp only[e,RR];exact QW (.set (.refl σ) _ hφ) (.agg hl hf) h
theorem Qow {t:List UInt8} (hl:t.length≤400) (h:R (.ret (.tup [roT (toks t (t.length+1) (skp false t) []).1,iv (toks t (t.length+1) (skp false t) []).2.1,iv ((toks t (t.length+1) (skp false t) []).2.2:Nat)])) σ):acall TP QeW [str (bs t)] σ R:=by
 refine Qkw ?_;unfold x174;dsimp only[den,dE,di,tupL,lTup,den2,den3,den4,List.map,den0,den1,Option.map];refine bsl0 ?_;refine QjA (p:=0) (Nat.zero_le _) (by omega) ?_;simp only[RR,List.drop_zero];generalize hE:toks t (t.length+1) (skp false t) []=E at h;refine QF (fun f x τ=>∃(p:Nat) (ts:List Tok) (u:AV),x=(str (bs t),u,iv (p:Int),())∧Buf τ 3 u (ts.map Qw)∧AH.Sub σ τ∧(∀ψ,ψ∈famL u→σ ψ=none)∧toks t f p ts=E∧ts.length≤120∧p≤t.length∧t.length+1≤f+p∧skp false (t.drop p)=0) (t.length+1)
  ⟨skp false t,[],.emp,rfl,.inl ⟨.inr rfl,rfl⟩,.refl σ,(fun ψ c=>by cases c),hE,by simp,Qu5 t false,by omega,Qr0 t false⟩ ?_
 rintro f x τ ⟨p,ts,u,rfl,hB,hs,hf,he,hn,hp,hfp,hz⟩ R' hR';simp only[Qm,RR];obtain ⟨f,rfl⟩:∃g,f=g+1:=⟨f - 1,by omega⟩;by_cases c:p<t.length
 ·have g:(p:Int)<(t.length:Int):=by omega
  have dc:=List.drop_eq_getElem_cons c;rw[toks,dc] at he;dsimp only at he;rw[dc] at hz;obtain ⟨z1,z2,z3⟩:=QwX hz;simp only[g,Q6 c,RR];refine Qjz ?_;simp only[(bldT (Je t[p]) 0 ⟨#[]⟩).2.1,Qh c (show t.length≤9223372036854775807 by omega),RR];intro φ hφ;refine QH (es:=[[iv 0,iv 0,str ⟨#[]⟩]]) (cs:=Qw ⟨Je t[p],0,⟨#[]⟩⟩) (AH.set_same ..) (by simp) rfl rfl rfl (Q8 _) ?_;simp only[List.set_cons_zero,AH.set_set];refine J3 (P:=fun x τ'=>∃(q:Nat) (tk:Tok),x=(str (bs t),u,iv (q:Int),iv (p:Int),.ptr φ 0 0 0,())∧τ'=τ.set φ ⟨0,3,[Qw tk]⟩∧(120≤ts.length→E=([],2,p))∧(ts.length<120→toks t f (q+skp false (t.drop q)) (ts++[tk])=E)∧q≤t.length∧p<q) ?_ ?_
  ·rintro x τ' ⟨q,tk,rfl,rfl,h1,h2,h3,h4⟩;refine QK hφ rfl ?_;have hlen:lenS u=some (iv (ts.length:Int)):=by have:=Jj hB;simpa using this
   simp only[hlen,RR];by_cases cm:120≤ts.length
   ·have gm:(120:Int)≤(ts.length:Int):=by omega
    simp only[gm,RR];rw[h1 cm] at h;exact Qov hs h
   ·have gm:¬(120:Int)≤(ts.length:Int):=by omega
    simp only[gm,Qu (Qa1 tk),RR];refine Qtb (row:=Qw tk) hB Qu7 (by omega) rfl (Q8 tk) (by simp;omega) fun u' τ2 hB' hK hfam=>?_
    refine QjA h3 (by omega) ?_;simp only[RR];have hsk:=Qu5 (t.drop q) false;rw[List.length_drop] at hsk;refine hR' _ _ f τ2 (by omega) (.refl _) ⟨q+skp false (t.drop q),ts++[tk],u',rfl,by simpa using hB',hK.sub hs hf,fun ψ hψ=>(hfam ψ hψ).elim (hf ψ) fun d=>hs.none d,h2 (by omega),by simp;omega,by omega,by omega,QBH t q⟩
  ·intro k hk;have hF:(τ.set φ ⟨0,3,[Qw ⟨Je t[p],0,⟨#[]⟩⟩]⟩) φ=some ⟨0,3,[Qw ⟨Je t[p],0,⟨#[]⟩⟩]⟩:=AH.set_same ..;have el:=Qz (st:=0) (i:=0) (off:=0) (c:=iv (Je t[p])) hF rfl rfl;simp only[el,RR];by_cases cm:Je t[p]=0
   ·rw[if_neg (by simp[cm])] at he;simp only[cm,RR];refine QrZ hp (by omega) ?_;rw[dc];have hw:=Qu6 (t[p]::t.drop (p+1));have hw1:1≤wrd (t[p]::t.drop (p+1)):=by rw[QrX z2 z3 z1 cm];omega
    have hlc:(t[p]::t.drop (p+1)).length=t.length - p:=by rw[←dc,List.length_drop]
    generalize hW:wrd (t[p]::t.drop (p+1))=W at*;simp only[RR];rw[Qr1 (a:=p) (b:=p+W) (by omega) (by omega),show p+W - p=W by omega,dc];simp only[RR];refine QqR (by rw[List.length_take];omega) ?_;generalize Qag ((t[p]::t.drop (p+1)).take W)=wt at*;have e0:aext (.tup [.agg (Qw wt.1),bv wt.2]) 0=some (.agg (Qw wt.1)):=rfl;have e1:aext (.tup [.agg (Qw wt.1),bv wt.2]) 1=some (bv wt.2):=rfl;simp only[e0,e1,RR];intro φ9 h9;refine QH (es:=[[iv 0,iv 0,str ⟨#[]⟩]]) (cs:=Qw wt.1) (AH.set_same ..) (by simp) rfl rfl rfl (Q8 _) ?_;simp only[List.set_cons_zero,AH.set_set];refine QK h9 rfl ?_;cases hw2:wt.2 with
    |false=>
     rw[if_pos hw2] at he;rw[←he] at h;simp only[RR];exact Qov (.set hs _ (hs.none hφ)) h
    |true=>
     rw[if_neg (by rw[hw2];simp)] at he;simp only[Qu (Qa1 wt.1),RR];refine QH (es:=[Qw ⟨0,0,⟨#[]⟩⟩]) (cs:=Qw wt.1) (by rw[AH.set_same]) (by simp) rfl rfl rfl (Q8 _) ?_;simp only[List.set_cons_zero,AH.set_set];refine hk _ _ ⟨p+W,wt.1,rfl,rfl,fun c2=>?_,fun c2=>?_,by omega,by omega⟩
     ·rw[if_pos c2] at he;exact he.symm
     ·rw[if_neg (by omega)] at he;exact he
   ·rw[if_pos (by simpa using cm)] at he;simp only[cm,RR];refine hk _ _ ⟨p+1,⟨Je t[p],0,⟨#[]⟩⟩,rfl,rfl,fun c2=>?_,fun c2=>?_,by omega,by omega⟩
    ·rw[if_pos c2] at he;exact he.symm
    ·rw[if_neg (by omega)] at he;exact he
 ·have g:¬(p:Int)<(t.length:Int):=by omega
  obtain rfl:p=t.length:=by omega
  rw[toks,List.drop_length] at he;dsimp only at he;rw[←he] at h;simp only[g,RR];refine QW (a':= .tup [roT ts,iv 0,iv 0]) hs (.tup rfl fun j hj=>?_) h;match j,hj with
  |0,_=>exact Uq hB hf rfl (by intro c hc;obtain ⟨o,_,rfl⟩:=List.mem_map.1 hc;rfl) fun _ _ _ _=> .same _
  |1,_=>exact .same _
  |2,_=>exact .same _
theorem QB5 (c a:Int) (es:List (List AV)):bld [iv 0,iv 0,.val (.slice none 0 0)] [(0,1),(1,1),(2,1)] [(0,iv c),(1,iv a),(2,.ro es)]=some (.agg [iv c,iv a,.ro es]):=rfl
theorem Qox {t:List UInt8} (hl:t.length≤1048576) (h:R (.ret (.agg [iv (tokR t).2.1,iv ((tokR t).2.2:Nat),roT (tokR t).1])) σ):acall TP QeS [str (bs t)] σ R:=by
 refine Qkp ?_;unfold x144;dsimp only[den,dE,di,List.map,den0,den1];intro φ hφ;unfold tokR at h;simp only[Qm,RR];by_cases c:400<t.length
 ·have g:(400:Int)<(t.length:Int):=by omega
  rw[if_pos c] at h;have e:bld [iv 0,iv 0,.val (.slice none 0 0)] [(0,1),(1,1),(2,1)] [(0,iv 2)]=some (.agg [iv 2,iv 0,.val (.slice none 0 0)]):=rfl;simp only[g,e,RR];refine Qdv (cs':=[iv 2,iv 0,roT []]) hφ rfl rfl (by intro x hx;simp at hx;rcases hx with rfl|rfl|rfl<;>rfl) rfl (fun j hj=>?_) h;match j,hj with
  |0,_=>exact .same _
  |1,_=>exact .same _
  |2,_=>exact .nil
 ·have g:¬(400:Int)<(t.length:Int):=by omega
  rw[if_neg c] at h;simp only[g,RR];refine Qow (by omega) ?_;generalize toks t (t.length+1) (skp false t) []=E at h ⊢;have e0:aext (.tup [roT E.1,iv E.2.1,iv (E.2.2:Nat)]) 0=some (roT E.1):=rfl;have e1:aext (.tup [roT E.1,iv E.2.1,iv (E.2.2:Nat)]) 1=some (iv E.2.1):=rfl;have e2:aext (.tup [roT E.1,iv E.2.1,iv (E.2.2:Nat)]) 2=some (iv (E.2.2:Nat)):=rfl;simp only[e0,e1,e2,QB5,RR];exact J0 hφ rfl rfl (by intro x hx;simp at hx;rcases hx with rfl|rfl|rfl<;>rfl) h
end
section
set_option maxRecDepth 100000
abbrev Opn:=List (Nat × Bool)
abbrev Rds:=List Dat × Opn
def topP (o:Opn):Int:=match o.getLast? with
 |none=> -1
 |some p=>(p.1:Int)
def Uc (o:Opn):Opn:=(o.reverse.dropWhile fun p=>p.2).reverse
def Uw (s:Rds):Bool:=decide (80≤s.1.length)||decide (12≤s.2.length)
def datP (x:Dat) (o:Opn):Dat:={x with parent:=topP o}
def putR (x:Dat) (s:Rds):Rds × Int:=if Uw s then (s,2) else ((s.1++[datP x s.2],s.2),0)
def lisD:Dat:=⟨4,0,0,⟨#[]⟩⟩
def quoD:Dat:=⟨3,0,0,⟨#[113,117,111,116,101]⟩⟩
def opR (q:Bool) (s:Rds):Rds:=((putR lisD s).1.1,s.2++[(s.1.length,q)])
def Ju (q:Bool) (s:Rds):Rds × Int:=if Uw s then (s,2) else if q then putR quoD (opR q s) else (opR q s,0)
def Qdw (s:Rds):Rds × Int:=match s.2.getLast? with
 |none=>(s,1)
 |some p=>if p.2 then (s,1) else ((s.1,Uc s.2.dropLast),0)
def Qei (x:Dat) (s:Rds):Rds × Int:=if Uw s then (s,2) else ((s.1++[datP x s.2],Uc s.2),0)
def Jf (t:Tok) (s:Rds):Rds × Int:=
 if t.kind=1 then Ju false s
 else if t.kind=3 then Ju true s
 else if t.kind=2 then Qdw s
 else Qei ⟨t.kind - 3,0,t.num,t.name⟩ s
def UN:List Tok→Nat→Rds→List Dat × Int × Nat
 |[],i,s=>if s.1=[]∨s.2≠[] then ([],1,i) else (s.1,0,0)
 |t::r,i,s=>if 0<i∧s.2=[] then ([],1,i) else if (Jf t s).2≠0 then ([],(Jf t s).2,i) else UN r (i+1) (Jf t s).1
def Q3 (t:List UInt8):List Dat × Int × Nat:=if (tokR t).2.1≠0 then ([],(tokR t).2.1,(tokR t).2.2) else UN (tokR t).1 0 ([],[])
def SmR (s:Rds):Prop:=s.1.length≤81∧s.2.length≤13
theorem Qeo {s:Rds} (h:Uw s=false):s.1.length<80∧s.2.length<12:=by
 simp only[Uw,Bool.or_eq_false_iff,decide_eq_false_iff_not] at h;omega
theorem Qtc {x:Dat} {s:Rds} (h:s.1.length≤80∧s.2.length≤12):(putR x s).1.1.length≤80∧(putR x s).1.2.length≤12:=by
 unfold putR;split
 ·exact h
 ·rename_i c;have:=Qeo (by simpa using c);simp;omega
theorem Qqn (o:Opn):(Uc o).length≤o.length:=by
 unfold Uc;rw[List.length_reverse];exact Nat.le_trans (List.Sublist.length_le (List.dropWhile_sublist _)) (by simp)
theorem Qqo {t:Tok} {s:Rds} (h:s.1.length≤80∧s.2.length≤12):(Jf t s).1.1.length≤80∧(Jf t s).1.2.length≤12:=by
 have hb:∀q,(Ju q s).1.1.length≤80∧(Ju q s).1.2.length≤12:=by
  intro q;unfold Ju;split
  ·exact h
  ·rename_i c;have c:=Qeo (by simpa using c);have h2:(opR q s).1.length≤80∧(opR q s).2.length≤12:=by
    have:=Qtc (x:=lisD) h;simp only[opR,List.length_append,List.length_cons,List.length_nil];omega
   split
   ·exact Qtc h2
   ·exact h2
 unfold Jf;split
 ·exact hb _
 split
 ·exact hb _
 split
 ·unfold Qdw;split
  ·exact h
  ·split
   ·exact h
   ·refine ⟨h.1,Nat.le_trans (Qqn _) ?_⟩;simp;omega
 ·unfold Qei;split
  ·exact h
  ·rename_i c;have c:=Qeo (by simpa using c);have:=Qqn s.2;simp;omega
variable [L:Lam] {σ τ τ':AH} {R:AEnd→AH→Prop}
theorem Uy {n:Nat} (h:1≤n) (h2:n≤1000000):ibin .sub (iv (n:Int)) (iv 1)=some (iv ((n - 1:Nat):Int)):=by
 rw[QU (by omega) (by omega)]
 congr 3;omega
def fdR (s:Rds):List Fd:=[.lst 4 (s.1.map Qc),.lst 1 (s.2.map fun p=>[iv (p.1:Int)]),.lst 1 (s.2.map fun p=>[bv p.2])]
theorem QkX {X:Type} {c:X→AV} {v:AV} {o:List X} (h:Bfj τ 1 v (o.map fun p=>[c p])) {p:X} (hp:o.getLast? =some p):∃φ st,idx 1 v (iv ((o.length - 1:Nat):Int)) τ=some (.ptr φ st (o.length - 1) 0)∧lod (.ptr φ st (o.length - 1) 0) τ=some (c p):=by
 have hne:0<o.length:=by
  cases o with
  |nil=>cases hp
  |cons a r=>simp
 have hl:o.length - 1<(o.map fun p=>[c p]).length:=by rw[List.length_map];omega
 obtain ⟨φ,st,e1,e2⟩:=h.at hl;refine ⟨φ,st,e1,e2 0 _ ?_⟩;rw[List.getLast?_eq_getElem?] at hp;have hl2:o.length - 1<o.length:=by omega
 rw[List.getElem?_eq_getElem hl2] at hp;rw[List.getElem_map,Option.some.inj hp];rfl
theorem Jt {X:Type} {enc:X→List AV} {sz:Nat} {v:AV} {o:List X} (h:Bfj τ sz v (o.map enc)):lenS v=some (iv (o.length:Int)):=by rw[h.len,List.length_map]
section
variable {φm:Nat} {s:Rds}
theorem Qb9 {X:Type} {o:List X} (h:o≠[]):∃p,o.getLast? =some p:=⟨_,List.getLast?_eq_some_getLast h⟩
theorem Qfk {x:Dat} (h:MSt σ τ φm (fdR s)) (hn:SmR s) (h1:∀τ',MSt σ τ' φm (fdR (putR x s).1)→R (.ret (iv (putR x s).2)) τ'):acall TP Qi3 [.ptr φm 0 0 0,.agg (Qc x)] τ R:=by
 refine Qob ?_;unfold x213;dsimp only[den,dE,di,tupL,lTup,den2,den3,den4,dwat,Qf,List.map,den0,den1];rw[Qru];intro ψ hψ;have hs:AH.Sub τ (τ.set ψ ⟨0,4,[Qc x]⟩):= .set (.refl τ) _ hψ;have hg:=h.grow hs;obtain ⟨vd,e0,b0⟩:=h.lst (i:=0) rfl;obtain ⟨vo,e1,b1⟩:=h.lst (i:=1) rfl;have e0':=Jv hs e0;have e1':=Jv hs e1;have l0:=Jt b0;have l1:=Jt b1;have e4:(Qc x).length=4:=rfl;simp only[e4,e0',e1',l0,l1,RR];unfold putR at h1;have hr:Uw s=(decide (80≤s.1.length)||decide (12≤s.2.length)):=rfl;have bad:Uw s=true→aret (iv 2) (τ.set ψ ⟨0,4,[Qc x]⟩) R:=fun hb=>by
  rw[if_pos hb] at h1;exact Qa (h1 _ hg)
 by_cases c1:80≤s.1.length
 ·have g1:(80:Int)≤(s.1.length:Int):=by omega
  simp only[g1,RR];exact bad (by rw[hr];simp[c1])
 have g1:¬(80:Int)≤(s.1.length:Int):=by omega
 by_cases c2:12≤s.2.length
 ·have g2:(12:Int)≤(s.2.length:Int):=by omega
  simp only[g1,g2,e1',l1,RR];exact bad (by rw[hr];simp[c2])
 have g2:¬(12:Int)≤(s.2.length:Int):=by omega
 have hrf:Uw s=false:=by rw[hr];simp[c1,c2]
 rw[hrf] at h1;simp only[Bool.false_eq_true,if_false] at h1;simp only[g1,g2,e1',l1,RR];refine Q4 (es:=[Qc x]) (cs:=Qc x) (AH.set_same ..) rfl (by omega) rfl rfl ?_;rw[AH.set_set];have x1:∀a:Int,[Qc x].set 0 ((Qc x).set 1 (iv a))=[Qc {x with parent:=a}]:=fun a=>rfl
 refine J3 (P:=fun y τ'=>y=(.ptr φm 0 0 0,.ptr ψ 0 0 0,())∧τ'=τ.set ψ ⟨0,4,[Qc (datP x s.2)]⟩) ?_ ?_
 ·rintro y τ' ⟨rfl,rfl⟩;refine QK hψ rfl ?_;simp only[e0,Qu (Ql _),RR];rw[lit1 (sz:=4) (row:=Qc (datP x s.2)) rfl rfl (by omega)];simp only[RR];refine h.app (i:=0) rfl e0 (row:=Qc (datP x s.2)) rfl rfl (Q2 _) (by simp;omega) fun v' τ1 k1=>?_
  simp only[RR,true_and];refine k1 _ fun τ2 S2=>?_
  have ef:(fdR s).set 0 (.lst 4 (s.1.map Qc++[Qc (datP x s.2)]))=fdR (s.1++[datP x s.2],s.2):=by simp[fdR]
  rw[ef] at S2;exact Qa (h1 τ2 S2)
 ·intro k hk;have hs2:AH.Sub τ (τ.set ψ ⟨0,4,[Qc {x with parent:= -1}]⟩):= .set (.refl τ) _ hψ;rw[x1];by_cases c3:s.2=[]
  ·have g3:¬(0:Int)<(s.2.length:Int):=by rw[c3];simp
   have et:datP x s.2={x with parent:= -1}:=by rw[c3];rfl
   simp only[Jv hs2 e1,l1,g3,RR];exact hk _ _ ⟨rfl,by rw[et]⟩
  ·obtain ⟨p,hp⟩:=Qb9 c3;have hl1:1≤s.2.length:=List.length_pos_iff.2 c3;have g3:(0:Int)<(s.2.length:Int):=by omega
   obtain ⟨φt,st,t1,t2⟩:=QkX b1 hp;have t1':idx 1 vo (iv ((s.2.length - 1:Nat):Int)) (τ.set ψ ⟨0,4,[Qc {x with parent:= -1}]⟩)=some (.ptr φt st (s.2.length - 1) 0):=Qmt hs2 t1;simp only[Jv hs2 e1,l1,g3,Uy hl1 (by omega),t1',Jv hs2 t2,RR];refine Q4 (es:=[Qc {x with parent:= -1}]) (cs:=Qc {x with parent:= -1}) (AH.set_same ..) rfl (by omega) rfl rfl ?_;rw[AH.set_set];have et:datP x s.2={x with parent:=(p.1:Int)}:=by unfold datP topP;rw[hp]
   exact hk _ _ ⟨rfl,by rw[et];rfl⟩
end
end
section
set_option maxRecDepth 100000
theorem Qoy {o:Opn} {p:Nat × Bool} (h:o.getLast? =some p) (hp:p.2=true):Uc o=Uc o.dropLast:=by
 have hd:o=o.dropLast++[p]:=by
  have hne:o≠[]:=by rintro rfl;cases h
  have:=List.dropLast_concat_getLast hne;rw[List.getLast?_eq_some_getLast hne] at h;rw[←Option.some.inj h];exact this.symm
 conv=>lhs;rw[hd]
 unfold Uc;rw[List.reverse_append,List.reverse_singleton,List.singleton_append,List.dropWhile_cons,if_pos hp]
theorem Qoz {o:Opn} {p:Nat × Bool} (h:o.getLast? =some p) (hp:p.2=false):Uc o=o:=by
 have hne:o≠[]:=by rintro rfl;cases h
 have hd:o=o.dropLast++[p]:=by
  have:=List.dropLast_concat_getLast hne;rw[List.getLast?_eq_some_getLast hne] at h;rw[←Option.some.inj h];exact this.symm
 unfold Uc;rw[hd,List.reverse_append,List.reverse_singleton,List.singleton_append,List.dropWhile_cons,if_neg (by rw[hp];decide),List.reverse_cons,List.reverse_reverse]
variable [L:Lam] {σ τ τ':AH} {R:AEnd→AH→Prop}
theorem QbG {X Y:Type} (f:X→Y) (o:List X):(o.map f).take (o.length - 1)=o.dropLast.map f:=by
 rw[←List.map_take,List.dropLast_eq_take]
section
variable {φm:Nat} {s:Rds}
theorem Qr2 {s:Rds} (h:MSt σ τ φm (fdR s)) (hne:s.2≠[]) (hn:s.2.length≤13) {v1:AV} (e1:lod (.ptr φm 0 0 1) τ=some v1):
  ∃v1',slc 1 v1 none (some (iv ((s.2.length - 1:Nat):Int))) none τ=some v1'∧∀k:AH→Prop,(∀τ1 v2,MSt σ τ1 φm ((fdR s).set 1 (.lst 1 (s.2.dropLast.map fun p=>[iv (p.1:Int)])))→lod (.ptr φm 0 0 2) τ1=some v2→lenS v2=some (iv (s.2.length:Int))→
   (∃v2',slc 1 v2 none (some (iv ((s.2.length - 1:Nat):Int))) none τ1=some v2'∧∀k':AH→Prop,(∀τ2,MSt σ τ2 φm (fdR (s.1,s.2.dropLast))→k' τ2)→sto 1 (.ptr φm 0 0 2) v2' τ1 k')→k τ1)→sto 1 (.ptr φm 0 0 1) v1' τ k:=by
 obtain ⟨v1',c1,c2⟩:=h.cut (i:=1) (es:=s.2.map fun p=>[iv (p.1:Int)]) rfl e1 (by simpa using hne) (m:=s.2.length - 1) (by simp);refine ⟨v1',c1,fun k hk=>c2 k fun τ1 S1=>?_⟩;rw[QbG] at S1;obtain ⟨v2,g1,g2⟩:=S1.lst (i:=2) (sz:=1) (es:=s.2.map fun p=>[bv p.2]) rfl;refine hk τ1 v2 S1 g1 (Jt g2) ?_;obtain ⟨v2',d1,d2⟩:=S1.cut (i:=2) (es:=s.2.map fun p=>[bv p.2]) rfl g1 (by simpa using hne) (m:=s.2.length - 1) (by simp);refine ⟨v2',d1,fun k' hk'=>d2 k' fun τ2 S2=>?_⟩;rw[QbG] at S2;exact hk' τ2 S2
theorem Qh5 (h:MSt σ τ φm (fdR s)) (hn:SmR s) (h1:∀τ',MSt σ τ' φm (fdR (s.1,Uc s.2))→R (.ret (.tup [])) τ'):acall TP Qf2 [.ptr φm 0 0 0] τ R:=by
 refine QlP ?_;unfold x212;dsimp only[den,dE,di,tupL,lTup,den2,den3,den4,dwat,Qf,List.map,den0,den1,Option.map];refine QF (fun n x τ'=>∃o:Opn,x=(.ptr φm 0 0 0,())∧MSt σ τ' φm (fdR (s.1,o))∧o.length=n∧o.length≤13∧Uc o=Uc s.2) s.2.length ⟨s.2,rfl,h,rfl,hn.2,rfl⟩ ?_;rintro n x τ1 ⟨o,rfl,S,rfl,ho,e⟩ R' hR';obtain ⟨v1,e1,b1⟩:=S.lst (i:=1) (sz:=1) (es:=o.map fun p=>[iv (p.1:Int)]) rfl;obtain ⟨v2,e2,b2⟩:=S.lst (i:=2) (sz:=1) (es:=o.map fun p=>[bv p.2]) rfl;have l1:=Jt b1;have l2:=Jt b2;by_cases c:o=[]
 ·subst c;have g:¬(0:Int)<(([]:Opn).length:Int):=by simp
  simp only[e1,l1,g,RR];rw[←e] at h1;exact Qa (h1 τ1 S)
 ·obtain ⟨p,hp⟩:=Qb9 c;have hl1:1≤o.length:=List.length_pos_iff.2 c;have g:(0:Int)<(o.length:Int):=by omega
  obtain ⟨φt,st,t1,t2⟩:=QkX b2 hp;simp only[e1,l1,g,e2,l2,Uy hl1 (by omega),t1,t2,RR];cases hq:p.2 with
  |false=>
   rw[Qoz hp hq] at e;rw[←e] at h1;simp only[RR];exact Qa (h1 τ1 S)
  |true=>
   rw[Qoy hp hq] at e;obtain ⟨v1',k1,k2⟩:=Qr2 S c ho e1;simp only[e1,l1,Uy hl1 (by omega),k1,RR];refine k2 _ fun τ2 v2 S2 g1 g2 g3=>?_
   obtain ⟨v2',m1,m2⟩:=g3;simp only[g1,g2,Uy hl1 (by omega),m1,RR,true_and];refine m2 _ fun τ3 S3=>?_
   exact hR' _ _ o.dropLast.length τ3 (by simp;omega) (.refl _) ⟨o.dropLast,rfl,S3,rfl,by simp;omega,e⟩
theorem Qu8 {x:Dat} {s:Rds}:(putR x s).2=if Uw s then 2 else 0:=by unfold putR;split<;>rfl
theorem litI {i:Int}:bslR 1 [(iv 0)] 1 [(0,iv i)]=some (.ro [[iv i]]):=lit1 (sz:=1) (row:=[iv i]) rfl rfl (by omega)
theorem Qh6 {q:Bool} (h:MSt σ τ φm (fdR s)) (hn:s.1.length≤80∧s.2.length≤12) (h1:∀τ',MSt σ τ' φm (fdR (Ju q s).1)→R (.ret (iv (Ju q s).2)) τ'):acall TP Qf1 [.ptr φm 0 0 0,bv q] τ R:=by
 refine QlO ?_;unfold x211;dsimp only[den,dE,di,dwat,Qf,List.map,den0,den1];have eb:bld [(iv 0),(iv 0),(iv 0),(.val (.string ⟨#[]⟩))] [(0,1),(1,1),(2,1),(3,1)] [(0,(iv 4))]=some (.agg (Qc lisD)):=rfl;simp only[eb,RR];refine Qfk h ⟨by omega,by omega⟩ fun τ1 S1=>?_
 rw[Qu8];unfold Ju at h1;cases hr:Uw s with
 |true=>
  rw[hr] at h1;simp only[if_true] at h1;simp only[if_true,Int.reduceEq,RR];unfold putR at S1;rw[if_pos hr] at S1;exact Qa (h1 τ1 S1)
 |false=>
  rw[hr] at h1;simp only[Bool.false_eq_true,if_false] at h1;have hr2:=Qeo hr;have ep:(putR lisD s).1=(s.1++[datP lisD s.2],s.2):=by unfold putR;rw[if_neg (by rw[hr];decide)]
  rw[ep] at S1;obtain ⟨v0,e0,b0⟩:=S1.lst (i:=0) rfl;obtain ⟨v1,e1,b1⟩:=S1.lst (i:=1) rfl;have l0:=Jt b0;have hl:(s.1++[datP lisD s.2]).length=s.1.length+1:=by simp
  have es:ibin .sub (iv (((s.1++[datP lisD s.2]).length:Nat):Int)) (iv 1)=some (iv (s.1.length:Int)):=by
   rw[Uy (by omega) (by omega),hl];rfl
  simp only[Bool.false_eq_true,if_false,e0,e1,l0,es,litI,RR];refine S1.app (i:=1) rfl e1 (row:=[iv (s.1.length:Int)]) rfl rfl (fun y hy=>by obtain rfl:=List.mem_singleton.1 hy;rfl) (by simp;omega) fun v' τ2 k1=>?_
  simp only[RR,true_and];refine k1 _ fun τ3 S3=>?_
  obtain ⟨v2,e2,b2⟩:=S3.lst (i:=2) (sz:=1) (es:=s.2.map fun p=>[bv p.2]) rfl;simp only[e2,RR,true_and];refine bsl1 (row:=[bv q]) (by cases q<;>rfl) (by omega) fun ψ hψ=>?_
  have hs3:AH.Sub τ3 (τ3.set ψ ⟨0,1,[[bv q]]⟩):= .set (.refl _) _ hψ;have S3':=S3.grow hs3;refine S3'.app (i:=2) (sz:=1) (es:=s.2.map fun p=>[bv p.2]) rfl (Jv hs3 e2) (row:=[bv q]) ael1 rfl (fun y hy=>by obtain rfl:=List.mem_singleton.1 hy;rfl) (by simp;omega) fun v'' τ4 k2=>?_
  refine k2 _ fun τ5 S5=>?_
  have ef:((fdR (s.1++[datP lisD s.2],s.2)).set 1 (.lst 1 ((s.2.map fun p=>[iv (p.1:Int)])++[[iv (s.1.length:Int)]]))).set 2 (.lst 1 ((s.2.map fun p=>[bv p.2])++[[bv q]]))=fdR (opR q s):=by
   unfold opR;rw[ep];simp[fdR]
  rw[ef] at S5;cases q with
  |false=>
   simp only[RR];exact Qa (h1 τ5 S5)
  |true=>
   have eb2:bld [(iv 0),(iv 0),(iv 0),(.val (.string ⟨#[]⟩))] [(0,1),(1,1),(2,1),(3,1)] [(0,(iv 3)),(3,(.val (.string ⟨#[113,117,111,116,101]⟩)))]=some (.agg (Qc quoD)):=rfl;simp only[eb2,RR];simp only[if_true] at h1;refine Qfk S5 ?_ fun τ6 S6=>?_
   ·unfold opR SmR;rw[ep];simp;omega
   ·simp only[RR];exact Qa (h1 τ6 S6)
theorem Qr3 {t:Tok}:bld [(iv 0),(iv 0),(iv 0),(.val (.string ⟨#[]⟩))] [(0,1),(1,1),(2,1),(3,1)] [(0,iv (t.kind - 3)),(2,iv t.num),(3,str t.name)]=some (.agg (Qc ⟨t.kind - 3,0,t.num,t.name⟩)):=rfl
theorem QpI {t:Tok} (hk:1≤t.kind∧t.kind≤6) (h:MSt σ τ φm (fdR s)) (hn:s.1.length≤80∧s.2.length≤12) (h1:∀τ',MSt σ τ' φm (fdR (Jf t s).1)→R (.ret (iv (Jf t s).2)) τ'):acall TP Qcq [.ptr φm 0 0 0,.rop (Qw t) 0] τ R:=by
 refine QlN ?_;unfold x175;dsimp only[den,dE,di,dwat,Qf,List.map,den0,den1,Option.map];have l0:∀τ,lod (.rop (Qw t) 0) τ=some (iv t.kind):=fun _=>rfl
 have l1:∀τ,lod (.rop (Qw t) 1) τ=some (iv t.num):=fun _=>rfl
 have l2:∀τ,lod (.rop (Qw t) 2) τ=some (str t.name):=fun _=>rfl
 unfold Jf at h1;simp only[l0,RR];by_cases c1:t.kind=1
 ·rw[if_pos c1] at h1;simp only[c1,RR];refine Qh6 (q:=false) h hn fun τ1 S1=>?_
  simp only[RR];exact Qa (h1 τ1 S1)
 rw[if_neg c1] at h1;by_cases c3:t.kind=3
 ·rw[if_pos c3] at h1;simp only[c3,show ¬(3:Int)=1 by omega,RR];refine Qh6 (q:=true) h hn fun τ1 S1=>?_
  simp only[RR];exact Qa (h1 τ1 S1)
 rw[if_neg c3] at h1;by_cases c2:t.kind=2
 ·rw[if_pos c2] at h1;obtain ⟨v1,e1,b1⟩:=h.lst (i:=1) (sz:=1) (es:=s.2.map fun p=>[iv (p.1:Int)]) rfl;obtain ⟨v2,e2,b2⟩:=h.lst (i:=2) (sz:=1) (es:=s.2.map fun p=>[bv p.2]) rfl;have g1:=Jt b1;unfold Qdw at h1;by_cases c:s.2=[]
  ·have gl:((s.2.length:Nat):Int)=0:=by rw[c];rfl
   have hl:s.2.getLast? =none:=by rw[c];rfl
   rw[hl] at h1;simp only[c2,show ¬(2:Int)=1 by omega,show ¬(2:Int)=3 by omega,e1,g1,gl,RR];exact Qa (h1 τ h)
  ·obtain ⟨p,hp⟩:=Qb9 c;rw[hp] at h1;dsimp only at h1;have hl1:1≤s.2.length:=List.length_pos_iff.2 c;have gl:¬((s.2.length:Nat):Int)=0:=by omega
   obtain ⟨φt,st,t1,t2⟩:=QkX b2 hp;simp only[c2,show ¬(2:Int)=1 by omega,show ¬(2:Int)=3 by omega,e1,g1,gl,e2,Uy hl1 (by omega),t1,t2,RR];cases hq:p.2 with
   |true=>
    rw[hq] at h1;simp only[if_true] at h1;simp only[RR];exact Qa (h1 τ h)
   |false=>
    rw[hq] at h1;simp only[Bool.false_eq_true,if_false] at h1;obtain ⟨v1',k1,k2⟩:=Qr2 h c (by omega) e1;simp only[e1,k1,RR];refine k2 _ fun τ2 v3 S2 m1 m2 m3=>?_
    obtain ⟨v3',n1,n2⟩:=m3;simp only[m1,n1,RR];refine n2 _ fun τ3 S3=>?_
    refine Qh5 S3 ⟨by simp;omega,by simp;omega⟩ fun τ4 S4=>?_
    simp only[RR];exact Qa (h1 τ4 S4)
 rw[if_neg c2] at h1;have es:ibin .sub (iv t.kind) (iv 3)=some (iv (t.kind - 3)):=QU (by omega) (by omega);simp only[c1,c2,c3,l0,l1,l2,es,Qr3,RR];intro ψ hψ;simp only[true_and];refine QH (es:=[[iv 0,iv 0,iv 0,str ⟨#[]⟩]]) (cs:=Qc ⟨t.kind - 3,0,t.num,t.name⟩) (AH.set_same ..) (by simp) rfl rfl rfl (Q2 _) ?_;simp only[List.set_cons_zero,AH.set_set,true_and];refine QK hψ rfl ?_;simp only[Qu (Ql _),RR];refine Qfk h ⟨by omega,by omega⟩ fun τ1 S1=>?_
 rw[Qu8];unfold Qei at h1;unfold putR at S1;cases hr:Uw s with
 |true=>
  rw[hr] at h1 S1;simp only[if_true] at h1 S1;simp only[if_true,Int.reduceEq,RR];exact Qa (h1 τ1 S1)
 |false=>
  rw[hr] at h1 S1;have hr2:=Qeo hr;simp only[Bool.false_eq_true,if_false] at h1 S1;simp only[Bool.false_eq_true,if_false,Int.reduceEq,RR];refine Qh5 S1 ⟨by simp;omega,by simp;omega⟩ fun τ2 S2=>?_
  simp only[RR];exact Qa (h1 τ2 S2)
theorem QqS {ts:List Tok} (hk:∀t,t∈ts→1≤t.kind∧t.kind≤6) (hl:ts.length≤1000) (h:R (.ret (.tup [roD (UN ts 0 ([],[])).1,iv (UN ts 0 ([],[])).2.1,iv ((UN ts 0 ([],[])).2.2:Nat)])) σ):acall TP Qhk [roT ts] σ R:=by
 refine QmW ?_;unfold x145;dsimp only[den,dE,di,tupL,lTup,den2,den3,den4,List.map,den0,den1];have eb:bld [nilS,nilS,nilS] [(0,1),(1,1),(2,1)] []=some (.agg [nilS,nilS,nilS]):=rfl;simp only[eb,RR];intro φm hφ;refine QH (es:=[[nilS,nilS,nilS]]) (cs:=[nilS,nilS,nilS]) (AH.set_same ..) (by simp) rfl rfl rfl (by intro y hy;simp only[List.mem_cons,List.not_mem_nil,or_false] at hy;rcases hy with rfl|rfl|rfl<;>rfl) ?_;simp only[List.set_cons_zero,AH.set_set];have S0:MSt σ (σ.set φm ⟨0,(fdR ([],[])).length,[[nilS,nilS,nilS]]⟩) φm (fdR ([],[])):=by
  refine MSt.new hφ rfl (fun i f hf=>?_) (by intro v hv;simp only[List.mem_cons,List.not_mem_nil,or_false] at hv;rcases hv with rfl|rfl|rfl<;>rfl);match i,hf with
  |0,hf=>obtain rfl:=Option.some.inj hf;exact .nil
  |1,hf=>obtain rfl:=Option.some.inj hf;exact .nil
  |2,hf=>obtain rfl:=Option.some.inj hf;exact .nil
 generalize hE:UN ts 0 ([],[])=E at h;refine QF (fun n x τ=>∃(i:Nat) (s:Rds),x=(roT ts,.ptr φm 0 0 0,iv (i:Int),())∧MSt σ τ φm (fdR s)∧ts.length - i=n∧i≤ts.length∧s.1.length≤80∧s.2.length≤12∧UN (ts.drop i) i s=E) ts.length ⟨0,([],[]),rfl,S0,by omega,by omega,by simp,by simp,by simpa using hE⟩ ?_;rintro n x τ ⟨i,s,rfl,S,rfl,hi,n1,n2,e⟩ R' hR';obtain ⟨v0,e0,b0⟩:=S.lst (i:=0) (sz:=4) (es:=s.1.map Qc) rfl;obtain ⟨v1,e1,b1⟩:=S.lst (i:=1) (sz:=1) (es:=s.2.map fun p=>[iv (p.1:Int)]) rfl;have g0:=Jt b0;have g1:=Jt b1;have lt:∀τ:AH,lenS (roT ts)=some (iv (ts.length:Int)):=fun _=>QA _ _
 have no:∀a b:Int,R (.ret (.tup [roD [],iv a,iv b])) σ→aret (.tup [.val (.slice none 0 0),iv a,iv b]) τ R:=fun a b hh=>Qov S.sub hh
 simp only[QA,RR];by_cases c:i<ts.length
 ·have g:(i:Int)<(ts.length:Int):=by omega
  rw[List.drop_eq_getElem_cons c,UN] at e;have ix:idx 3 (roT ts) (iv (i:Int)) τ=some (.rop (Qw ts[i]) 0):=Qq c Qa1;have rest:¬(0<i∧s.2=[])→acall TP Qcq [.ptr φm 0 0 0,.rop (Qw ts[i]) 0] τ (onr (fun v27 σ=>
    og (ibin .neq v27 (iv 0)) fun v29=>
    apick v29 (
     aret (.tup [nilS,v27,iv (i:Int)]) σ R) (
     og (ibin .add (iv (i:Int)) (iv 1)) fun v14=>
     R' (roT ts,.ptr φm 0 0 0,v14,()) σ)) (fun v σ=>apan v σ R)):=fun hc=>by
   rw[if_neg hc] at e;refine QpI (hk _ (List.getElem_mem c)) S ⟨n1,n2⟩ fun τ1 S1=>?_
   simp only[RR];by_cases c2:(Jf ts[i] s).2=0
   ·rw[if_neg (by simpa using c2)] at e;have sm:=Qqo (t:=ts[i]) (s:=s) ⟨n1,n2⟩;simp only[c2,Qh c (by omega),RR];exact hR' _ _ (ts.length - (i+1)) τ1 (by omega) (.refl _) ⟨i+1,_,rfl,S1,rfl,c,sm.1,sm.2,e⟩
   ·rw[if_pos (by simpa using c2)] at e;rw[←e] at h;simp only[c2,RR];exact Qov S1.sub h
  by_cases c0:0<i
  ·have g0':(0:Int)<(i:Int):=by omega
   by_cases c1:s.2=[]
   ·rw[if_pos ⟨c0,c1⟩] at e;rw[←e] at h;have gl:((s.2.length:Nat):Int)=0:=by rw[c1];rfl
    simp only[g,g0',e1,g1,gl,RR];exact no _ _ h
   ·have gl:¬((s.2.length:Nat):Int)=0:=by have:=List.length_pos_iff.2 c1;omega
    simp only[g,g0',e1,g1,gl,ix,RR];have hh:=rest fun k=>c1 k.2
    simpa only[RR] using hh
  ·have g0':¬(0:Int)<(i:Int):=by omega
   simp only[g,g0',ix,RR];have hh:=rest fun k=>c0 k.1
   simpa only[RR] using hh
 ·have g:¬(i:Int)<(ts.length:Int):=by omega
  obtain rfl:i=ts.length:=by omega
  rw[List.drop_length,UN] at e;have bad:s.1=[]∨s.2≠[]→aret (.tup [.val (.slice none 0 0),iv 1,iv (ts.length:Int)]) τ R:=fun hb=>by
   rw[if_pos hb] at e;rw[←e] at h;exact no _ _ h
  by_cases c1:s.1=[]
  ·have gl:((s.1.length:Nat):Int)=0:=by rw[c1];rfl
   simp only[g,e0,g0,gl,RR];exact bad (.inl c1)
  ·have gl:¬((s.1.length:Nat):Int)=0:=by have:=List.length_pos_iff.2 c1;omega
   by_cases c2:s.2=[]
   ·have gl2:¬(0:Int)<((s.2.length:Nat):Int):=by rw[c2];simp
    rw[if_neg (by rintro (k|k);exact c1 k;exact k c2)] at e;rw[←e] at h;simp only[g,e0,g0,gl,e1,g1,gl2,RR];refine QW (a':= .tup [roD s.1,iv 0,iv 0]) S.sub (.tup rfl fun j hj=>?_) h;match j,hj with
    |0,_=>exact S.fzl (i:=0) rfl e0 (by intro c hc;obtain ⟨x,_,rfl⟩:=List.mem_map.1 hc;rfl)
    |1,_=>exact .same _
    |2,_=>exact .same _
   ·have gl2:(0:Int)<((s.2.length:Nat):Int):=by have:=List.length_pos_iff.2 c2;omega
    simp only[g,e0,g0,gl,e1,g1,gl2,RR];exact bad (.inr c2)
theorem QtZ (l:List UInt8):1≤(Qag l).1.kind∧(Qag l).1.kind≤6:=by
 unfold Qag;split
 ·simp
 split
 ·simp
 split<;>simp
theorem QzS (t:List UInt8):∀f p out,(∀x,x∈out→1≤Tok.kind x∧Tok.kind x≤6)→out.length≤120→(∀x,x∈(toks t f p out).1→1≤Tok.kind x∧Tok.kind x≤6)∧(toks t f p out).1.length≤120:=by
 intro f
 induction f with
 |zero=>intro p out h hn;exact ⟨h,hn⟩
 |succ f ih=>
  intro p out h hn;have no:(∀x,x∈([]:List Tok)→1≤Tok.kind x∧Tok.kind x≤6)∧([]:List Tok).length≤120:=⟨(fun x hx=>by cases hx),by simp⟩;rw[toks];split
  ·exact ⟨h,hn⟩
  ·rename_i c r _;split
   ·split
    ·exact no
    ·rename_i hm hl;refine ih _ _ (fun x hx=>?_) (by simp;omega);rcases List.mem_append.1 hx with k|k
     ·exact h x k
     ·obtain rfl:=List.mem_singleton.1 k;show 1≤Je c∧Je c≤6;unfold Je at hm ⊢;split
      ·omega
      split
      ·omega
      split
      ·omega
      ·rename_i a1 a2 a3;rw[if_neg a1,if_neg a2,if_neg a3] at hm;exact absurd rfl hm
   ·split
    ·exact no
    ·split
     ·exact no
     ·rename_i hl;refine ih _ _ (fun x hx=>?_) (by simp;omega);rcases List.mem_append.1 hx with k|k
      ·exact h x k
      ·obtain rfl:=List.mem_singleton.1 k;exact QtZ _
theorem Qtd (t:List UInt8):(∀x,x∈(tokR t).1→1≤Tok.kind x∧Tok.kind x≤6)∧(tokR t).1.length≤120:=by
 unfold tokR;split
 ·exact ⟨(fun x hx=>by cases hx),by simp⟩
 ·exact QzS t _ _ [] (fun x hx=>by cases hx) (by simp)
theorem QB6 (c a:Int) (es:List (List AV)):bld [iv 0,iv 0,.val (.slice none 0 0)] [(0,1),(1,1),(2,1)] [(0,iv c),(1,iv a),(2,.ro es)]=some (.agg [iv c,iv a,.ro es]):=rfl
theorem QoA {t:List UInt8} (hl:t.length≤1048576) (h:R (.ret (.agg [iv (Q3 t).2.1,iv ((Q3 t).2.2:Nat),roD (Q3 t).1])) σ):acall TP QeP [str (bs t)] σ R:=by
 refine Qkn ?_;unfold x110;dsimp only[den,dE,di,List.map,den0,den1];intro φ hφ;refine Qox hl ?_;simp only[RR];intro φ2 hφ2;have hT:=Qtd t;unfold Q3 at h;generalize tokR t=E at h hT ⊢;refine QH (es:=[[iv 0,iv 0,.val (.slice none 0 0)]]) (cs:=[iv E.2.1,iv (E.2.2:Nat),roT E.1]) (AH.set_same ..) (by simp) rfl rfl rfl (by intro y hy;simp only[List.mem_cons,List.not_mem_nil,or_false] at hy;rcases hy with rfl|rfl|rfl<;>rfl) ?_;simp only[List.set_cons_zero,AH.set_set];refine QK hφ2 rfl ?_;have l0:∀τ,lod (.rop [iv E.2.1,iv (E.2.2:Nat),roT E.1] 0) τ=some (iv E.2.1):=fun _=>rfl
 have l1:∀τ,lod (.rop [iv E.2.1,iv (E.2.2:Nat),roT E.1] 1) τ=some (iv (E.2.2:Nat)):=fun _=>rfl
 have l2:∀τ,lod (.rop [iv E.2.1,iv (E.2.2:Nat),roT E.1] 2) τ=some (roT E.1):=fun _=>rfl
 simp only[l0,RR];by_cases c:E.2.1=0
 ·rw[if_neg (by simpa using c)] at h;simp only[c,l2,RR];refine QqS hT.1 (by omega) ?_;generalize UN E.1 0 ([],[])=D at h ⊢;have e0:aext (.tup [roD D.1,iv D.2.1,iv (D.2.2:Nat)]) 0=some (roD D.1):=rfl;have e1:aext (.tup [roD D.1,iv D.2.1,iv (D.2.2:Nat)]) 1=some (iv D.2.1):=rfl;have e2:aext (.tup [roD D.1,iv D.2.1,iv (D.2.2:Nat)]) 2=some (iv (D.2.2:Nat)):=rfl;simp only[e0,e1,e2,QB6,RR];exact J0 hφ rfl rfl (by intro x hx;simp at hx;rcases hx with rfl|rfl|rfl<;>rfl) h
 ·rw[if_pos (by simpa using c)] at h;have eb:bld [iv 0,iv 0,.val (.slice none 0 0)] [(0,1),(1,1),(2,1)] [(0,iv E.2.1),(1,iv (E.2.2:Nat))]=some (.agg [iv E.2.1,iv (E.2.2:Nat),.val (.slice none 0 0)]):=rfl;simp only[c,l0,l1,eb,RR];refine Qdv (cs':=[iv E.2.1,iv (E.2.2:Nat),roD []]) hφ rfl rfl (by intro x hx;simp at hx;rcases hx with rfl|rfl|rfl<;>rfl) rfl (fun j hj=>?_) h;match j,hj with
  |0,_=>exact .same _
  |1,_=>exact .same _
  |2,_=>exact .nil
end
end
section
set_option maxRecDepth 100000
variable [L:Lam] {σ τ τ':AH} {R:AEnd→AH→Prop}
theorem US {sz:Nat} {a x:AV} {es:List (List AV)} {z row:List AV} {k:AV→AH→Prop} (h:Buf τ sz a es) (he:JD sz [z] [(0,x)]=some [row]) (hs:sz≤1000) (hr:row.length=sz) (ho:∀y,y∈row→y.one=true) (hn:es.length+1≤4294967296)
  (hk:∀a' τ',Buf τ' sz a' (es++[row])→Kp (famL a) τ τ'→(∀ψ,ψ∈famL a'→ψ∈famL a∨τ ψ=none)→k a' τ'):bsl sz z 1 [(0,x)] τ fun v τ=>E.app sz a v τ k:=by
 refine bsl1 he (by omega) fun ψ hψ=>?_
 have hs1:AH.Sub τ (τ.set ψ ⟨0,sz,[row]⟩):= .set (.refl τ) _ hψ;refine Ui ((Kp.of_sub (F:=[]) hs1).buf h fun _ _ c=>by cases c) ael1 (by intro c hc;obtain rfl:=List.mem_singleton.1 hc;exact hr) (by intro c hc;obtain rfl:=List.mem_singleton.1 hc;exact ho) (by simpa using hn) fun a' τ' hB hK hfam=>hk a' τ' hB (fun χ hχ hn=>?_) fun χ hχ=>?_
 ·rw[hK χ hχ (by rw[AH.set_ne' (by rintro rfl;exact hn hψ)];exact hn),AH.set_ne' (by rintro rfl;exact hn hψ)]
 ·rcases hfam χ hχ with c|c
  ·exact .inl c
  ·exact .inr (hs1.none c)
theorem QqT {cs:List Cor} {x:Nat} (hl:cs.length≤1000000) (h:R (.ret (roK (QG cs x))) σ):acall TP Qhl [roC cs,iv (x:Int)] σ R:=by
 refine QmX ?_;unfold x147;dsimp only[den,dE,di,tupL,lTup,den2,den3,den4,List.map,den0,den1];refine bsl0 ?_;refine Ua cs.length (fun i y τ=>∃u,y=(roC cs,iv (x:Int),u,iv (i:Int),())∧Buf τ 1 u (innK (QcA cs i x))∧AH.Sub σ τ∧∀ψ,ψ∈famL u→σ ψ=none) ⟨.emp,rfl,.inl ⟨.inr rfl,rfl⟩,.refl σ,fun ψ c=>by cases c⟩ ?_;rintro i _ τ hi ⟨u,rfl,hB,hs,hf⟩ R' hR';simp only[QA,RR];by_cases hlt:i<cs.length
 ·have g:(i:Int)<(cs.length:Int):=by omega
  have l1:∀τ,lod (.rop (Qs (Qj cs i)) 1) τ=some (iv (Qj cs i).parent):=fun _=>rfl
  simp only[g,Qq hlt UJ,QcX hlt,l1,jn,RR];by_cases c:(Qj cs i).parent=(x:Int)
  ·simp only[c,RR];refine US (row:=[iv (i:Int)]) hB rfl (by omega) rfl (fun y hy=>by obtain rfl:=List.mem_singleton.1 hy;rfl) (by have:=Qqm cs i x;simp;omega) fun u' τ' hB' hK hfam=>?_
   simp only[Qh hlt (by omega),RR];refine hR' _ _ _ hlt (.refl _) ⟨u',rfl,?_,hK.sub hs hf,fun ψ hψ=>(hfam ψ hψ).elim (hf ψ) fun d=>hs.none d⟩;rw[Qda,if_pos c];simpa[innK] using hB'
  ·simp only[c,Qh hlt (by omega),RR];refine hR' _ _ _ hlt (.refl _) ⟨u,rfl,?_,hs,hf⟩;rw[Qda,if_neg c,List.append_nil];exact hB
 ·have g:¬(i:Int)<(cs.length:Int):=by omega
  obtain rfl:i=cs.length:=by omega
  simp only[g,RR];exact QW hs (Uq hB hf rfl (by intro c hc;obtain ⟨o,_,rfl⟩:=List.mem_map.1 hc;rfl) fun _ _ _ _=> .same _) h
theorem QzT {a:AV} {es:List (List AV)} {k:Int} {ds:List Dat} (h:Buf τ 4 a es):bld [(iv 0),(iv 0),(iv 0),(iv 0),(iv 0),(.val (.string ⟨#[]⟩)),nilS] [(0,1),(1,1),(2,1),(3,1),(4,1),(5,1),(6,1)] [(0,iv k),(6,a)]=some (.agg (Qn (ocD k ds) a)):=by
 rcases h with ⟨rfl|rfl,_⟩|⟨φ,st,rfl,_⟩<;>rfl
theorem Qte {cs:List Cor} {f j:Nat} {l:List Nat} (h:j<l.length):visK cs f l=visK cs f (l.take j)+((vis cs f l[j]).length+visK cs f (l.drop (j+1))):=by
 have h1:=Qng cs f (l.take j) (l.drop j);rw[List.take_append_drop] at h1;rw[h1,List.drop_eq_getElem_cons h];simp only[visK,List.map_cons,List.sum_cons]
section
variable {φm:Nat} {B:St} {cs:List Cor}
def Qxx (cs:List Cor) (f:Nat) (σ:AH) (φm:Nat):Prop:=∀(x i:Nat) (e:Bool) (B:St) (τ:AH) (R:AEnd→AH→Prop),x<cs.length→cs.length≤f+x→i<B.length→CSt [roC cs] σ τ φm B→totS B+4*(vis cs f x).length≤1000→
 (∀τ',CSt [roC cs] σ τ' φm (mkC cs f x i e B)→R (.ret (.tup [])) τ')→acall TP QaV [.ptr φm 0 0 0,iv (x:Int),iv (i:Int),bv e] τ R
theorem QaQ {B:St} {N:Nat} (h:totS B≤N) (i:Nat):Qd B i≤N:=Nat.le_trans (QwE B i) h
set_option maxHeartbeats 400000 in
theorem QsE {f:Nat} (hw:WfC cs) (hC:Qxx cs f σ φm) {k1 k2 k3 i:Nat} {e:Bool} (hx:∀k,k∈[k1,k2,k3]→k<cs.length∧cs.length≤f+k) (h:CSt [roC cs] σ τ φm B) (hi:i<B.length) (ht:totS B+4*(1+((vis cs f k1).length+((vis cs f k2).length+(vis cs f k3).length)))≤1000) {B1 B2 B3 B4 B5 D:St}
  (d1:B1=mkC cs f k1 i false B) (d2:B2=mkC cs f k2 i e (putS B1 i (oc0 6))) (d3:B3=if e then B2 else putS B2 i (oc0 5)) (d4:B4=setS B3 i (Qd B1 i) (Qd B3 i:Int)) (d5:B5=mkC cs f k3 i e B4) (hD:D=if e then B5 else setS B5 i (Qd B2 i) (Qd B5 i:Int))
  (h1:∀τ',CSt [roC cs] σ τ' φm D→R (.ret (.tup [])) τ'):acall TP Qj1 [.ptr φm 0 0 0,roK [k1,k2,k3],iv (i:Int),bv e] τ R:=by
 have l1:leS B B1:=by rw[d1];exact QO ..
 have l2:leS (putS B1 i (oc0 6)) B2:=by rw[d2];exact QO ..
 have l3:leS B2 B3:=by rw[d3];cases e<;>first|exact QY _ _ _|exact leS.refl _
 have l4:leS B3 B4:=by rw[d4];exact Qap ..
 have l5:leS B4 B5:=by rw[d5];exact QO ..
 have i1:i<B1.length:=Nat.lt_of_lt_of_le hi l1.1;have i1':i<(putS B1 i (oc0 6)).length:=by rw[Jc];exact i1
 have i2:i<B2.length:=Nat.lt_of_lt_of_le i1' l2.1;have i3:i<B3.length:=Nat.lt_of_lt_of_le i2 l3.1;have i4:i<B4.length:=Nat.lt_of_lt_of_le i3 l4.1;have i5:i<B5.length:=Nat.lt_of_lt_of_le i4 l5.1;have t1:=Qlk hw f k1 i false B (hx k1 (by simp)).1 (hx k1 (by simp)).2;rw[←d1] at t1;have t2:=JT B1 i (oc0 6);have t3:=Qlk hw f k2 i e (putS B1 i (oc0 6)) (hx k2 (by simp)).1 (hx k2 (by simp)).2;rw[←d2] at t3;have t4:totS B3≤totS B2+1:=by rw[d3];cases e<;>first|exact JT _ _ _|exact Nat.le_succ _
 have t5:totS B4≤totS B3:=by rw[d4];exact Qli ..
 have n1:Qd B1 i<Qd B3 i:=by
  have:=l2.2 i i1';rw[Qac,if_pos ⟨rfl,i1⟩] at this;have:=l3.2 i i2;omega
 have x0:∀τ,idx 1 (roK [k1,k2,k3]) (iv 0) τ=some (.rop [iv (k1:Int)] 0):=fun τ=>Q1 (j:=0) (by simp)
 have x1:∀τ,idx 1 (roK [k1,k2,k3]) (iv 1) τ=some (.rop [iv (k2:Int)] 0):=fun τ=>Q1 (j:=1) (by simp)
 have x2:∀τ,idx 1 (roK [k1,k2,k3]) (iv 2) τ=some (.rop [iv (k3:Int)] 0):=fun τ=>Q1 (j:=2) (by simp)
 have eb6:bld [(iv 0),(iv 0),(iv 0),(iv 0),(iv 0),(.val (.string ⟨#[]⟩)),nilS] [(0,1),(1,1),(2,1),(3,1),(4,1),(5,1),(6,1)] [(0,(iv 6))]=some (.agg [iv 6,iv 0,iv 0,iv 0,iv 0,str ⟨#[]⟩,nilS]):=rfl;have eb5:bld [(iv 0),(iv 0),(iv 0),(iv 0),(iv 0),(.val (.string ⟨#[]⟩)),nilS] [(0,1),(1,1),(2,1),(3,1),(4,1),(5,1),(6,1)] [(0,(iv 5))]=some (.agg [iv 5,iv 0,iv 0,iv 0,iv 0,str ⟨#[]⟩,nilS]):=rfl;refine Qpj ?_;unfold x150;dsimp only[den,dE,di,tupL,lTup,den2,den3,den4,dwat,Qf,List.map,den0,den1];simp only[x0,Qv,RR];refine hC k1 i false B τ _ (hx k1 (by simp)).1 (hx k1 (by simp)).2 hi h (by omega) fun τ1 S1=>?_
 rw[←d1] at S1;simp only[eb6,RR];refine JJ (oc0 6) rfl rfl ?_;refine JQ rfl S1 i1 (QaQ (N:=1000000) (by omega) i) fun τ2 S2=>?_
 simp only[x1,Qv,RR];refine hC k2 i e _ τ2 _ (hx k2 (by simp)).1 (hx k2 (by simp)).2 i1' S2 (by omega) fun τ3 S3=>?_
 rw[←d2] at S3;simp only[jn,RR];have fin:∀(τ:AH) (u:Int),CSt [roC cs] σ τ φm B3→(e=false→u=(Qd B2 i:Int))→(e=true→u= -1)→
   og (anil (.ptr φm 0 0 0)) fun v34=>og (fldA 1 v34) fun v35=>og (lod v35 τ) fun v36=>og (idx 2 v36 (iv (i:Int)) τ) fun v38=>og (fldA 1 v38) fun v39=>og (lod v39 τ) fun v40=>
   og (anil (.ptr φm 0 0 0)) fun v43=>og (fldA 1 v43) fun v44=>og (lod v44 τ) fun v45=>og (idx 2 v45 (iv (i:Int)) τ) fun v47=>og (fldA 1 v47) fun v48=>og (lod v48 τ) fun v49=>og (lenS v49) fun v50=>
   og (idx 7 v40 (iv (Qd B1 i:Int)) τ) fun v51=>og (fldA 1 v51) fun v52=>sto 1 v52 v50 τ fun σ=>
   (True)∧
   og (idx 1 (roK [k1,k2,k3]) (iv 2) σ) fun v55=>og (lod v55 σ) fun v56=>
   acall TP QaV [.ptr φm 0 0 0,v56,iv (i:Int),bv e] σ (onr (fun _ σ=>
   og (ibin .geq (iv u) (iv 0)) fun v61=>
   apick v61 (
    og (anil (.ptr φm 0 0 0)) fun v63=>og (fldA 1 v63) fun v64=>og (lod v64 σ) fun v65=>og (idx 2 v65 (iv (i:Int)) σ) fun v67=>og (fldA 1 v67) fun v68=>og (lod v68 σ) fun v69=>
    og (anil (.ptr φm 0 0 0)) fun v72=>og (fldA 1 v72) fun v73=>og (lod v73 σ) fun v74=>og (idx 2 v74 (iv (i:Int)) σ) fun v76=>og (fldA 1 v76) fun v77=>og (lod v77 σ) fun v78=>og (lenS v78) fun v79=>
    og (idx 7 v69 (iv u) σ) fun v80=>og (fldA 1 v80) fun v81=>sto 1 v81 v79 σ fun σ=>
    (True)∧
    aret (.tup []) σ R) (
    aret (.tup []) σ R)) (fun v σ=>apan v σ R)):=by
  intro τ u S hu hu2;obtain ⟨v,φ,st,w,e1,e2,e3,e4,_,e6⟩:=S.open i3;replace e1:lod (.ptr φm 0 0 1) τ=some v:=e1;obtain ⟨φw,stw,g1,g2⟩:=e6 (Qd B1 i) n1;simp only[e1,e2,e3,e4,g1,RR];refine g2 _ _ fun τ4 S4=>?_
  rw[←d4] at S4;simp only[x2,Qv,RR,true_and];refine hC k3 i e B4 τ4 _ (hx k3 (by simp)).1 (hx k3 (by simp)).2 i4 S4 (by omega) fun τ5 S5=>?_
  rw[←d5] at S5;cases e with
  |true=>
   rw[if_pos rfl] at hD;obtain rfl:=hu2 rfl;have g:¬(0:Int)≤ -1:=by omega
   simp only[g,RR];rw[hD] at h1;exact Qa (h1 τ5 S5)
  |false=>
   rw[if_neg (by decide)] at hD d3;obtain rfl:=hu rfl;have n2:Qd B2 i<Qd B5 i:=by
    have a1:=l4.2 i i3;have a2:=l5.2 i i4;have a3:Qd B3 i=Qd B2 i+1:=by rw[d3,Qac,if_pos ⟨rfl,i2⟩]
    omega
   have g:(0:Int)≤(Qd B2 i:Int):=by omega
   obtain ⟨v',φ',st',w',q1,q2,q3,q4,_,q6⟩:=S5.open i5;replace q1:lod (.ptr φm 0 0 1) τ5=some v':=q1;obtain ⟨φw',stw',g1',g2'⟩:=q6 (Qd B2 i) n2;simp only[g,q1,q2,q3,q4,g1',RR];refine g2' _ _ fun τ6 S6=>?_
   rw[←hD] at S6;exact Qa (h1 τ6 S6)
 cases e with
 |true=>
  rw[if_pos rfl] at d3;subst d3;have hf:=fin τ3 (-1) S3 (fun c=>by cases c) fun _=>rfl
  simp only[RR] at hf ⊢;exact hf
 |false=>
  rw[if_neg (by decide)] at d3;simp only[eb5,RR];refine JJ (oc0 5) rfl rfl ?_;refine JQ rfl S3 i2 (QaQ (N:=1000000) (by omega) i) fun τ4 S4=>?_
  rw[←d3] at S4;have hf:=fin τ4 _ S4 (fun _=>rfl) fun c=>by cases c
  simp only[RR] at hf ⊢;exact hf
set_option maxHeartbeats 1000000 in
theorem QwY (hw:WfC cs) (hbd:∀i,(Qj cs i).data.length≤1048576):∀f,Qxx cs f σ φm:=by
 intro f
 induction f with
 |zero=>intro x i e B τ R hx hf;omega
 |succ f ih=>
  intro x i e B τ R hx hfx hi h ht h1;have hkd:∀k,k∈QG cs x→k<cs.length∧cs.length≤f+k:=fun k hk=>by have:=hw.kid hk;omega
  have hkk:=hw.kids x hx;have hkind:=hw.kind x hx;have htl:∀k,k∈QG cs x→∀i e B,totS (mkC cs f k i e B)+1≤totS B+4*(vis cs f k).length:=fun k hk i e B=>Qlk hw f k i e B (hkd k hk).1 (hkd k hk).2
  rw[Qlj] at ht;have hbx:=hbd x;have ex:∀τ,idx 6 (roC cs) (iv (x:Int)) τ=some (.rop (Qs (Qj cs x)) 0):=fun τ=>by rw[←QcX hx];exact Qq hx UJ
  have p0:∀{τ} {B},CSt [roC cs] σ τ φm B→lod (.ptr φm 0 0 0) τ=some (roC cs):=fun h=>h.fix rfl
  refine QmQ ?_;unfold x112;dsimp only[den,dE,di,tupL,lTup,den2,den3,den4,dwat,Qf,List.map,den0,den1];simp only[p0 h,ex,RR];refine QqT (by have:=hw.len;omega) ?_;have l0:∀τ,lod (.rop (Qs (Qj cs x)) 0) τ=some (iv (Qj cs x).kind):=fun _=>rfl
  have l2:∀τ,lod (.rop (Qs (Qj cs x)) 2) τ=some (iv (Qj cs x).a):=fun _=>rfl
  have l3:∀τ,lod (.rop (Qs (Qj cs x)) 3) τ=some (iv (Qj cs x).b):=fun _=>rfl
  have l4:∀τ,lod (.rop (Qs (Qj cs x)) 4) τ=some (str (Qj cs x).name):=fun _=>rfl
  have l5:∀τ,lod (.rop (Qs (Qj cs x)) 5) τ=some (roD (Qj cs x).data):=fun _=>rfl
  simp only[l0,l2,l3,l4,l5,jn,RR];rw[mkC] at h1;dsimp only at h1;generalize hks:QG cs x=ks at*;generalize hc:Qj cs x=c at*;have one:∀(o:OpD) (τ:AH),CSt [roC cs] σ τ φm B→(∀τ',CSt [roC cs] σ τ' φm (endS (putS B i o) i e)→R (.ret (.tup [])) τ')→
    acall TP Qbz [.ptr φm 0 0 0,iv (i:Int),.agg (Qk o)] τ (onr (fun _ σ=>
    acall TP QbA [.ptr φm 0 0 0,iv (i:Int),bv e] σ (onr (fun _ σ=>
    aret (.tup []) σ R) (fun v σ=>apan v σ R))) (fun v σ=>apan v σ R)):=by
   intro o τ h g1;refine JQ rfl h hi (QaQ (N:=1000000) (by omega) i) fun τ' S=>?_
   simp only[RR];refine Qfj rfl S (by rw[Jc];exact hi) (QaQ (N:=1000000) (by have:=JT B i o;omega) i) fun τ2 S2=>?_
   simp only[RR];exact Qa (g1 τ2 S2)
  by_cases c1:c.kind=1
  ·rw[if_pos c1] at h1;simp only[c1,RR];refine bsl0 ?_;refine Ui (es:=[]) (.inl ⟨.inr rfl,rfl⟩) (xs:=c.data.map Qc) rfl (by intro c hc;obtain ⟨x,_,rfl⟩:=List.mem_map.1 hc;rfl) (by intro c hc y hy;obtain ⟨x,_,rfl⟩:=List.mem_map.1 hc;exact Q2 x y hy) (by simp;omega) fun a τ1 hB hK hfam=>?_
   rw[List.nil_append] at hB;have hf1:∀ψ,ψ∈famL a→τ ψ=none:=fun ψ hψ=>(hfam ψ hψ).elim (fun c=>by cases c) id
   simp only[QzT (k:=1) (ds:=c.data) hB,RR];exact QuY (hK.sub (.refl τ) fun ψ c=>by cases c) (Qs2 hB hf1) (one _ τ h h1)
  rw[if_neg c1] at h1;by_cases c2:c.kind=2
  ·rw[if_pos c2] at h1;have eb:bld [(iv 0),(iv 0),(iv 0),(iv 0),(iv 0),(.val (.string ⟨#[]⟩)),nilS] [(0,1),(1,1),(2,1),(3,1),(4,1),(5,1),(6,1)] [(0,(iv 2)),(1,iv c.a),(2,iv c.b)]=some (.agg (Qn (ocAB 2 c.a c.b) nilS)):=rfl;simp only[c2,eb,Int.reduceEq,RR,true_and];exact JJ _ rfl rfl (one _ τ h h1)
  rw[if_neg c2] at h1;by_cases c3:c.kind=3
  ·rw[if_pos c3] at h1;have eb:bld [(iv 0),(iv 0),(iv 0),(iv 0),(iv 0),(.val (.string ⟨#[]⟩)),nilS] [(0,1),(1,1),(2,1),(3,1),(4,1),(5,1),(6,1)] [(0,(iv 3)),(5,str c.name)]=some (.agg (Qn (ocN 3 c.name) nilS)):=rfl;simp only[c3,eb,Int.reduceEq,RR];exact JJ _ rfl rfl (one _ τ h h1)
  rw[if_neg c3] at h1;have z0:∀{k:Nat} {r:List Nat} τ,idx 1 (roK (k::r)) (iv 0) τ=some (.rop [iv (k:Int)] 0):=fun {k r} τ=>by have:=Q1 (σ:=τ) (ks:=k::r) (j:=0) (by simp);simpa using this
  by_cases c5:c.kind=5
  ·rw[if_pos c5] at h1;unfold hasK at hkk;rw[if_neg (by omega),if_pos (.inl c5)] at hkk;obtain ⟨k,rfl⟩:∃k,ks=[k]:=by
    match ks,hkk with
    |[k],_=>exact ⟨k,rfl⟩
   have ev:visK cs f [k]=(vis cs f k).length:=by simp[visK]
   rw[ev] at ht;have eb:bld [(iv 0),(iv 0),(iv 0),(iv 0),(iv 0),(.val (.string ⟨#[]⟩)),nilS] [(0,1),(1,1),(2,1),(3,1),(4,1),(5,1),(6,1)] [(0,(iv 4)),(1,iv (B.length:Int))]=some (.agg (Qn (ocA 4 (B.length:Int)) nilS)):=rfl;have eb2:bld [(iv 0),nilS] [(0,1),(1,1)] [(0,iv c.a)]=some (.agg [iv c.a,nilS]):=rfl;obtain ⟨v,e1,e2⟩:=h.len;have e1':=e1;replace e1:lod (.ptr φm 0 0 1) τ=some v:=e1;have hBl:=QsZ B;simp only[c5,e1,eb2,Int.reduceEq,RR];rw[lit1 (sz:=2) (row:=[iv c.a,nilS]) rfl rfl (by omega)];simp only[RR];refine h.push (v:=v) (a:=c.a) e1' rfl (by omega) fun v' τ1 k1=>?_
   refine ⟨trivial,k1 _ fun τ2 S2 g2 g3=>?_⟩;replace g2:lod (.ptr φm 0 0 1) τ2=some v':=g2;have es:ibin .sub (iv ((B.length+1:Nat):Int)) (iv 1)=some (iv (B.length:Int)):=by
    rw[QU (by omega) (by omega)]
    congr 3;omega
   simp only[g2,g3,es,z0,Qv,RR,true_and];have hk:=hkd k (by simp);have hi1:i<(B++[(c.a,[])]).length:=by simp;omega
   have tp:=QrJ B c.a;refine ih k B.length true _ τ2 _ hk.1 hk.2 (by simp) S2 (by omega) fun τ3 S3=>?_
   have t3:=htl k (by simp) B.length true (B++[(c.a,[])]);have hi3:i<(mkC cs f k B.length true (B++[(c.a,[])])).length:=Nat.lt_of_lt_of_le hi1 (QO ..).1;simp only[eb,RR];refine JJ _ rfl rfl (JQ rfl S3 hi3 (QaQ (N:=1000000) (by omega) i) fun τ4 S4=>?_);simp only[RR];refine Qfj rfl S4 (by rw[Jc];exact hi3) (QaQ (N:=1000000) (by have:=JT (mkC cs f k B.length true (B++[(c.a,[])])) i (ocA 4 (B.length:Int));omega) i) fun τ5 S5=>?_
   simp only[List.getD_cons_zero] at h1;rw[QzC cs f k B.length true (B++[(c.a,[])]) (by omega) hi1] at h1;simp only[RR];exact Qa (h1 τ5 S5)
  rw[if_neg c5] at h1;by_cases c78:c.kind=7∨c.kind=8
  ·rw[if_pos c78] at h1;unfold hasK at hkk;rw[if_neg (by omega),if_pos (by omega)] at hkk;obtain ⟨k,rfl⟩:∃k,ks=[k]:=by
    match ks,hkk with
    |[k],_=>exact ⟨k,rfl⟩
   have ev:visK cs f [k]=(vis cs f k).length:=by simp[visK]
   rw[ev] at ht;simp only[List.getD_cons_zero] at h1;have hk:=hkd k (by simp);have t1:=htl k (by simp) i false B;have hi1:i<(mkC cs f k i false B).length:=Nat.lt_of_lt_of_le hi (QO ..).1;have eb:bld [(iv 0),(iv 0),(iv 0),(iv 0),(iv 0),(.val (.string ⟨#[]⟩)),nilS] [(0,1),(1,1),(2,1),(3,1),(4,1),(5,1),(6,1)] [(0,iv (c.kind - 7+8)),(5,str c.name)]=some (.agg (Qn (ocN (c.kind - 7+8) c.name) nilS)):=rfl;have go:acall TP QaV [.ptr φm 0 0 0,iv (k:Int),iv (i:Int),bv false] τ (onr (fun _ σ=>
     acall TP Qbz [.ptr φm 0 0 0,iv (i:Int),.agg (Qn (ocN (c.kind - 7+8) c.name) nilS)] σ (onr (fun _ σ=>
     acall TP QbA [.ptr φm 0 0 0,iv (i:Int),bv e] σ (onr (fun _ σ=>
     aret (.tup []) σ R) (fun v σ=>apan v σ R))) (fun v σ=>apan v σ R))) (fun v σ=>apan v σ R)):=by
    refine ih k i false B τ _ hk.1 hk.2 hi h (by omega) fun τ1 S1=>?_
    simp only[RR];refine JJ _ rfl rfl (JQ rfl S1 hi1 (QaQ (N:=1000000) (by omega) i) fun τ2 S2=>?_);simp only[RR];refine Qfj rfl S2 (by rw[Jc];exact hi1) (QaQ (N:=1000000) (by have:=JT (mkC cs f k i false B) i (ocN (c.kind - 7+8) c.name);omega) i) fun τ3 S3=>?_
    simp only[RR];exact Qa (h1 τ3 S3)
   rcases c78 with c7|c8
   ·simp only[c7,z0,Qv,Int.reduceEq,Int.reduceSub,Int.reduceAdd,RR] at eb go ⊢;simp only[eb,RR];exact go
   ·simp only[c8,z0,Qv,Int.reduceEq,Int.reduceSub,Int.reduceAdd,RR] at eb go ⊢;simp only[eb,RR];exact go
  rw[if_neg c78] at h1;have c7:¬c.kind=7:=fun k=>c78 (.inl k)
  have c8:¬c.kind=8:=fun k=>c78 (.inr k)
  by_cases c4:c.kind=4
  ·rw[if_pos c4] at h1;unfold hasK at hkk;rw[if_pos c4] at hkk;obtain ⟨k1,k2,k3,rfl⟩:∃k1 k2 k3,ks=[k1,k2,k3]:=by
    match ks,hkk with
    |[k1,k2,k3],_=>exact ⟨k1,k2,k3,rfl⟩
   simp only[List.getD_cons_zero,List.getD_cons_succ] at h1;have ev:visK cs f [k1,k2,k3]=(vis cs f k1).length+((vis cs f k2).length+(vis cs f k3).length):=by simp[visK]
   rw[ev] at ht;simp only[c4,Int.reduceEq,RR];refine QsE hw ih hkd h hi ht rfl rfl rfl rfl rfl rfl fun τ' S=>?_
   simp only[RR];exact Qa (h1 τ' S)
  rw[if_neg c4] at h1;have hkl:ks.length≤160:=by
   have:=hw.len.2;rw[←hks];unfold QG;exact Nat.le_trans (List.length_filter_le _ _) (by simpa using this)
  by_cases c6:c.kind=6
  ·rw[if_pos c6] at h1;unfold hasK at hkk;rw[if_neg c4,if_neg (by omega),if_pos c6] at hkk;have hne:ks≠[]:=by intro c;rw[c] at hkk;simp at hkk
   have hsp:=Qdu hne;have hmem:∀k,k∈ks.dropLast→k∈ks:=fun k hm=>by rw[←hsp];exact List.mem_append_left _ hm
   have hlm:ks.getLastD 0∈ks:=by
    have:ks.getLastD 0∈ks.dropLast++[ks.getLastD 0]:=List.mem_append_right _ (List.mem_singleton.2 rfl)
    rwa [hsp] at this
   have hdl:ks.dropLast.length=ks.length - 1:=List.length_dropLast;have eb:bld [(iv 0),(iv 0),(iv 0),(iv 0),(iv 0),(.val (.string ⟨#[]⟩)),nilS] [(0,1),(1,1),(2,1),(3,1),(4,1),(5,1),(6,1)] [(0,(iv 7))]=some (.agg (Qn (oc0 7) nilS)):=rfl;have evs:visK cs f ks=visK cs f ks.dropLast+(vis cs f (ks.getLastD 0)).length:=by
    conv=>lhs;rw[←hsp]
    rw[Qng];simp[visK]
   have hm:∀l:List Nat,(∀k,k∈l→k∈ks)→∀B,totS (Qr (fun k B=>mkC cs f k i false B) (fun B=>putS B i (oc0 7)) l B)≤totS B+4*visK cs f l:=by
    intro l
    induction l with
    |nil=>intro _ B;simp[Qr,visK]
    |cons k r ih2=>
     intro hl B;have g1:=htl k (hl k (by simp)) i false B;have g2:=JT (mkC cs f k i false B) i (oc0 7);have g3:=ih2 (fun k hk=>hl k (by simp[hk])) (putS (mkC cs f k i false B) i (oc0 7));have e:visK cs f (k::r)=(vis cs f k).length+visK cs f r:=by simp[visK]
     rw[Qr,e];omega
   simp only[c6,Int.reduceEq,RR];refine QeB ks.dropLast.length (fun j=>(.ptr φm 0 0 0,iv (i:Int),bv e,roK ks,iv (j:Int),())) (fun j τ'=>CSt [roC cs] σ τ' φm (Qr (fun k B=>mkC cs f k i false B) (fun B=>putS B i (oc0 7)) (ks.dropLast.take j) B)) rfl h ?_;rintro j τ1 hj S R' hR';have hall:∀l B,leS B (Qr (fun k B=>mkC cs f k i false B) (fun B=>putS B i (oc0 7)) l B):=Qad (fun k B=>QO ..) (fun B=>QY ..);have hij:i<(Qr (fun k B=>mkC cs f k i false B) (fun B=>putS B i (oc0 7)) (ks.dropLast.take j) B).length:=Nat.lt_of_lt_of_le hi (hall _ _).1;have htj:=hm (ks.dropLast.take j) (fun k hk=>hmem k (List.mem_of_mem_take hk)) B;have ea:ibin .add (iv (j:Int)) (iv 1)=some (iv ((j:Int)+1)):=Jk (by omega) (by omega);by_cases hlt:j<ks.dropLast.length
   ·have g:(j:Int)+1<(ks.length:Int):=by omega
    have hjk:j<ks.length:=by omega
    have hge:ks.getD j 0=ks.dropLast.getD j 0:=by
     conv=>lhs;rw[←hsp]
     simp[List.getD,List.getElem?_append_left hlt]
    have hm0:ks.dropLast.getD j 0∈ks:=hmem _ (by rw[Qaf hlt];exact List.getElem_mem hlt);have evj:visK cs f ks.dropLast=visK cs f (ks.dropLast.take j)+((vis cs f (ks.dropLast.getD j 0)).length+visK cs f (ks.dropLast.drop (j+1))):=by
     rw[Qaf hlt];exact Qte hlt
    simp only[ea,lenK,g,Q1 hjk,hge,Qv,RR];refine ih _ i false _ τ1 _ (hkd _ hm0).1 (hkd _ hm0).2 hij S (by omega) fun τ2 S2=>?_
    have hi1:i<(mkC cs f (ks.dropLast.getD j 0) i false (Qr (fun k B=>mkC cs f k i false B) (fun B=>putS B i (oc0 7)) (ks.dropLast.take j) B)).length:=Nat.lt_of_lt_of_le hij (QO ..).1;have t2:=htl _ hm0 i false (Qr (fun k B=>mkC cs f k i false B) (fun B=>putS B i (oc0 7)) (ks.dropLast.take j) B);simp only[eb,RR];refine JJ _ rfl rfl (JQ rfl S2 hi1 (QaQ (N:=1000000) (by omega) i) fun τ3 S3=>?_);simp only[ea,RR];have e1:Qr (fun k B=>mkC cs f k i false B) (fun B=>putS B i (oc0 7)) (ks.dropLast.take (j+1)) B=putS (mkC cs f (ks.dropLast.getD j 0) i false (Qr (fun k B=>mkC cs f k i false B) (fun B=>putS B i (oc0 7)) (ks.dropLast.take j) B)) i (oc0 7):=by
     rw[List.take_succ_eq_append_getElem hlt,QcW,Qaf hlt];rfl
    exact hR' hlt _ _ (.refl _) (by rw[e1];exact S3)
   ·have g:¬(j:Int)+1<(ks.length:Int):=by omega
    obtain rfl:j=ks.dropLast.length:=by omega
    rw[List.take_length] at S hij htj;have hlast:ks.getD (ks.length - 1) 0=ks.getLastD 0:=by
     rw[List.getLastD_eq_getLast?,List.getLast?_eq_getElem?];rfl
    have es:ibin .sub (iv (ks.length:Int)) (iv 1)=some (iv ((ks.length:Int) - 1)):=QU (by omega) (by omega);have ix:idx 1 (roK ks) (iv ((ks.length:Int) - 1)) τ1=some (.rop [iv ((ks.getLastD 0:Nat):Int)] 0):=by
     have:=Q1 (σ:=τ1) (ks:=ks) (j:=ks.length - 1) (by omega);rw[hlast,show ((ks.length - 1:Nat):Int)=(ks.length:Int) - 1 by omega] at this;exact this
    simp only[ea,lenK,g,es,ix,Qv,RR];refine ih _ i e _ τ1 _ (hkd _ hlm).1 (hkd _ hlm).2 hij S (by omega) fun τ2 S2=>?_
    simp only[RR];exact Qa (h1 τ2 S2)
  rw[if_neg c6] at h1;have c9:c.kind=9:=by omega
  have hm:∀l:List Nat,(∀k,k∈l→k∈ks)→∀B,totS (Qr (fun k B=>mkC cs f k i false B) id l B)≤totS B+4*visK cs f l:=by
   intro l
   induction l with
   |nil=>intro _ B;simp[Qr,visK]
   |cons k r ih2=>
    intro hl B;have g1:=htl k (hl k (by simp)) i false B;have g3:=ih2 (fun k hk=>hl k (by simp[hk])) (mkC cs f k i false B);have e:visK cs f (k::r)=(vis cs f k).length+visK cs f r:=by simp[visK]
    rw[Qr,e];simp only[id];omega
  simp only[c9,Int.reduceEq,RR];refine QeB ks.length (fun j=>(.ptr φm 0 0 0,iv (i:Int),bv e,roK ks,iv (j:Int),())) (fun j τ'=>CSt [roC cs] σ τ' φm (Qr (fun k B=>mkC cs f k i false B) id (ks.take j) B)) rfl h ?_;rintro j τ1 hj S R' hR';have hall:∀l B,leS B (Qr (fun k B=>mkC cs f k i false B) id l B):=Qad (fun k B=>QO ..) (fun B=> .refl B);have hij:i<(Qr (fun k B=>mkC cs f k i false B) id (ks.take j) B).length:=Nat.lt_of_lt_of_le hi (hall _ _).1;have htj:=hm (ks.take j) (fun k hk=>List.mem_of_mem_take hk) B;by_cases hlt:j<ks.length
  ·have g:(j:Int)<(ks.length:Int):=by omega
   have hm0:ks.getD j 0∈ks:=by rw[Qaf hlt];exact List.getElem_mem hlt
   have evj:visK cs f ks=visK cs f (ks.take j)+((vis cs f (ks.getD j 0)).length+visK cs f (ks.drop (j+1))):=by
    rw[Qaf hlt];exact Qte hlt
   simp only[lenK,g,Q1 hlt,Qv,RR];refine ih _ i false _ τ1 _ (hkd _ hm0).1 (hkd _ hm0).2 hij S (by omega) fun τ2 S2=>?_
   simp only[Qh hlt (by omega),RR];have e1:Qr (fun k B=>mkC cs f k i false B) id (ks.take (j+1)) B=mkC cs f (ks.getD j 0) i false (Qr (fun k B=>mkC cs f k i false B) id (ks.take j) B):=by
    rw[List.take_succ_eq_append_getElem hlt,QcW,Qaf hlt];rfl
   exact hR' hlt _ _ (.refl _) (by rw[e1];exact S2)
  ·have g:¬(j:Int)<(ks.length:Int):=by omega
   obtain rfl:j=ks.length:=by omega
   rw[List.take_length] at S hij htj;have es:ibin .sub (iv (ks.length:Int)) (iv 1)=some (iv ((ks.length:Int) - 1)):=QU (by omega) (by omega);have eb:∀q:Int,bld [(iv 0),(iv 0),(iv 0),(iv 0),(iv 0),(.val (.string ⟨#[]⟩)),nilS] [(0,1),(1,1),(2,1),(3,1),(4,1),(5,1),(6,1)] [(0,iv q),(1,iv ((ks.length:Int) - 1))]=some (.agg (Qn (ocA q ((ks.length:Int) - 1)) nilS)):=fun q=>rfl
   cases e with
   |true=>
    simp only[g,jn,lenK,es,eb,RR];refine JJ _ rfl rfl (JQ rfl S hij (QaQ (N:=1000000) (by omega) i) fun τ3 S3=>?_);simp only[RR];exact Qa (h1 τ3 S3)
   |false=>
    simp only[g,jn,lenK,es,eb,RR];refine JJ _ rfl rfl (JQ rfl S hij (QaQ (N:=1000000) (by omega) i) fun τ3 S3=>?_);simp only[RR];exact Qa (h1 τ3 S3)
def fitB (B:St):Bool:=decide (B.length≤60)&&decide (∀k,k<B.length→Qd B k≤200)
theorem QiK {B:St}:fitB B=true↔fits B:=by simp[fitB,fits]
set_option maxHeartbeats 1000000 in
theorem QqU (hw:WfC cs) (hbd:∀i,(Qj cs i).data.length≤1048576) (h:R (.ret (.tup [roBk (toBk (fin0 cs)),bv (fitB (fin0 cs))])) σ):acall TP Qhc [roC cs] σ R:=by
 refine QmN ?_;unfold x81;dsimp only[den,dE,di,tupL,lTup,den2,den3,den4,List.map,den0,den1];have eb0:bld [(iv 0),nilS] [(0,1),(1,1)] []=some (.agg [iv 0,nilS]):=rfl;simp only[eb0,RR];refine bsl1 (row:=[iv 0,nilS]) rfl (by omega) fun φb hφb=>?_
 have eb1:bld [nilS,nilS] [(0,1),(1,1)] [(0,roC cs),(1,.own φb 0 0 1)]=some (.agg [roC cs,.own φb 0 0 1]):=rfl;simp only[eb1,RR];intro φm hφm;have hne:φm≠φb:=by rintro rfl;rw[AH.set_same] at hφm;cases hφm
 refine QH (es:=[[nilS,nilS]]) (cs:=[roC cs,.own φb 0 0 1]) (by rw[AH.set_same];rfl) (by simp) rfl rfl rfl (by intro y hy;simp only[List.mem_cons,List.not_mem_nil,or_false] at hy;rcases hy with rfl|rfl<;>rfl) ?_;simp only[List.set_cons_zero,AH.set_set];rw[AH.set_none] at hφm;have hS0:CSt [roC cs] σ ((σ.set φb ⟨0,2,[[iv 0,nilS]]⟩).set φm ⟨0,2,[[roC cs,.own φb 0 0 1]]⟩) φm [(0,[])]:=by
  refine ⟨⟨.own φb 0 0 1,[((0,[]),nilS)],AH.set_same ..,⟨.inr ⟨φb,0,rfl,by rw[AH.set_ne' (Ne.symm hne),AH.set_same];rfl⟩,fun p hp=>?_,by simp[famL,l2F],fun ψ hψ=>?_,fun ψ F hF=>?_⟩,rfl,by simp[famL,l2F,hne]⟩,hφm.2⟩
  ·obtain rfl:=List.mem_singleton.1 hp;exact nilB
  ·have:ψ=φb:=by simpa[famL,l2F] using hψ
   subst this;exact hφb
  ·rw[AH.set_ne' (by rintro rfl;rw[hφm.2] at hF;cases hF),AH.set_ne' (by rintro rfl;rw[hφb] at hF;cases hF)];exact hF
 have hl:=hw.len;have hv:=QkR hw cs.length 0 (by omega);refine QwY hw hbd cs.length 0 0 true [(0,[])] _ _ (by omega) (by omega) (by simp) hS0 (by simp[totS];omega) fun τ2 S2=>?_
 change CSt [roC cs] σ τ2 φm (fin0 cs) at S2;have htf:=Qlk hw cs.length 0 0 true [(0,[])] (by omega) (by omega);change totS (fin0 cs)+1≤_ at htf;have htf2:totS (fin0 cs)≤1000:=by simp[totS] at htf ⊢;omega
 simp only[RR];refine ⟨_,σ,S2.sub,S2.fz (fs:=[roC cs]++[roBk (toBk (fin0 cs))]) rfl,?_⟩;have e2:∀τ,lod (.rop ([roC cs]++[roBk (toBk (fin0 cs))]) 1) τ=some (roBk (toBk (fin0 cs))):=fun _=>rfl
 have hBl:=QsZ (fin0 cs);have htl:(toBk (fin0 cs)).length=(fin0 cs).length:=by simp[toBk]
 simp only[e2,QA,RR];refine QxV (fin0 cs).length (fun i=>(AV.rop ([roC cs]++[roBk (toBk (fin0 cs))]) 0,bv (decide ((fin0 cs).length≤60)&&decide (∀k,k<i→Qd (fin0 cs) k≤200)),iv (i:Int),())) ?_ ?_
 ·have:decide (((toBk (fin0 cs)).length:Int)≤60)=decide ((fin0 cs).length≤60):=by rw[htl];congr 1;apply propext;omega
  rw[this];simp;rfl
 intro i hi R' hR';simp only[e2,QA,htl,RR];by_cases hlt:i<(fin0 cs).length
 ·have g:(i:Int)<((fin0 cs).length:Int):=by omega
  have hlt2:i<(toBk (fin0 cs)).length:=by omega
  have eg:(toBk (fin0 cs))[i].ops.length=Qd (fin0 cs) i:=by simp[toBk,Qd,List.getD,hlt]
  have ix:=fun τ=>Qq (σ:=τ) hlt2 Jr
  have lo:∀τ,lod (.rop (QC (toBk (fin0 cs))[i]) 1) τ=some (roO (toBk (fin0 cs))[i].ops):=fun _=>rfl
  have hn:=hR' hlt σ (.refl σ);have hd:decide (∀k,k<i+1→Qd (fin0 cs) k≤200)=(decide (∀k,k<i→Qd (fin0 cs) k≤200)&&decide (((toBk (fin0 cs))[i].ops.length:Int)≤200)):=by
   rw[eg,←Bool.decide_and]
   congr 1
   apply propext
   constructor
   ·intro h;exact ⟨fun k hk=>h k (by omega),by have:=h i (by omega);omega⟩
   ·rintro ⟨h,h2⟩ k hk;by_cases c:k<i
    ·exact h k c
    ·obtain rfl:k=i:=by omega
     omega
  rw[hd,←Bool.and_assoc] at hn;generalize (decide ((fin0 cs).length≤60)&&decide (∀k,k<i→Qd (fin0 cs) k≤200))=b at hn ⊢;cases b with
  |true=>
   rw[Bool.true_and] at hn;simp only[g,e2,ix,lo,QA,Qh hlt (by omega),RR];exact hn
  |false=>
   rw[Bool.false_and] at hn;simp only[g,Qh hlt (by omega),RR];exact hn
 ·have g:¬(i:Int)<((fin0 cs).length:Int):=by omega
  obtain rfl:i=(fin0 cs).length:=by omega
  simp only[g,RR];exact Qa h
end
end
section
set_option maxRecDepth 100000
variable [L:Lam] {σ τ τ':AH} {R:AEnd→AH→Prop}
def kws:List ByteArray:=[⟨#[113,117,111,116,101]⟩,⟨#[105,102]⟩,⟨#[108,97,109,98,100,97]⟩,⟨#[108,101,116]⟩,⟨#[98,101,103,105,110]⟩,⟨#[100,101,102,105,110,101]⟩,⟨#[115,101,116,33]⟩]
def inL (l:List ByteArray) (s:ByteArray):Bool:=l.any fun t=>decide (s=t)
def kwB (s:ByteArray):Bool:=inL kws s
def idxS:List ByteArray→ByteArray→Nat→Int
 |[],_,_=> -1
 |t::r,s,k=>if s=t then (k:Int) else idxS r s (k+1)
theorem Qtf (s:ByteArray):∀(l:List ByteArray) (k:Nat),decide (0≤idxS l s k)=inL l s:=by
 intro l
 induction l with
 |nil=>intro k;rfl
 |cons t r ih=>
  intro k;rw[idxS];by_cases c:s=t
  ·rw[if_pos c];simp[inL,c]
  ·rw[if_neg c,ih];simp[inL,c]
abbrev roS (l:List ByteArray):AV:= .ro (l.map fun s=>[str s])
theorem Qq3 {l:List ByteArray} {j:Nat} (h:j<l.length):idx 1 (roS l) (iv (j:Int)) σ=some (.rop [str l[j]] 0):=Qq (enc:=fun s=>[str s]) h (sz:=1) fun _=>rfl
theorem QiL {l:List ByteArray}:lenS (roS l)=some (iv (l.length:Int)):=by simp[lenS]
theorem Qdx {l:List ByteArray} {s:ByteArray} (hl:l.length≤1000000) (h:R (.ret (iv (idxS l s 0))) σ):acall TP Qar [roS l,str s] σ R:=by
 refine Qb5 ?_;unfold x246;dsimp only[den,dE,di,tupL,lTup,den2,den3,den4,List.map,den0,den1];simp only[QiL,RR];refine UV l.length (fun i=>(roS l,str s,iv (l.length:Int),iv (i:Int),())) (fun i=>idxS l s 0=idxS (l.drop i) s i) rfl (by simp) ?_;intro i hi hj R' hR';by_cases hlt:i<l.length
 ·have g:(i:Int)<(l.length:Int):=by omega
  rw[List.drop_eq_getElem_cons hlt,idxS] at hj;simp only[g,Qq3 hlt,Qv,Jy,RR];by_cases c:s=l[i]
  ·rw[if_pos c] at hj;rw[hj] at h;have cd:decide (s=l[i])=true:=by simp[c]
   simp only[cd,RR];exact Qa h
  ·rw[if_neg c] at hj;have cd:decide (s=l[i])=false:=by simp[c]
   simp only[cd,Qh hlt (by omega),RR];exact hR' hlt hj _ (.refl σ)
 ·have g:¬(i:Int)<(l.length:Int):=by omega
  obtain rfl:i=l.length:=by omega
  rw[List.drop_length,idxS] at hj;rw[hj] at h;simp only[g,RR];exact Qa h
theorem Qh7 {l:List ByteArray} {s:ByteArray} (hl:l.length≤1000000) (h:R (.ret (bv (inL l s))) σ):acall TP UQ [roS l,str s] σ R:=by
 refine QaL ?_;unfold x245;dsimp only[den,dE,di,List.map,den0,den1];refine Qdx hl ?_;simp only[RR,Qtf];exact Qa h
theorem QpJ {sz n:Nat} {z:List AV} {ps:List (Nat × AV)} {es:List (List AV)} {k:AV→AH→Prop} (he:JD sz (List.replicate n z) ps=some es) (hb:n*sz≤16777216) (hn:n≠0) (h:∀φ,σ φ=none→k (.own φ 0 0 n) (σ.set φ ⟨0,sz,es⟩)):bsl sz z n ps σ k:=by
 unfold bsl;rw[he];exact ⟨hb,by rw[if_neg hn];exact h⟩
theorem QbR {s:ByteArray} (h:R (.ret (bv (kwB s))) σ):acall TP QdS [str s] σ R:=by
 refine QjM ?_;unfold x224;dsimp only[den,dE,di,List.map,den0,den1];refine QpJ (es:=kws.map fun s=>[str s]) rfl (by decide) (by decide) fun φ hφ=>?_
 refine JI (σ0:=σ) (args':=[roS kws,str s]) (.set (.refl σ) _ hφ) rfl (fun i hi=>?_) ?_
 ·match i,hi with
  |0,_=>
   refine .own (AH.set_same ..) hφ rfl (by decide) rfl (fun i hi=>?_) (fun i j hi hj=>by rw[Nat.zero_add];exact .same _);have hi':i<kws.length:=hi;simp[List.getD,hi']
  |1,_=>exact .same _
 refine Qh7 (by decide) ?_;simp only[RR];exact Qa h
theorem QbS {s:ByteArray} (h:R (.ret (bv (kwB s))) σ):acall TP QdQ [str s] σ R:=by
 refine QjK ?_;unfold x178;dsimp only[den,dE,di,tupL,lTup,den2,den3,den4,List.map,den0,den1];refine Qpc (es:=kws.map fun s=>[str s]) rfl (by decide) rfl (by intro c hc;obtain ⟨x,_,rfl⟩:=List.mem_map.1 hc;rfl) ?_;refine UV kws.length (fun i=>(str s,roS kws,iv (i:Int),())) (fun i=>inL kws s=inL (kws.drop i) s) rfl (by simp) ?_;intro i hi hj R' hR';simp only[QiL,RR];by_cases hlt:i<kws.length
 ·have g:(i:Int)<(kws.length:Int):=by omega
  rw[List.drop_eq_getElem_cons hlt] at hj;have hj2:inL kws s=(decide (s=kws[i])||inL (kws.drop (i+1)) s):=hj;have hkl:kws.length=7:=rfl;simp only[g,Qq3 hlt,Qv,Jy,RR];by_cases c:kws[i]=s
  ·have cd:decide (kws[i]=s)=true:=by simp[c]
   simp only[cd,RR];rw[show decide (s=kws[i])=true by simp[c],Bool.true_or] at hj2;unfold kwB at h;rw[hj2] at h;exact Qa h
  ·have cd:decide (kws[i]=s)=false:=by simp[c]
   simp only[cd,Qh hlt (by omega),RR];rw[show decide (s=kws[i])=false by simp;exact fun e=>c e.symm,Bool.false_or] at hj2;exact hR' hlt hj2 _ (.refl σ)
 ·have g:¬(i:Int)<(kws.length:Int):=by omega
  obtain rfl:i=kws.length:=by omega
  rw[List.drop_length] at hj;unfold kwB at h;rw[hj] at h;simp only[g,RR];exact Qa h
end
section
def Qe (ds:List Dat) (x:Nat):List Nat:=(List.range ds.length).filter fun i=>decide ((dat ds i).parent=(x:Int))
def QcB (ds:List Dat) (i:Nat):Nat:=Q0 (par ds) (i:Int)
def subG (ds:List Dat) (x:Nat):Nat→Nat→List Dat
 |0,_=>[]
 |f+1,i=>if i<ds.length∧(i=x∨QcB ds x<QcB ds i) then {dat ds i with parent:=if i=x then -1 else (dat ds i).parent - x}::subG ds x f (i+1) else []
def subD (ds:List Dat) (x:Nat):List Dat:=subG ds x (ds.length - x) x
theorem QzU (ds:List Dat) (x:Nat):∀f i,(subG ds x f i).length≤f:=by
 intro f
 induction f with
 |zero=>intro i;simp[subG]
 |succ f ih=>
  intro i;rw[subG];split
  ·have:=ih (i+1);simp;omega
  ·simp
theorem Qtg (ds:List Dat) (x:Nat):(subD ds x).length≤ds.length:=Nat.le_trans (QzU ..) (Nat.sub_le ..)
def konC (p:Int) (d:List Dat):Cor:=⟨1,p,0,0,⟨#[]⟩,d⟩
def locC (p:Int) (a b:Nat):Cor:=⟨2,p,(a:Int),(b:Int),⟨#[]⟩,[]⟩
def nodC (k p:Int) (a:Nat):Cor:=⟨k,p,(a:Int),0,⟨#[]⟩,[]⟩
def nmdC (k p:Int) (s:ByteArray):Cor:=⟨k,p,0,0,s,[]⟩
abbrev Sco:=List (List ByteArray)
def posL:List ByteArray→ByteArray→Option Nat
 |[],_=>none
 |t::r,s=>if t=s then some 0 else (posL r s).map (·+1)
def JA:Sco→ByteArray→Option (Nat × Nat)
 |[],_=>none
 |ns::r,s=>match posL ns s with
  |some b=>some (0,b)
  |none=>(JA r s).map fun p=>(p.1+1,p.2)
abbrev Ex:=List Cor × Int
def allE (g:Nat→List Cor→Ex):List Nat→List Cor→Ex
 |[],C=>(C,0)
 |k::r,C=>if (g k C).2≠0 then g k C else allE g r (g k C).1
def badP (ds:List Dat) (x:Nat) (ns:List ByteArray):Bool:=decide ((dat ds x).kind≠3)||kwB (dat ds x).name||inL ns (dat ds x).name
def JY (ds:List Dat):List Nat→List ByteArray→Option (List ByteArray)
 |[],ns=>some ns
 |k::r,ns=>if badP ds k ns then none else JY ds r (ns++[(dat ds k).name])
def UU (ds:List Dat):List Nat→List ByteArray→List Nat→Option (List ByteArray × List Nat)
 |[],ns,vs=>some (ns,vs)
 |k::r,ns,vs=>if (Qe ds k).length≠2 then none else if badP ds ((Qe ds k).getD 0 0) ns then none else UU ds r (ns++[(dat ds ((Qe ds k).getD 0 0)).name]) (vs++[(Qe ds k).getD 1 0])
abbrev Gx:=Nat→Int→Sco→List Cor→Ex
def lamE (ds:List Dat) (g:Gx) (ks:List Nat) (p:Int) (sc:Sco) (C:List Cor):Ex:=
 if ks.length≠3∨(dat ds (ks.getD 1 0)).kind≠4 then (C,1)
 else match JY ds (Qe ds (ks.getD 1 0)) [] with
  |none=>(C,1)
  |some ns=>if 3<ns.length then (C,2) else g (ks.getD 2 0) (C.length:Int) (ns::sc) (C++[nodC 5 p ns.length])
def letE (ds:List Dat) (g:Gx) (ks:List Nat) (p:Int) (sc:Sco) (C:List Cor):Ex:=
 if ks.length≠3∨(dat ds (ks.getD 1 0)).kind≠4 then (C,1)
 else match UU ds (Qe ds (ks.getD 1 0)) [] [] with
  |none=>(C,1)
  |some (ns,vs)=>if 3<ns.length then (C,2)
   else if (g (ks.getD 2 0) ((C.length+1:Nat):Int) (ns::sc) (C++[nodC 9 p 0]++[nodC 5 (C.length:Int) ns.length])).2≠0 then g (ks.getD 2 0) ((C.length+1:Nat):Int) (ns::sc) (C++[nodC 9 p 0]++[nodC 5 (C.length:Int) ns.length])
   else allE (fun k C'=>g k (C.length:Int) sc C') vs (g (ks.getD 2 0) ((C.length+1:Nat):Int) (ns::sc) (C++[nodC 9 p 0]++[nodC 5 (C.length:Int) ns.length])).1
def asgE (ds:List Dat) (g:Gx) (ks:List Nat) (p:Int) (sc:Sco) (C:List Cor) (kind:Int):Ex:=
 if ks.length≠3∨(kind=8∧p≠ -1) then (C,1)
 else if badP ds (ks.getD 1 0) [] then (C,1)
 else if (JA sc (dat ds (ks.getD 1 0)).name).isSome then (C,1)
 else g (ks.getD 2 0) (C.length:Int) sc (C++[nmdC kind p (dat ds (ks.getD 1 0)).name])
def Qa2 (ds:List Dat) (g:Gx) (w:ByteArray) (ks:List Nat) (p:Int) (sc:Sco) (C:List Cor):Ex:=
 if w=⟨#[113,117,111,116,101]⟩ then (if ks.length≠2 then (C,1) else (C++[konC p (subD ds (ks.getD 1 0))],0))
 else if w=⟨#[105,102]⟩ then (if ks.length≠4 then (C,1) else allE (fun k C'=>g k (C.length:Int) sc C') (ks.drop 1) (C++[nodC 4 p 0]))
 else if w=⟨#[98,101,103,105,110]⟩ then (if ks.length<2 then (C,1) else allE (fun k C'=>g k (C.length:Int) sc C') (ks.drop 1) (C++[nodC 6 p 0]))
 else if w=⟨#[108,97,109,98,100,97]⟩ then lamE ds g ks p sc C
 else if w=⟨#[108,101,116]⟩ then letE ds g ks p sc C
 else if w=⟨#[100,101,102,105,110,101]⟩ then asgE ds g ks p sc C 8
 else asgE ds g ks p sc C 7
def expE (ds:List Dat):Nat→Gx
 |0,_,_,_,C=>(C,1)
 |f+1,x,p,sc,C=>
  if (dat ds x).kind=1∨(dat ds x).kind=2 then (C++[konC p (subD ds x)],0)
  else if (dat ds x).kind=3 then
   (if kwB (dat ds x).name then (C,1)
   else match JA sc (dat ds x).name with
    |some (a,b)=>(C++[locC p a b],0)
    |none=>(C++[nmdC 3 p (dat ds x).name],0))
  else if (Qe ds x).length=0 then (C,1)
  else if (dat ds ((Qe ds x).getD 0 0)).kind=3∧kwB (dat ds ((Qe ds x).getD 0 0)).name=true then Qa2 ds (expE ds f) (dat ds ((Qe ds x).getD 0 0)).name (Qe ds x) p sc C
  else if 4<(Qe ds x).length then (C,2)
  else allE (fun k C'=>expE ds f k (C.length:Int) sc C') (Qe ds x) (C++[nodC 9 p 0])
def expR (ds:List Dat):Ex:=
 if JM ds≠0 then ([],JM ds)
 else if (expE ds ds.length 0 (-1) [] []).2≠0 then ([],(expE ds ds.length 0 (-1) [] []).2)
 else if 160<(expE ds ds.length 0 (-1) [] []).1.length then ([],2)
 else ((expE ds ds.length 0 (-1) [] []).1,0)
def cntC (S:List Cor) (q:Int):Nat:=(S.filter fun c=>decide (c.parent=q)).length
theorem QpK (S T:List Cor) (q:Int):cntC (S++T) q=cntC S q+cntC T q:=by simp[cntC]
theorem QiM (c:Cor) (S:List Cor) (q:Int):cntC (c::S) q=(if c.parent=q then 1 else 0)+cntC S q:=by
 unfold cntC;rw[List.filter_cons];split
 ·rename_i h;rw[if_pos (by simpa using h)];simp;omega
 ·rename_i h;rw[if_neg (by simpa using h)];omega
theorem Qqp {S:List Cor} {c:Cor} (h:c∈S):∃i,i<S.length∧Qj S i=c:=by
 obtain ⟨i,hi,rfl⟩:=List.getElem_of_mem h;exact ⟨i,hi,by simp[Qj,List.getD,hi]⟩
theorem Qnl {S:List Cor} {q:Int} (h:∀i,i<S.length→(Qj S i).parent≠q):cntC S q=0:=by
 unfold cntC;rw[List.length_eq_zero_iff,List.filter_eq_nil_iff];intro c hc;obtain ⟨i,hi,rfl⟩:=Qqp hc;simpa using h i hi
theorem Qej {S T:List Cor} {i:Nat} (h:i<S.length):Qj (S++T) i=Qj S i:=by simp[Qj,List.getD,List.getElem?_append_left h]
theorem Qdb {S T:List Cor} {i:Nat} (h:S.length≤i):Qj (S++T) i=Qj T (i - S.length):=by simp[Qj,List.getD,List.getElem?_append_right h]
structure Seg (n:Nat) (p:Int) (S:List Cor) (k:Nat):Prop where
 lt:p<n
 par:∀i,i<S.length→(Qj S i).parent=p∨((n:Int)≤(Qj S i).parent∧(Qj S i).parent<(n:Int)+i)
 cnt:cntC S p=k
 kid:∀i,i<S.length→hasK (Qj S i).kind (cntC S ((n+i:Nat):Int))
 kind:∀i,i<S.length→1≤(Qj S i).kind∧(Qj S i).kind≤9
 data:∀i,i<S.length→(Qj S i).data.length≤80
theorem Seg.nil {n:Nat} {p:Int} (h:p<n):Seg n p [] 0:=⟨h,(fun i h=>by simp at h),rfl,(fun i h=>by simp at h),(fun i h=>by simp at h),fun i h=>by simp at h⟩
theorem Seg.cat {n k l:Nat} {p:Int} {S T:List Cor} (h:Seg n p S k) (g:Seg (n+S.length) p T l):Seg n p (S++T) (k+l):=by
 have hlt:=h.lt;refine ⟨h.lt,fun i hi=>?_,by rw[QpK,h.cnt,g.cnt],fun i hi=>?_,fun i hi=>?_,fun i hi=>?_⟩
 ·by_cases c:i<S.length
  ·rw[Qej c];exact h.par i c
  ·rw[Qdb (by omega)];have:=g.par (i - S.length) (by rw[List.length_append] at hi;omega);omega
 ·by_cases c:i<S.length
  ·rw[Qej c,QpK,Qnl (S:=T),Nat.add_zero]
   ·exact h.kid i c
   ·intro j hj;have:=g.par j hj;omega
  ·rw[Qdb (by omega),QpK,Qnl (S:=S),Nat.zero_add]
   ·have:=g.kid (i - S.length) (by rw[List.length_append] at hi;omega)
    rwa [show n+S.length+(i - S.length)=n+i by omega] at this
   ·intro j hj;have:=h.par j hj;omega
 ·by_cases c:i<S.length
  ·rw[Qej c];exact h.kind i c
  ·rw[Qdb (by omega)];exact g.kind _ (by rw[List.length_append] at hi;omega)
 ·by_cases c:i<S.length
  ·rw[Qej c];exact h.data i c
  ·rw[Qdb (by omega)];exact g.data _ (by rw[List.length_append] at hi;omega)
theorem Seg.node {n k:Nat} {p:Int} {c:Cor} {S:List Cor} (h:Seg (n+1) (n:Int) S k) (hp:p<n) (hc:c.parent=p) (hk:hasK c.kind k) (hr:1≤c.kind∧c.kind≤9) (hd:c.data.length≤80):Seg n p (c::S) 1:=by
 have e0:Qj (c::S) 0=c:=rfl;have e1:∀i,Qj (c::S) (i+1)=Qj S i:=fun i=>by simp[Qj]
 refine ⟨hp,fun i hi=>?_,?_,fun i hi=>?_,fun i hi=>?_,fun i hi=>?_⟩
 ·cases i with
  |zero=>rw[e0];exact .inl hc
  |succ i=>
   rw[e1];have:=h.par i (by simpa using hi);omega
 ·rw[QiM,if_pos hc,Qnl];intro i hi;have:=h.par i hi;omega
 ·cases i with
  |zero=>
   rw[e0,QiM,if_neg (by omega),Nat.zero_add,Nat.add_zero,h.cnt];exact hk
  |succ i=>
   rw[e1,QiM,if_neg (by omega),Nat.zero_add];have:=h.kid i (by simpa using hi)
   rwa [show n+1+i=n+(i+1) by omega] at this
 ·cases i with
  |zero=>exact hr
  |succ i=>rw[e1];exact h.kind i (by simpa using hi)
 ·cases i with
  |zero=>exact hd
  |succ i=>rw[e1];exact h.data i (by simpa using hi)
def QbH (r:Ex) (C:List Cor) (p:Int) (k:Nat):Prop:=r.2=0→∃S,r.1=C++S∧Seg C.length p S k
theorem Qgx {p:Int} {g:Nat→List Cor→Ex} (hg:∀k C,p<(C.length:Int)→QbH (g k C) C p 1):∀ks C,p<(C.length:Int)→QbH (allE g ks C) C p ks.length:=by
 intro ks
 induction ks with
 |nil=>intro C hp _;exact ⟨[],by simp[allE],.nil hp⟩
 |cons k r ih=>
  intro C hp h;rw[allE] at h ⊢;by_cases c:(g k C).2=0
  ·rw[if_neg (by simpa using c)] at h ⊢;obtain ⟨S,e,hs⟩:=hg k C hp c;rw[e] at h ⊢;obtain ⟨T,e2,ht⟩:=ih (C++S) (by simp;omega) h;refine ⟨S++T,by rw[e2,List.append_assoc],?_⟩;rw[List.length_append] at ht;have:=hs.cat ht
   rwa [List.length_cons,Nat.add_comm r.length 1]
  ·rw[if_pos (by simpa using c)] at h;exact absurd h c
theorem Qgy {C:List Cor} {p:Int} {c:Cor} (hp:p<(C.length:Int)) (hc:c.parent=p) (hk:hasK c.kind 0) (hr:1≤c.kind∧c.kind≤9) (hd:c.data.length≤80):QbH (C++[c],0) C p 1:=
 fun _=>⟨[c],rfl,(Seg.nil (n:=C.length+1) (p:=(C.length:Int)) (by omega)).node hp hc hk hr hd⟩
theorem Qah {C:List Cor} {p:Int} {c:Cor} {r:Ex} {k:Nat} (h:QbH r (C++[c]) (C.length:Int) k) (hp:p<(C.length:Int)) (hc:c.parent=p) (hk:r.2=0→hasK c.kind k) (hr:1≤c.kind∧c.kind≤9) (hd:c.data.length≤80):QbH r C p 1:=by
 intro h0;obtain ⟨S,e,hs⟩:=h h0;rw[List.length_append] at hs;exact ⟨c::S,by rw[e,List.append_assoc];rfl,hs.node hp hc (hk h0) hr hd⟩
theorem Jx {C D:List Cor} {p:Int} {k:Nat} {e:Int} (h:e≠0):QbH (D,e) C p k:=fun h0=>absurd h0 h
section
variable {ds:List Dat}
abbrev QkY (g:Gx):Prop:=∀x p sc C,p<(C.length:Int)→QbH (g x p sc C) C p 1
theorem Qu9 {g:Gx} (hg:QkY g) {ks:List Nat} {p:Int} {sc:Sco} {C:List Cor} (hp:p<(C.length:Int)):QbH (lamE ds g ks p sc C) C p 1:=by
 unfold lamE;split
 ·exact Jx (by decide)
 ·split
  ·exact Jx (by decide)
  ·split
   ·exact Jx (by decide)
   ·exact Qah (hg _ _ _ _ (by simp;omega)) hp rfl (fun _=>by simp[hasK,nodC]) (by simp[nodC]) (by simp[nodC])
theorem Qva {g:Gx} (hg:QkY g) {ks:List Nat} {p:Int} {sc:Sco} {C:List Cor} (hp:p<(C.length:Int)) (hl:∀ns vs,UU ds (Qe ds (ks.getD 1 0)) [] []=some (ns,vs)→vs.length=ns.length):QbH (letE ds g ks p sc C) C p 1:=by
 unfold letE;split
 ·exact Jx (by decide)
 ·split
  ·exact Jx (by decide)
  ·rename_i ns vs e;have hvl:=hl ns vs e;split
   ·exact Jx (by decide)
   ·rename_i h3;refine Qah (c:=nodC 9 p 0) (k:=vs.length+1) ?_ hp rfl (fun _=>?_) (by simp[nodC]) (by simp[nodC])
    ·have hb:QbH (g (ks.getD 2 0) ((C.length+1:Nat):Int) (ns::sc) (C++[nodC 9 p 0]++[nodC 5 (C.length:Int) ns.length])) (C++[nodC 9 p 0]) (C.length:Int) 1:=by
      refine Qah (c:=nodC 5 (C.length:Int) ns.length) (k:=1) ?_ (by simp;omega) rfl (fun _=>by simp[hasK,nodC]) (by simp[nodC]) (by simp[nodC]);have:=hg (ks.getD 2 0) ((C.length+1:Nat):Int) (ns::sc) (C++[nodC 9 p 0]++[nodC 5 (C.length:Int) ns.length]) (by simp);simpa using this
     generalize g (ks.getD 2 0) ((C.length+1:Nat):Int) (ns::sc) (C++[nodC 9 p 0]++[nodC 5 (C.length:Int) ns.length])=r at hb ⊢;split
     ·rename_i hne;exact fun h0=>absurd h0 hne
     ·rename_i hne;obtain ⟨S,e1,hs⟩:=hb (by simpa using hne);intro h0;rw[e1] at h0 ⊢;obtain ⟨T,e2,ht⟩:=Qgx (p:=(C.length:Int)) (g:=fun k C'=>g k (C.length:Int) sc C') (fun k C' h=>hg _ _ _ _ h) vs (C++[nodC 9 p 0]++S) (by simp;omega) h0;refine ⟨S++T,by rw[e2,List.append_assoc],?_⟩;rw[List.length_append] at ht;have:=hs.cat ht
      rwa [Nat.add_comm 1] at this
    ·rw[hvl];simp[hasK,nodC];omega
theorem Qqq {g:Gx} (hg:QkY g) {ks:List Nat} {p kind:Int} {sc:Sco} {C:List Cor} (hp:p<(C.length:Int)) (hk:kind=7∨kind=8):QbH (asgE ds g ks p sc C kind) C p 1:=by
 unfold asgE;split
 ·exact Jx (by decide)
 ·split
  ·exact Jx (by decide)
  ·split
   ·exact Jx (by decide)
   ·exact Qah (hg _ _ _ _ (by simp;omega)) hp rfl (fun _=>by rcases hk with rfl|rfl<;>simp[hasK,nmdC]) (by rcases hk with rfl|rfl<;>simp[nmdC]) (by simp[nmdC])
theorem QwZ:∀(l:List Nat) (ns:List ByteArray) (vs:List Nat) (ns':List ByteArray) (vs':List Nat),ns.length=vs.length→UU ds l ns vs=some (ns',vs')→vs'.length=ns'.length:=by
 intro l
 induction l with
 |nil=>intro ns vs ns' vs' h e;simp only[UU,Option.some.injEq,Prod.mk.injEq] at e;rw[←e.1,←e.2,h]
 |cons k r ih=>
  intro ns vs ns' vs' h e;rw[UU] at e;split at e
  ·cases e
  ·split at e
   ·cases e
   ·exact ih _ _ _ _ (by simp[h]) e
theorem Qt0 {g:Gx} (hl:ds.length≤80) (hg:QkY g) {w:ByteArray} {ks:List Nat} {p:Int} {sc:Sco} {C:List Cor} (hp:p<(C.length:Int)):QbH (Qa2 ds g w ks p sc C) C p 1:=by
 unfold Qa2;split
 ·split
  ·exact Jx (by decide)
  ·exact Qgy hp rfl (by simp[hasK,konC]) (by simp[konC]) (Nat.le_trans (Qtg ..) hl)
 split
 ·split
  ·exact Jx (by decide)
  ·rename_i h4;exact Qah (Qgx (fun k C' h=>hg _ _ _ _ h) _ _ (by simp;omega)) hp rfl (fun _=>by simp[hasK,nodC];omega) (by simp[nodC]) (by simp[nodC])
 split
 ·split
  ·exact Jx (by decide)
  ·rename_i h4;exact Qah (Qgx (fun k C' h=>hg _ _ _ _ h) _ _ (by simp;omega)) hp rfl (fun _=>by simp[hasK,nodC];omega) (by simp[nodC]) (by simp[nodC])
 split
 ·exact Qu9 hg hp
 split
 ·exact Qva hg hp fun ns vs e=>QwZ _ _ _ _ _ rfl e
 split
 ·exact Qqq hg hp (.inr rfl)
 ·exact Qqq hg hp (.inl rfl)
theorem Qvb (hl:ds.length≤80):∀f,QkY (expE ds f):=by
 intro f
 induction f with
 |zero=>intro x p sc C _;exact Jx (by decide)
 |succ f ih=>
  intro x p sc C hp;rw[expE];split
  ·exact Qgy hp rfl (by simp[hasK,konC]) (by simp[konC]) (Nat.le_trans (Qtg ..) hl)
  split
  ·split
   ·exact Jx (by decide)
   ·split
    ·exact Qgy hp rfl (by simp[hasK,locC]) (by simp[locC]) (by simp[locC])
    ·exact Qgy hp rfl (by simp[hasK,nmdC]) (by simp[nmdC]) (by simp[nmdC])
  split
  ·exact Jx (by decide)
  rename_i hne;split
  ·exact Qt0 hl ih hp
  split
  ·exact Jx (by decide)
  ·exact Qah (Qgx (fun k C' h=>ih _ _ _ _ h) _ _ (by simp;omega)) hp rfl (fun _=>by simp[hasK,nodC];omega) (by simp[nodC]) (by simp[nodC])
theorem Qw0 (S:List Cor) (q:Nat):(QG S q).length=cntC S (q:Int):=by
 unfold QG cntC;have h:S=(List.range S.length).map (Qj S):=by
  apply List.ext_getElem (by simp)
  intro i h1 h2;simp[Qj,List.getD,h1]
 conv=>rhs;rw[h]
 rw[List.filter_map,List.length_map];rfl
theorem QkZ (h:JM ds=0):1≤ds.length∧ds.length≤80:=by
 unfold JM at h;split at h
 ·rename_i c;simp only[inB,Bool.and_eq_true,decide_eq_true_iff] at c;omega
 ·cases h
theorem QzV (h:(expR ds).2=0):WfC (expR ds).1∧∀i,(Qj (expR ds).1 i).data.length≤80:=by
 unfold expR at h ⊢;split at h
 ·rename_i c;exact absurd h c
 rename_i hd;rw[if_neg hd];split at h
 ·rename_i c;exact absurd h c
 rename_i he;rw[if_neg he];split at h
 ·cases h
 rename_i hm;rw[if_neg hm];obtain ⟨S,e,hs⟩:=Qvb (QkZ (by simpa using hd)).2 ds.length 0 (-1) [] [] (by simp) (by simpa using he);rw[List.nil_append] at e;rw[e] at hm ⊢;have hlt:=hs.lt;have hne:S≠[]:=by rintro rfl;have:=hs.cnt;simp[cntC] at this
 have hp0:0<S.length:=List.length_pos_iff.2 hne;have h0:(Qj S 0).parent= -1:=by have:=hs.par 0 hp0;simp only[List.length_nil] at this;omega
 refine ⟨⟨⟨hp0,by simpa using hm⟩,hs.kind,h0,fun i hi hl=>?_,fun i hi=>?_⟩,fun i=>?_⟩
 ·have hi':=hs.par i hl;simp only[List.length_nil] at hi';rcases hi' with c|c
  ·exfalso;have hc:=hs.cnt;obtain ⟨c0,r,rfl⟩:∃c0 r,S=c0::r:=by
    match S,hne with
    |c0::r,_=>exact ⟨c0,r,rfl⟩
   rw[QiM,if_pos (show c0.parent= -1 from h0)] at hc;have hz:cntC r (-1)=0:=by omega
   have hm:Qj (c0::r) i∈r:=by
    obtain ⟨j,rfl⟩:∃j,i=j+1:=⟨i - 1,by omega⟩;have hj:j<r.length:=by simpa using hl
    have:Qj (c0::r) (j+1)=r[j]:=by simp[Qj,List.getD,hj]
    rw[this];exact List.getElem_mem hj
   unfold cntC at hz;rw[List.length_eq_zero_iff,List.filter_eq_nil_iff] at hz;exact hz _ hm (by simpa using c)
  ·omega
 ·rw[Qw0];have:=hs.kid i hi;simpa using this
 ·by_cases c:i<S.length
  ·exact hs.data i c
  ·unfold Qj;simp[List.getD,List.getElem?_eq_none (Nat.le_of_not_lt c)];exact Nat.zero_le _
end
end
section
def fakC (ds:List Dat):List Cor:=(List.range ds.length).map fun i=>nodC (if Qe ds i=[] then 3 else 6) (dat ds i).parent 0
section
variable {ds:List Dat} [L:Lam]
theorem Qa3:(fakC ds).length=ds.length:=by simp[fakC]
theorem Qk0 {i:Nat} (h:i<ds.length):Qj (fakC ds) i=nodC (if Qe ds i=[] then 3 else 6) (dat ds i).parent 0:=by simp[Qj,fakC,List.getD,h]
theorem Qnm (x:Nat):QG (fakC ds) x=Qe ds x:=by
 unfold QG;rw[Qa3];unfold Qe;refine List.filter_congr fun i hi=>?_
 rw[Qk0 (List.mem_range.1 hi)];rfl
theorem Qk1 {i:Nat} (h:datF ds i=0):(i=0→(dat ds i).parent= -1)∧(0<i→0≤(dat ds i).parent∧(dat ds i).parent<i)∧1≤(dat ds i).kind∧(dat ds i).kind≤4:=by
 unfold datF at h;split at h
 ·cases h
 rename_i hb;have hk:1≤(dat ds i).kind∧(dat ds i).kind≤4:=by
  simp only[Qee,inB,Bool.and_eq_true,decide_eq_true_iff,Bool.not_eq_false] at hb;exact hb.1.1
 split at h
 ·rename_i hk;exact absurd h hk
 split at h
 ·rename_i h0;split at h
  ·cases h
  ·rename_i h1;exact ⟨fun _=>by simpa using h1,fun c=>by omega,hk⟩
 ·rename_i h0;split at h
  ·cases h
  ·rename_i h1;simp only[inB,Bool.and_eq_true,decide_eq_true_iff,Bool.not_eq_false] at h1;exact ⟨fun c=>absurd c h0,fun _=>by omega,hk⟩
structure DOk (ds:List Dat):Prop where
 len:1≤ds.length∧ds.length≤80
 top:(dat ds 0).parent= -1
 par:∀i,0<i→i<ds.length→0≤(dat ds i).parent∧(dat ds i).parent<i
 kind:∀i,i<ds.length→1≤(dat ds i).kind∧(dat ds i).kind≤4
 pars:∀i,i≤ds.length→Pars ds i
theorem DOk.of (h:JM ds=0):DOk ds:=by
 have hl:=QkZ h;have hz:∀j,j<ds.length→datF ds j=0:=by
  unfold JM at h;split at h
  ·intro j hj;exact Qbt _ _ h j (Nat.zero_le _) (by omega)
  ·cases h
 exact ⟨hl,(Qk1 (hz 0 (by omega))).1 rfl,fun i hi hl=>(Qk1 (hz i hl)).2.1 hi,fun i hl=>(Qk1 (hz i hl)).2.2,fun i hi=>Qlg fun j hj=>hz j (by omega)⟩
theorem Qqr {x k:Nat}:k∈Qe ds x↔k<ds.length∧(dat ds k).parent=(x:Int):=by simp[Qe]
theorem DOk.kid (h:DOk ds) {x k:Nat} (hk:k∈Qe ds x):x<k∧k<ds.length:=by
 obtain ⟨h1,h2⟩:=Qqr.1 hk;have h0:0<k:=by
  rcases Nat.eq_zero_or_pos k with c|c
  ·subst c;rw[h.top] at h2;omega
  ·exact c
 have:=h.par k h0 h1;omega
theorem DOk.fak (h:DOk ds):WfC (fakC ds):=by
 have hl:=h.len;refine ⟨by rw[Qa3];omega,fun i hi=>?_,?_,fun i h0 hi=>?_,fun i hi=>?_⟩
 ·rw[Qa3] at hi;rw[Qk0 hi];simp only[nodC];split<;>omega
 ·rw[Qk0 (by omega)];exact h.top
 ·rw[Qa3] at hi;rw[Qk0 hi];exact h.par i h0 hi
 ·rw[Qa3] at hi;rw[Qk0 hi,Qnm];simp only[nodC];split
  ·rename_i c;rw[c];simp[hasK]
  ·rename_i c;have:=List.length_pos_iff.2 c;simp[hasK];omega
theorem Qt1 {X Y:Type} {f g:X→List Y}:∀l:List X,(∀x,x∈l→f x=g x)→l.flatMap f=l.flatMap g:=by
 intro l
 induction l with
 |nil=>intro _;rfl
 |cons x r ih=>intro h;rw[List.flatMap_cons,List.flatMap_cons,h x (by simp),ih fun y hy=>h y (by simp[hy])]
theorem Qw1 {cs:List Cor} (hw:WfC cs):∀f x,x<cs.length→cs.length≤f+x→vis cs (f+1) x=vis cs f x:=by
 intro f
 induction f with
 |zero=>intro x h1 h2;omega
 |succ f ih=>
  intro x h1 h2;rw[vis]
  conv=>rhs;rw[vis]
  rw[Qt1 (QG cs x) fun k hk=>ih k (hw.kid hk).2 (by have:=hw.kid hk;omega)]
def nv (ds:List Dat) (x:Nat):Nat:=(vis (fakC ds) ds.length x).length
def nvK (ds:List Dat) (ks:List Nat):Nat:=(ks.map (nv ds)).sum
theorem Qfl (k:Nat) (r:List Nat):nvK ds (k::r)=nv ds k+nvK ds r:=by simp[nvK]
theorem Qh8 (a b:List Nat):nvK ds (a++b)=nvK ds a+nvK ds b:=by simp[nvK]
theorem Qgz (h:DOk ds) {x:Nat} (hx:x<ds.length):nv ds x=1+nvK ds (Qe ds x):=by
 have hl:=h.len;obtain ⟨n,hn⟩:∃n,ds.length=n+1:=⟨ds.length - 1,by omega⟩;unfold nv;rw[hn,Qlj,Qnm]
 congr 1
 unfold visK nvK nv
 congr 1
 refine List.map_congr_left fun k hk=>?_
 have:=h.kid hk;rw[hn,Qw1 h.fak n k (by rw[Qa3];omega) (by rw[Qa3];omega)]
theorem Qr4 (h:DOk ds) {x:Nat} (hx:x<ds.length):nv ds x≤160:=QkR h.fak _ _ (by rw[Qa3];exact hx)
theorem Qca {ks:List Nat} {j:Nat} (h:j<ks.length):nvK ds ks=nvK ds (ks.take j)+(nv ds (ks.getD j 0)+nvK ds (ks.drop (j+1))):=by
 have e:ks.getD j 0=ks[j]:=by simp[List.getD,h]
 rw[e];have h1:=Qh8 (ds:=ds) (ks.take j) (ks.drop j);rw[List.take_append_drop,List.drop_eq_getElem_cons h,Qfl] at h1;exact h1
theorem Qaq {ks:List Nat} {j:Nat} (h:j<ks.length):nv ds (ks.getD j 0)≤nvK ds ks:=by rw[Qca h];omega
theorem Qnn (ks:List Nat) (j:Nat):nvK ds (ks.drop j)≤nvK ds ks:=by
 have h1:=Qh8 (ds:=ds) (ks.take j) (ks.drop j);rw[List.take_append_drop] at h1;omega
theorem QD {ks:List Nat} {j:Nat} (h:j<ks.length):ks.getD j 0∈ks:=by
 have e:ks.getD j 0=ks[j]:=by simp[List.getD,h]
 rw[e];exact List.getElem_mem h
theorem QpL (h:DOk ds):∀(l:List Nat) (ns:List ByteArray) (vs:List Nat) (ns':List ByteArray) (vs':List Nat),(∀k,k∈l→k<ds.length)→UU ds l ns vs=some (ns',vs')→nvK ds vs'≤nvK ds vs+nvK ds l∧∀v,v∈vs'→v∈vs∨(v<ds.length∧∃k,k∈l∧k<v):=by
 intro l
 induction l with
 |nil=>
  intro ns vs ns' vs' _ e;simp only[UU,Option.some.injEq,Prod.mk.injEq] at e;rw[←e.2];exact ⟨by omega,fun v hv=> .inl hv⟩
 |cons k r ih=>
  intro ns vs ns' vs' hl e;rw[UU] at e;split at e
  ·cases e
  ·rename_i h2;split at e
   ·cases e
   ·have h2':(Qe ds k).length=2:=by omega
    obtain ⟨g1,g2⟩:=ih _ _ _ _ (fun q hq=>hl q (by simp[hq])) e;have hk:=hl k (by simp);have hm:=QD (ks:=Qe ds k) (j:=1) (by omega);have ho:=Qaq (ds:=ds) (ks:=Qe ds k) (j:=1) (by omega);have he:=Qgz h hk;rw[Qh8,Qfl] at g1;have e0:nvK ds []=0:=rfl;refine ⟨by rw[Qfl];omega,fun v hv=>?_⟩;rcases g2 v hv with c|⟨c,q,c2,c3⟩
    ·rcases List.mem_append.1 c with c|c
     ·exact .inl c
     ·obtain rfl:=List.mem_singleton.1 c;exact .inr ⟨(h.kid hm).2,k,by simp,(h.kid hm).1⟩
    ·exact .inr ⟨c,q,by simp[c2],c3⟩
def Less (ds:List Dat) (g:Gx):Prop:=∀x p sc C,x<ds.length→(g x p sc C).1.length≤C.length+2*nv ds x
theorem Qno {g:Nat→List Cor→Ex}:∀(ks:List Nat) (C:List Cor),(∀k C,k∈ks→(g k C).1.length≤C.length+2*nv ds k)→(allE g ks C).1.length≤C.length+2*nvK ds ks:=by
 intro ks
 induction ks with
 |nil=>intro C _;simp[allE]
 |cons k r ih=>
  intro C h;have h1:=h k C (by simp);rw[allE,Qfl];split
  ·omega
  ·have:=ih (g k C).1 fun q C hq=>h q C (by simp[hq])
   omega
theorem Qvc (h:DOk ds) {g:Gx} (hg:Less ds g) {w:ByteArray} {x:Nat} {p:Int} {sc:Sco} {C:List Cor} (hx:x<ds.length):(Qa2 ds g w (Qe ds x) p sc C).1.length≤C.length+2*nv ds x:=by
 have he:=Qgz h hx;have hk:∀k,k∈Qe ds x→k<ds.length:=fun k hk=>(h.kid hk).2
 have hal:∀c,(allE (fun k C'=>g k (C.length:Int) sc C') ((Qe ds x).drop 1) (C++[c])).1.length≤C.length+2*nv ds x:=fun c=>by
  have h1:=Qno (ds:=ds) (g:=fun k C'=>g k (C.length:Int) sc C') ((Qe ds x).drop 1) (C++[c]) fun k C' hm=>hg _ _ _ _ (hk k (List.mem_of_mem_drop hm))
  have h2:=Qnn (ds:=ds) (Qe ds x) 1;simp only[List.length_append,List.length_cons,List.length_nil] at h1;omega
 unfold Qa2;split
 ·split
  ·simp
  ·simp;omega
 split
 ·split
  ·simp
  ·exact hal _
 split
 ·split
  ·simp
  ·exact hal _
 split
 ·unfold lamE;split
  ·simp
  ·rename_i h3;have h3':(Qe ds x).length=3:=by omega
   split
   ·simp
   ·split
    ·simp
    ·rename_i ns _ _;have h1:=hg ((Qe ds x).getD 2 0) (C.length:Int) (ns::sc) (C++[nodC 5 p ns.length]) (hk _ (QD (by omega)));have h2:=Qaq (ds:=ds) (ks:=Qe ds x) (j:=2) (by omega);simp only[List.length_append,List.length_cons,List.length_nil] at h1;omega
 split
 ·unfold letE;split
  ·simp
  ·rename_i h3;have h3':(Qe ds x).length=3:=by omega
   split
   ·simp
   ·rename_i ns vs e;split
    ·simp
    ·have h1:=hg ((Qe ds x).getD 2 0) ((C.length+1:Nat):Int) (ns::sc) (C++[nodC 9 p 0]++[nodC 5 (C.length:Int) ns.length]) (hk _ (QD (by omega)));have m1:=Qca (ds:=ds) (ks:=Qe ds x) (j:=1) (by omega);have m2:=Qaq (ds:=ds) (ks:=(Qe ds x).drop 2) (j:=0) (by rw[List.length_drop];omega);have e2:((Qe ds x).drop 2).getD 0 0=(Qe ds x).getD 2 0:=by simp[List.getD]
     rw[e2] at m2;simp only[Nat.reduceAdd] at m1;have hk1:=hk _ (QD (ks:=Qe ds x) (j:=1) (by omega));have he1:=Qgz h hk1;have ll:=QpL h _ _ _ _ _ (fun k hk=>(h.kid hk).2) e;have e0:nvK ds []=0:=rfl;simp only[List.length_append,List.length_cons,List.length_nil] at h1;generalize g ((Qe ds x).getD 2 0) ((C.length+1:Nat):Int) (ns::sc) (C++[nodC 9 p 0]++[nodC 5 (C.length:Int) ns.length])=r at h1 ⊢;split
     ·omega
     ·have h4:=Qno (ds:=ds) (g:=fun k C'=>g k (C.length:Int) sc C') vs r.1 fun k C' hm=>hg _ _ _ _ (by
       rcases ll.2 k hm with c|c
       ·cases c
       ·exact c.1)
      omega
 have asg:∀kind,(asgE ds g (Qe ds x) p sc C kind).1.length≤C.length+2*nv ds x:=fun kind=>by
  unfold asgE;split
  ·simp
  ·rename_i h3;have h3':(Qe ds x).length=3:=by omega
   split
   ·simp
   ·split
    ·simp
    ·have h1:=hg ((Qe ds x).getD 2 0) (C.length:Int) sc (C++[nmdC kind p (dat ds ((Qe ds x).getD 1 0)).name]) (hk _ (QD (by omega)));have h2:=Qaq (ds:=ds) (ks:=Qe ds x) (j:=2) (by omega);simp only[List.length_append,List.length_cons,List.length_nil] at h1;omega
 split
 ·exact asg 8
 ·exact asg 7
theorem Qfm (h:DOk ds):∀f,Less ds (expE ds f):=by
 intro f
 induction f with
 |zero=>intro x p sc C _;simp[expE]
 |succ f ih=>
  intro x p sc C hx;have he:=Qgz h hx;rw[expE];split
  ·simp;omega
  split
  ·split
   ·simp
   ·split
    ·simp;omega
    ·simp;omega
  split
  ·simp
  split
  ·exact Qvc h ih hx
  split
  ·simp
  ·have h1:=Qno (ds:=ds) (g:=fun k C'=>expE ds f k (C.length:Int) sc C') (Qe ds x) (C++[nodC 9 p 0]) fun k C' hm=>ih _ _ _ _ (h.kid hm).2
   simp only[List.length_append,List.length_cons,List.length_nil] at h1;omega
abbrev Frs:=List (List ByteArray × Int)
inductive Chain (F:Frs):Int→Sco→Prop
 |nil:Chain F (-1) []
 |cons {i:Nat} {ns:List ByteArray} {out:Int} {sc:Sco}:F[i]? =some (ns,out)→out<(i:Int)→Chain F out sc→Chain F (i:Int) (ns::sc)
theorem Chain.app {F:Frs} {f:Int} {sc:Sco} (h:Chain F f sc) (X:Frs):Chain (F++X) f sc:=by
 induction h with
 |nil=>exact .nil
 |cons h1 h2 _ ih=>
  refine .cons ?_ h2 ih;rw[List.getElem?_append_left (List.getElem?_eq_some_iff.1 h1).1];exact h1
theorem Chain.lt {F:Frs} {f:Int} {sc:Sco} (h:Chain F f sc): -1≤f∧f<F.length:=by
 cases h with
 |nil=>omega
 |cons h1 _ _=>have:=(List.getElem?_eq_some_iff.1 h1).1;omega
theorem Chain.new {F:Frs} {f:Int} {sc:Sco} (h:Chain F f sc) (ns:List ByteArray):Chain (F++[(ns,f)]) (F.length:Int) (ns::sc):=
 .cons (by simp) h.lt.2 (h.app _)
end
end
section
set_option maxRecDepth 100000
variable [L:Lam] {σ τ τ':AH} {R:AEnd→AH→Prop}
section
variable {ds:List Dat}
def kdTo (ds:List Dat) (i x:Nat):List Nat:=(List.range i).filter fun j=>decide ((dat ds j).parent=(x:Int))
theorem QgA (ds:List Dat) (i x:Nat):kdTo ds (i+1) x=kdTo ds i x++(if (dat ds i).parent=(x:Int) then [i] else []):=by
 unfold kdTo;rw[List.range_succ,List.filter_append]
 congr 1
 by_cases c:(dat ds i).parent=(x:Int)<;>simp[c]
theorem Qth (ds:List Dat) (i x:Nat):(kdTo ds i x).length≤i:=by
 unfold kdTo;exact Nat.le_trans (List.length_filter_le _ _) (by simp)
theorem U1 {x:Nat} (hl:ds.length≤1000000) (h:R (.ret (roK (Qe ds x))) σ):acall TP QfS [roD ds,iv (x:Int)] σ R:=by
 refine QlC ?_;unfold x70;dsimp only[den,dE,di,tupL,lTup,den2,den3,den4,List.map,den0,den1];refine bsl0 ?_;refine Ua ds.length (fun i y τ=>∃u,y=(roD ds,iv (x:Int),u,iv (i:Int),())∧Buf τ 1 u (innK (kdTo ds i x))∧AH.Sub σ τ∧∀ψ,ψ∈famL u→σ ψ=none) ⟨.emp,rfl,.inl ⟨.inr rfl,rfl⟩,.refl σ,fun ψ c=>by cases c⟩ ?_;rintro i _ τ hi ⟨u,rfl,hB,hs,hf⟩ R' hR';simp only[QA,RR];by_cases hlt:i<ds.length
 ·have g:(i:Int)<(ds.length:Int):=by omega
  have l1:∀τ,lod (.rop (Qc (dat ds i)) 1) τ=some (iv (dat ds i).parent):=fun _=>rfl
  simp only[g,Qq hlt Ql,QZ hlt,l1,jn,RR];by_cases c:(dat ds i).parent=(x:Int)
  ·simp only[c,RR];refine US (row:=[iv (i:Int)]) hB rfl (by omega) rfl (fun y hy=>by obtain rfl:=List.mem_singleton.1 hy;rfl) (by have:=Qth ds i x;simp;omega) fun u' τ' hB' hK hfam=>?_
   simp only[Qh hlt (by omega),RR];refine hR' _ _ _ hlt (.refl _) ⟨u',rfl,?_,hK.sub hs hf,fun ψ hψ=>(hfam ψ hψ).elim (hf ψ) fun d=>hs.none d⟩;rw[QgA,if_pos c];simpa[innK] using hB'
  ·simp only[c,Qh hlt (by omega),RR];refine hR' _ _ _ hlt (.refl _) ⟨u,rfl,?_,hs,hf⟩;rw[QgA,if_neg c,List.append_nil];exact hB
 ·have g:¬(i:Int)<(ds.length:Int):=by omega
  obtain rfl:i=ds.length:=by omega
  simp only[g,RR];exact QW hs (Uq hB hf rfl (by intro c hc;obtain ⟨o,_,rfl⟩:=List.mem_map.1 hc;rfl) fun _ _ _ _=> .same _) h
theorem Qk2 {x:Nat} (hd:DOk ds) (hx:x<ds.length) (h:R (.ret (roD (subD ds x))) σ):acall TP Qi1 [roD ds,iv (x:Int)] σ R:=by
 have hl:=hd.len;refine Qn8 ?_;unfold x177;dsimp only[den,dE,di,tupL,lTup,den2,den3,den4,List.map,den0,den1];refine QbC hx (by omega) (hd.pars _ hx) ?_;simp only[RR];refine bsl0 ?_;refine QF (fun n y τ=>∃(i:Nat) (u:AV) (es:List Dat),y=(roD ds,iv (x:Int),iv ((Q0 (par ds) (x:Int):Nat):Int),u,iv (i:Int),())∧Buf τ 4 u (es.map Qc)∧AH.Sub σ τ∧(∀ψ,ψ∈famL u→σ ψ=none)∧ds.length - i=n∧i≤ds.length∧x≤i∧es.length+x=i∧es++subG ds x (ds.length - i) i=subD ds x) (ds.length - x)
  ⟨x,.emp,[],rfl,.inl ⟨.inr rfl,rfl⟩,.refl σ,(fun ψ c=>by cases c),rfl,by omega,Nat.le_refl _,by simp,rfl⟩ ?_
 rintro n y τ ⟨i,u,es,rfl,hB,hs,hf,rfl,hi,hxi,hes,e⟩ R' hR';have stop:subG ds x (ds.length - i) i=[]→aret u τ R:=fun he=>by
  rw[he,List.append_nil] at e;rw[←e] at h;exact QW hs (Uq hB hf rfl (by intro c hc;obtain ⟨o,_,rfl⟩:=List.mem_map.1 hc;rfl) fun _ _ _ _=> .same _) h
 refine J3 (P:=fun z τ'=>τ'=τ∧∃b,z=(roD ds,iv (x:Int),iv ((Q0 (par ds) (x:Int):Nat):Int),u,iv (i:Int),bv b,())∧(b=true→i<ds.length∧(i=x∨QcB ds x<QcB ds i))∧(b=false→¬(i<ds.length∧(i=x∨QcB ds x<QcB ds i)))) ?_ ?_
 ·rintro z τ' ⟨rfl,b,rfl,h1,h0⟩;cases b with
  |false=>
   simp only[RR];refine stop ?_;cases hn:ds.length - i with
   |zero=>rfl
   |succ n=>rw[subG,if_neg (h0 rfl)]
  |true=>
   obtain ⟨hlt,hc⟩:=h1 rfl;obtain ⟨n,hn⟩:∃n,ds.length - i=n+1:=⟨ds.length - i - 1,by omega⟩;rw[hn,subG,if_pos ⟨hlt,hc⟩] at e;have hpar: -1≤(dat ds i).parent∧(dat ds i).parent≤80:=by
    rcases Nat.eq_zero_or_pos i with k|k
    ·subst k;rw[hd.top];omega
    ·have:=hd.par i k hlt;omega
   simp only[Qq hlt Ql,QZ hlt,Qu (Ql _),RR];intro φ hφ;refine QH (es:=[[iv 0,iv 0,iv 0,str ⟨#[]⟩]]) (cs:=Qc (dat ds i)) (AH.set_same ..) (by simp) rfl rfl rfl (Q2 _) ?_;simp only[List.set_cons_zero,AH.set_set];have el:lod (.ptr φ 0 0 1) (τ'.set φ ⟨0,4,[Qc (dat ds i)]⟩)=some (iv (dat ds i).parent):=Qz (AH.set_same ..) rfl rfl;have es1:ibin .sub (iv (dat ds i).parent) (iv (x:Int))=some (iv ((dat ds i).parent - x)):=QU (by omega) (by omega);simp only[el,es1,RR];refine Q4 (es:=[Qc (dat ds i)]) (cs:=Qc (dat ds i)) (AH.set_same ..) rfl (show 1<4 by omega) rfl rfl ?_;rw[AH.set_set];have x1:∀(d:Dat) (a:Int),[Qc d].set 0 ((Qc d).set 1 (iv a))=[Qc {d with parent:=a}]:=fun d a=>rfl
   rw[x1];refine J3 (P:=fun z τ2=>z=(roD ds,iv (x:Int),iv ((Q0 (par ds) (x:Int):Nat):Int),u,iv (i:Int),.ptr φ 0 0 0,())∧τ2=τ'.set φ ⟨0,4,[Qc {dat ds i with parent:=if i=x then -1 else (dat ds i).parent - x}]⟩) ?_ ?_
   ·rintro z τ2 ⟨rfl,rfl⟩;refine QK hφ rfl ?_;simp only[Qu (Ql _),RR];refine US (row:=Qc {dat ds i with parent:=if i=x then -1 else (dat ds i).parent - x}) hB rfl (by omega) rfl (Q2 _) (by simp;omega) fun u' τ3 hB' hK hfam=>?_
    simp only[Qh hlt (by omega),RR];refine hR' _ _ (ds.length - (i+1)) τ3 (by omega) (.refl _) ⟨i+1,u',es++[{dat ds i with parent:=if i=x then -1 else (dat ds i).parent - x}],rfl,by simpa using hB',hK.sub hs hf,(fun ψ hψ=>(hfam ψ hψ).elim (hf ψ) fun d=>hs.none d),rfl,hlt,by omega,by simp;omega,?_⟩;rw[show ds.length - (i+1)=n by omega,List.append_assoc];exact e
   ·intro k hk;by_cases c:i=x
    ·have g:(i:Int)=(x:Int):=by omega
     simp only[g,RR];refine Q4 (es:=[Qc {dat ds i with parent:=(dat ds i).parent - x}]) (cs:=Qc {dat ds i with parent:=(dat ds i).parent - x}) (AH.set_same ..) rfl (show 1<4 by omega) rfl rfl ?_;rw[AH.set_set];refine hk _ _ ⟨by rw[c]<;>rfl,?_⟩;rw[if_pos c];rfl
    ·have g:¬(i:Int)=(x:Int):=by omega
     simp only[g,RR];refine hk _ _ ⟨rfl,?_⟩;rw[if_neg c]
 ·intro k hk;by_cases hlt:i<ds.length
  ·have g:(i:Int)<(ds.length:Int):=by omega
   by_cases c:i=x
   ·have g2:(i:Int)=(x:Int):=by omega
    have g3:(x:Int)<(ds.length:Int):=by omega
    simp only[QA,g2,g3,RR];exact hk _ _ ⟨rfl,true,by rw[c]<;>rfl,(fun _=>⟨hlt,.inl c⟩),fun x=>by cases x⟩
   ·have g2:¬(i:Int)=(x:Int):=by omega
    simp only[QA,g,g2,RR];refine QbC hlt (by omega) (hd.pars _ hlt) ?_;simp only[RR];have hdd:decide (((Q0 (par ds) (x:Int):Nat):Int)<((Q0 (par ds) (i:Int):Nat):Int))=decide (QcB ds x<QcB ds i):=by unfold QcB;congr 1;apply propext;omega
    rw[hdd];refine hk _ _ ⟨rfl,_,rfl,(fun hb=>⟨hlt,.inr (by simpa using hb)⟩),fun hb=>?_⟩;rintro ⟨_,k|k⟩
    ·exact c k
    ·simp[k] at hb
  ·have g:¬(i:Int)<(ds.length:Int):=by omega
   simp only[QA,g,RR];exact hk _ _ ⟨rfl,false,rfl,(fun x=>by cases x),fun _ c=>hlt c.1⟩
def Qdc (p:List ByteArray × Int):List AV:=[roS p.1,iv p.2]
def fdE (ds:List Dat) (C:List Cor) (F:Frs):List Fd:=[.fix (roD ds),.lst 6 (C.map Qs),.lst 2 (F.map Qdc)]
variable {φm:Nat} {C:List Cor} {F:Frs}
def QzW (c:Cor) (a:AV):List AV:=[iv c.kind,iv c.parent,iv c.a,iv c.b,str c.name,a]
theorem JW {f:FuncId} (c:Cor) {a:AV} {row:List AV} {K:AEnd→AH→Prop} (hr:row=QzW c nilS) (hd:c.data=[]) (h:acall TP f [a,.agg (Qs c)] τ K):acall TP f [a,.agg row] τ K:=by
 subst hr;refine JI (args':=[a,.agg (Qs c)]) (.refl τ) rfl (fun i hi=>?_) h;match i,hi with
 |0,_=>exact .same _
 |1,_=>
  refine .agg rfl fun j hj=>?_
  match j,hj with
  |0,_=>exact .same _
  |1,_=>exact .same _
  |2,_=>exact .same _
  |3,_=>exact .same _
  |4,_=>exact .same _
  |5,_=>
   have:(Qs c).getD 5 .any=roD []:=by show roD c.data=_;rw[hd]
   rw[this];exact .nil
theorem JE {c:Cor} (h:MSt σ τ φm (fdE ds C F)) (hn:C.length≤1000) (h1:∀τ',MSt σ τ' φm (fdE ds (C++[c]) F)→R (.ret (iv (C.length:Int))) τ'):acall TP QbB [.ptr φm 0 0 0,.agg (Qs c)] τ R:=by
 refine Qn7 ?_;unfold x176;dsimp only[den,dE,di,dwat,Qf,List.map,den0,den1];refine Qan rfl ?_;obtain ⟨v,e1,b1⟩:=h.lst (i:=1) rfl;simp only[e1,Qu (UJ _),RR];rw[lit1 (sz:=6) (row:=Qs c) rfl rfl (by omega)];simp only[RR];refine h.app (i:=1) rfl e1 (row:=Qs c) rfl rfl (Qea _) (by simp;omega) fun v' τ1 k1=>?_
 simp only[RR,true_and];refine k1 _ fun τ2 S2=>?_
 have ef:(fdE ds C F).set 1 (.lst 6 (C.map Qs++[Qs c]))=fdE ds (C++[c]) F:=by simp[fdE]
 rw[ef] at S2;obtain ⟨v2,e2,b2⟩:=S2.lst (i:=1) rfl;have l2:=Jt b2;have hl:(C++[c]).length=C.length+1:=by simp
 have es:ibin .sub (iv (((C++[c]).length:Nat):Int)) (iv 1)=some (iv (C.length:Int)):=by
  rw[Uy (by omega) (by omega),hl];rfl
 simp only[e2,l2,es,RR,true_and];exact Qa (h1 τ2 S2)
theorem QjB {ns:List ByteArray} {f:Int} (h:MSt σ τ φm (fdE ds C F)) (hn:F.length≤1000) (h1:∀τ',MSt σ τ' φm (fdE ds C (F++[(ns,f)]))→R (.ret (iv (F.length:Int))) τ'):acall TP Qhr [.ptr φm 0 0 0,roS ns,iv f] τ R:=by
 refine Qm5 ?_;unfold x238;dsimp only[den,dE,di,List.map,den0,den1];obtain ⟨v,e1,b1⟩:=h.lst (i:=2) rfl;have eb:bld [nilS,(iv 0)] [(0,1),(1,1)] [(0,roS ns),(1,iv f)]=some (.agg (Qdc (ns,f))):=rfl;simp only[e1,eb,RR];refine bsl1 (row:=Qdc (ns,f)) rfl (by omega) fun ψ hψ=>?_
 have hs:AH.Sub τ (τ.set ψ ⟨0,2,[Qdc (ns,f)]⟩):= .set (.refl τ) _ hψ;refine (h.grow hs).app (i:=2) rfl (Jv hs e1) (row:=Qdc (ns,f)) ael1 rfl (by intro y hy;simp only[Qdc,List.mem_cons,List.not_mem_nil,or_false] at hy;rcases hy with rfl|rfl<;>rfl) (by simp;omega) fun v' τ1 k1=>?_
 refine k1 _ fun τ2 S2=>?_
 have ef:(fdE ds C F).set 2 (.lst 2 (F.map Qdc++[Qdc (ns,f)]))=fdE ds C (F++[(ns,f)]):=by simp[fdE]
 rw[ef] at S2;obtain ⟨v2,e2,b2⟩:=S2.lst (i:=2) rfl;have l2:=Jt b2;have hl:(F++[(ns,f)]).length=F.length+1:=by simp
 have es:ibin .sub (iv (((F++[(ns,f)]).length:Nat):Int)) (iv 1)=some (iv (F.length:Int)):=by
  rw[Uy (by omega) (by omega),hl];rfl
 simp only[e2,l2,es,RR];exact Qa (h1 τ2 S2)
def fndV (o:Option (Nat × Nat)):AV:=match o with
 |none=> .tup [iv 0,iv 0,bv false]
 |some p=> .tup [iv (p.1:Int),iv (p.2:Int),bv true]
def shF (k:Nat) (o:Option (Nat × Nat)):Option (Nat × Nat):=o.map fun p=>(p.1+k,p.2)
theorem Qvd (s:ByteArray) (ns:List ByteArray) (j:Nat) (h:j<ns.length):posL (ns.drop j) s=if ns[j]=s then some 0 else (posL (ns.drop (j+1)) s).map (·+1):=by
 rw[List.drop_eq_getElem_cons h,posL]
theorem QjC {f:Int} {sc:Sco} {s:ByteArray} (h:MSt σ τ φm (fdE ds C F)) (hn:F.length≤1000) (hsm:∀p,p∈F→p.1.length≤1000) (hc:Chain F f sc) (h1:R (.ret (fndV (JA sc s))) τ):acall TP QcS [.ptr φm 0 0 0,iv f,str s] τ R:=by
 refine Qm0 ?_;unfold x179;dsimp only[den,dE,di,tupL,lTup,den2,den3,den4,List.map,den0,den1];have hf0:=hc.lt;refine QF (fun n x τ'=>τ'=τ∧∃(g:Int) (sc':Sco) (k:Nat),x=(.ptr φm 0 0 0,iv g,str s,iv (k:Int),())∧(g+1).toNat=n∧Chain F g sc'∧k+(g+1).toNat≤2000∧shF k (JA sc' s)=JA sc s) (f+1).toNat ⟨rfl,f,sc,0,rfl,rfl,hc,by omega,by cases JA sc s<;>rfl⟩ ?_;rintro n x τ' ⟨rfl,g,sc',k,rfl,rfl,hg,hk,e⟩ R' hR';cases hg with
 |nil=>
  have g0:¬(0:Int)≤ -1:=by omega
  simp only[g0,RR];simp only[JA,shF,Option.map_none] at e;rw[←e] at h1;exact Qa h1
 |@cons i ns out sc2 q1 q2 q3=>
  have g0:(0:Int)≤(i:Int):=by omega
  have hi:=(List.getElem?_eq_some_iff.1 q1).1;have hiv:=(List.getElem?_eq_some_iff.1 q1).2;obtain ⟨v,e1,b1⟩:=h.lst (i:=2) (sz:=2) (es:=F.map Qdc) rfl;obtain ⟨φt,st,t1,t2⟩:=b1.at (i:=i) (by simpa using hi);have tn:=t2 0 (roS ns) (by rw[List.getElem_map,hiv];rfl);have to:=t2 1 (iv out) (by rw[List.getElem_map,hiv];rfl);have hns:=hsm _ (by rw[←hiv];exact List.getElem_mem hi:(ns,out)∈F);dsimp only at hns;simp only[g0,e1,t1,tn,RR];refine QF (fun n x τ2=>τ2=τ'∧∃j:Nat,x=(.ptr φm 0 0 0,iv (i:Int),str s,iv (k:Int),roS ns,iv (j:Int),())∧ns.length - j=n∧j≤ns.length∧(posL (ns.drop j) s).map (·+j)=posL ns s) ns.length ⟨rfl,0,rfl,by omega,by omega,by simp⟩ ?_
  rintro n x τ2 ⟨rfl,j,rfl,rfl,hj,ej⟩ R2 hR2;simp only[QiL,RR];by_cases c:j<ns.length
  ·have gj:(j:Int)<(ns.length:Int):=by omega
   rw[Qvd s ns j c] at ej;simp only[gj,Qq3 c,Qv,Jy,RR];by_cases c2:ns[j]=s
   ·rw[if_pos c2] at ej;simp only[Option.map_some,Nat.zero_add] at ej;rw[JA,←ej] at e;simp only[shF,Option.map_some,Nat.zero_add] at e;rw[←e] at h1;have cd:decide (ns[j]=s)=true:=by simp[c2]
    simp only[cd,RR];exact Qa h1
   ·rw[if_neg c2] at ej;have cd:decide (ns[j]=s)=false:=by simp[c2]
    simp only[cd,Qh c (by omega),RR];refine hR2 _ _ (ns.length - (j+1)) τ2 (by omega) (.refl _) ⟨rfl,j+1,rfl,rfl,c,?_⟩;rw[←ej,Option.map_map]
    congr 1
    funext a
    show a+(j+1)=a+1+j;omega
  ·have gj:¬(j:Int)<(ns.length:Int):=by omega
   obtain rfl:j=ns.length:=by omega
   rw[List.drop_length,posL] at ej;simp only[Option.map_none] at ej;rw[JA,←ej] at e;dsimp only at e;have ek:ibin .add (iv (k:Int)) (iv 1)=some (iv ((k+1:Nat):Int)):=by rw[Jk (by omega) (by omega)];rfl
   simp only[gj,ek,e1,t1,to,RR];have:=q3.lt;refine hR' _ _ (out+1).toNat τ2 (by omega) (.refl _) ⟨rfl,out,sc2,k+1,rfl,rfl,q3,by omega,?_⟩;rw[←e];unfold shF;rw[Option.map_map]
   congr 1
   funext p
   show (p.1+(k+1),p.2)=(p.1+1+k,p.2)
   congr 1;omega
structure RdN (τ:AH) (u:AV) (ns:List ByteArray):Prop where
 len:lenS u=some (iv (ns.length:Int))
 at_:∀j (h:j<ns.length),∃p,idx 1 u (iv (j:Int)) τ=some p∧lod p τ=some (str ns[j])
theorem RdN.nil:RdN τ nilS []:=⟨rfl,fun j h=>by simp at h⟩
theorem RdN.buf {u:AV} {ns:List ByteArray} (h:Buf τ 1 u (ns.map fun s=>[str s])):RdN τ u ns:=by
 have hb:=h.bfj;refine ⟨by have:=hb.len;rwa [List.length_map] at this,fun j hj=>?_⟩;obtain ⟨φt,st,t1,t2⟩:=hb.at (i:=j) (by simpa using hj);exact ⟨_,t1,t2 0 (str ns[j]) (by rw[List.getElem_map];rfl)⟩
def QoB (ds:List Dat) (x:Nat) (ns:List ByteArray):AV:=if badP ds x ns then .tup [str ⟨#[]⟩,iv 1] else .tup [str (dat ds x).name,iv 0]
theorem Qw2 (s:ByteArray) (ns:List ByteArray) (j:Nat) (h:j<ns.length):inL (ns.drop j) s=(decide (s=ns[j])||inL (ns.drop (j+1)) s):=by
 rw[List.drop_eq_getElem_cons h];rfl
theorem QcY {x:Nat} {u:AV} {ns:List ByteArray} (h:MSt σ τ φm (fdE ds C F)) (hx:x<ds.length) (hl:ns.length≤1000) (hu:RdN τ u ns) (h1:R (.ret (QoB ds x ns)) τ):acall TP Qcr [.ptr φm 0 0 0,iv (x:Int),u] τ R:=by
 refine QlR ?_;unfold x237;dsimp only[den,dE,di,tupL,lTup,den2,den3,den4,List.map,den0,den1];have e0:lod (.ptr φm 0 0 0) τ=some (roD ds):=h.fix rfl;have l0:∀τ,lod (.rop (Qc (dat ds x)) 0) τ=some (iv (dat ds x).kind):=fun _=>rfl
 have l3:∀τ,lod (.rop (Qc (dat ds x)) 3) τ=some (str (dat ds x).name):=fun _=>rfl
 simp only[e0,Qq hx Ql,QZ hx,RR];unfold QoB badP at h1;refine J3 (P:=fun z τ'=>τ'=τ∧z=(u,.rop (Qc (dat ds x)) 0,bv (decide ((dat ds x).kind≠3)||kwB (dat ds x).name),())) ?_ ?_
 ·rintro z τ' ⟨rfl,rfl⟩;cases hb:(decide ((dat ds x).kind≠3)||kwB (dat ds x).name) with
  |true=>
   rw[hb] at h1;simp only[Bool.true_or,if_true] at h1;simp only[RR];exact Qa h1
  |false=>
   rw[hb,Bool.false_or] at h1;simp only[RR];refine QF (fun n y τ2=>τ2=τ'∧∃j:Nat,y=(u,.rop (Qc (dat ds x)) 0,iv (j:Int),())∧ns.length - j=n∧j≤ns.length∧inL (ns.drop j) (dat ds x).name=inL ns (dat ds x).name) ns.length ⟨rfl,0,rfl,by omega,by omega,by simp⟩ ?_;rintro n y τ2 ⟨rfl,j,rfl,rfl,hj,ej⟩ R2 hR2;simp only[hu.len,RR];by_cases c:j<ns.length
   ·have gj:(j:Int)<(ns.length:Int):=by omega
    rw[Qw2 _ ns j c] at ej;obtain ⟨p,p1,p2⟩:=hu.at_ j c
    simp only[gj,p1,p2,l3,Jy,RR];by_cases c2:ns[j]=(dat ds x).name
    ·have cd:decide (ns[j]=(dat ds x).name)=true:=by simp[c2]
     rw[show decide ((dat ds x).name=ns[j])=true by simp[c2],Bool.true_or] at ej;rw[←ej] at h1;simp only[if_true] at h1;simp only[cd,RR];exact Qa h1
    ·have cd:decide (ns[j]=(dat ds x).name)=false:=by simp[c2]
     rw[show decide ((dat ds x).name=ns[j])=false by simp;exact fun e=>c2 e.symm,Bool.false_or] at ej;simp only[cd,Qh c (by omega),RR];exact hR2 _ _ (ns.length - (j+1)) τ2 (by omega) (.refl _) ⟨rfl,j+1,rfl,rfl,c,ej⟩
   ·have gj:¬(j:Int)<(ns.length:Int):=by omega
    obtain rfl:j=ns.length:=by omega
    rw[List.drop_length] at ej;rw[←ej] at h1;simp only[gj,l3,RR];exact Qa (by simpa[inL] using h1)
 ·intro k hk;by_cases c:(dat ds x).kind=3
  ·simp only[l0,l3,c,RR];refine QbS ?_;simp only[RR];exact hk _ _ ⟨rfl,by simp[c];rfl⟩
  ·simp only[l0,l3,c,RR];exact hk _ _ ⟨rfl,by simp[c];rfl⟩
end
end
section
set_option maxRecDepth 100000
variable [L:Lam] {σ σ1 τ τ':AH} {R:AEnd→AH→Prop}
section
variable {φm sz sz2:Nat} {fd:List Fd} {u b:AV} {es fs:List (List AV)}
theorem Qti {σ1:AH} {φ:Nat} (hs:AH.Sub σ σ1) (h:σ φ=none):AH.Sub σ (σ1.del φ):=fun ψ F hF=>by
 have hne:ψ≠φ:=by rintro rfl;rw[h] at hF;cases hF
 rw[AH.del_ne _ hne];exact hs _ _ hF
theorem Buf.up {σ2:AH} (h:Buf σ1 sz b fs) (hk:∀ψ,ψ∈famL b→σ2 ψ=σ1 ψ):Buf σ2 sz b fs:=by
 rcases h with h|⟨φ,st,rfl,hF⟩
 ·exact .inl h
 ·exact .inr ⟨φ,st,rfl,by rw[hk φ (by simp[famL])];exact hF⟩
theorem Buf.live {ψ:Nat} (h:Buf σ1 sz b fs) (hm:ψ∈famL b):∃F,σ1 ψ=some F:=by
 rcases h with ⟨rfl|rfl,rfl⟩|⟨φ,st,rfl,hF⟩
 ·cases hm
 ·cases hm
 ·obtain rfl:ψ=φ:=by simpa[famL] using hm
  exact ⟨_,hF⟩
theorem MSt.push2 {z row:List AV} {x:AV} {k:AV→AH→Prop} (h:MSt σ1 τ φm fd) (hs:AH.Sub σ σ1) (hB:Buf σ1 sz u es) (hf:∀ψ,ψ∈famL u→σ ψ=none) (hb:Buf σ1 sz2 b fs) (hbf:∀ψ,ψ∈famL b→σ ψ=none) (hd:∀ψ,ψ∈famL u→ψ∉famL b)
  (he:JD sz [z] [(0,x)]=some [row]) (hz:sz≤1000) (hr:row.length=sz) (ho:∀y,y∈row→y.one=true) (hn:es.length+1≤4294967296)
  (hk:∀u' σ' τ',MSt σ' τ' φm fd→AH.Sub σ σ'→Buf σ' sz u' (es++[row])→(∀ψ,ψ∈famL u'→σ ψ=none)→Buf σ' sz2 b fs→(∀ψ,ψ∈famL u'→ψ∉famL b)→k u' τ'):bsl sz z 1 [(0,x)] τ fun v τ=>E.app sz u v τ k:=by
 refine bsl1 he (by omega) fun ψ0 hψ0=>?_
 have hg:=h.grow (τ':=τ.set ψ0 ⟨0,sz,[row]⟩) (.set (.refl τ) _ hψ0);have go:∀σ0:AH,AH.Sub σ0 σ1→AH.Sub σ σ0→(∀ψ,ψ∈famL u→σ0 ψ=none)→(∀ψ,ψ∈famL b→σ0 ψ=σ1 ψ)→E.app sz u (.own ψ0 0 0 1) (τ.set ψ0 ⟨0,sz,[row]⟩) k:=fun σ0 h0 h1 h2 h3=>by
  refine hg.app2 h0 hB h2 ael1 (by intro c hc;obtain rfl:=List.mem_singleton.1 hc;exact hr) (by intro c hc;obtain rfl:=List.mem_singleton.1 hc;exact ho) (by simpa using hn) fun u' σ' τ2 k1 k2 k3 k4=>?_
  refine hk u' σ' τ2 k1 (h1.trans k2) k3 (fun ψ hψ=>h1.none (k4 ψ hψ)) (hb.up fun ψ hψ=>?_) fun ψ hψ c=>?_
  ·obtain ⟨F,hF⟩:=hb.live hψ;rw[hF,k2 ψ F (by rw[h3 ψ hψ,hF])]
  ·obtain ⟨F,hF⟩:=hb.live c;have:=k4 ψ hψ;rw[h3 ψ c,hF] at this;cases this
 have hB':=hB;rcases hB' with ⟨rfl|rfl,rfl⟩|⟨φ,st,rfl,hF⟩
 ·exact go σ1 (.refl _) hs (fun ψ c=>by cases c) fun _ _=>rfl
 ·exact go σ1 (.refl _) hs (fun ψ c=>by cases c) fun _ _=>rfl
 ·refine go (σ1.del φ) (.del _ _) (Qti hs (hf φ (by simp[famL]))) (fun ψ c=>?_) fun ψ c=>?_
  ·obtain rfl:ψ=φ:=by simpa[famL] using c
   exact AH.del_same ..
  ·exact AH.del_ne _ (by rintro rfl;exact hd ψ (by simp[famL]) c)
theorem MSt.give (h:MSt σ1 τ φm fd) (hs:AH.Sub σ σ1) (hB:Buf σ1 sz u es) (hf:∀ψ,ψ∈famL u→σ ψ=none) (hz:∀c,c∈es→c.length=sz) (hb:Buf σ1 sz2 b fs) (hd:∀ψ,ψ∈famL u→ψ∉famL b):
  ∃σ2 τ2,MSt σ2 τ2 φm fd∧AH.Sub σ σ2∧AH.Sub τ2 τ∧Fz τ2 τ u (.ro es)∧Buf σ2 sz2 b fs:=by
 have hB':=hB;rcases hB' with ⟨rfl|rfl,rfl⟩|⟨φ,st,rfl,hF⟩
 ·exact ⟨σ1,τ,h,hs,.refl _,.nil,hb⟩
 ·exact ⟨σ1,τ,h,hs,.refl _,.emp,hb⟩
 ·refine ⟨σ1.del φ,τ.del φ,h.del2 (by rw[hF];simp),Qti hs (hf φ (by simp[famL])),.del _ _,?_,hb.up fun ψ hψ=>AH.del_ne _ (by rintro rfl;exact hd ψ (by simp[famL]) hψ)⟩;refine .own (h.sub _ _ hF) (AH.del_same ..) rfl (by simp) rfl (fun i hi=>?_) fun i j hi hj=>?_
  ·rw[show es.getD i []=es[i] by simp[List.getD,List.getElem?_eq_getElem hi]];exact hz _ (List.getElem_mem hi)
  ·rw[Nat.zero_add];exact .same _
end
section
variable {ds:List Dat} {φm f:Nat} {C:List Cor} {F:Frs}
theorem Qr5 {ks:List Nat} (h:1≤ks.length):slc 1 (roK ks) (some (iv 1)) none none σ=some (roK (ks.drop 1)):=by
 have e1:abd (some (iv 1)) 0=some 1:=rfl;have e2:abd none (ks.map fun k:Nat=>[iv (k:Int)]).length=some (ks.map fun k:Nat=>[iv (k:Int)]).length:=rfl;simp only[slc,e1,e2];rw[if_pos ⟨by simpa using h,Nat.le_refl _,Nat.le_refl _,by simp,by rw[List.all_eq_true];intro c hc;obtain ⟨x,_,rfl⟩:=List.mem_map.1 hc;rfl⟩];rw[List.take_length,←List.map_drop]
def SmF (F:Frs):Prop:=∀p,p∈F→p.1.length≤3
def EndE (σ:AH) (φm:Nat) (ds:List Dat) (E:Ex) (F:Frs) (w:Nat) (R:AEnd→AH→Prop):Prop:=∀τ' C' F',MSt σ τ' φm (fdE ds C' F')→(E.2=0→C'=E.1∧∃X,F'=F++X∧X.length≤w∧SmF X)→R (.ret (iv E.2)) τ'
theorem EndE.bad {e:Int} {D:List Cor} {w:Nat} (h:EndE σ φm ds (D,e) F w R) (he:e≠0) (hs:AH.Sub σ σ1) (S:MSt σ1 τ φm (fdE ds C F)):R (.ret (iv e)) τ:=h τ C F (S.drop hs) fun h0=>absurd h0 he
theorem EndE.ok {D:List Cor} {w:Nat} (h:EndE σ φm ds (D,0) F w R) (S:MSt σ τ φm (fdE ds D F)):R (.ret (iv 0)) τ:=h τ D F S fun _=>⟨rfl,[],by simp,by simp,fun p hp=>by cases hp⟩
theorem EndE.behind {E:Ex} {F1:Frs} {w w':Nat} (h:EndE σ φm ds E F w R) (hs:AH.Sub σ σ1) (hF:∃X,F1=F++X∧X.length+w'≤w∧SmF X):EndE σ1 φm ds E F1 w' R:=by
 intro τ' C' F' S hE;refine h τ' C' F' (S.drop hs) fun h0=>?_
 obtain ⟨h1,Y,h2,h3,h4⟩:=hE h0;obtain ⟨X,rfl,h5,h6⟩:=hF;refine ⟨h1,X++Y,by rw[h2,List.append_assoc],by simp;omega,fun p hp=>?_⟩;rcases List.mem_append.1 hp with c|c
 ·exact h6 p c
 ·exact h4 p c
theorem EndE.onr {E:Ex} {w:Nat} (h:EndE σ φm ds E F w R):EndE σ φm ds E F w (onr (fun v σ=>aret v σ R) (fun v σ=>apan v σ R)):=fun τ' C' F' S hE=>by
 simp only[RR];exact Qa (h τ' C' F' S hE)
theorem SmF.app {F X:Frs} (h:SmF F) (g:SmF X):SmF (F++X):=fun p hp=>by
 rcases List.mem_append.1 hp with c|c
 ·exact h p c
 ·exact g p c
theorem SmF.le {F:Frs} (h:SmF F):∀p,p∈F→p.1.length≤1000:=fun p hp=>Nat.le_trans (h p hp) (by omega)
def ExpC (ds:List Dat) (f φm:Nat):Prop:=∀(σ:AH) (x:Nat) (p fr:Int) (sc:Sco) (C:List Cor) (F:Frs) (τ:AH) (R:AEnd→AH→Prop),x<ds.length→ds.length≤f+x→MSt σ τ φm (fdE ds C F)→Chain F fr sc→SmF F→C.length+2*nv ds x≤400→F.length+nv ds x≤400→
 EndE σ φm ds (expE ds f x p sc C) F (nv ds x) R→acall TP QbL [.ptr φm 0 0 0,iv (x:Int),iv p,iv fr] τ R
theorem Qh9 (x:Nat):1≤nv ds x:=Qs0 _ _ _
theorem Qia:∀ks:List Nat,ks.length≤nvK ds ks:=by
 intro ks
 induction ks with
 |nil=>simp
 |cons k r ih=>rw[Qfl,List.length_cons];have:=Qh9 (ds:=ds) k;omega
theorem Qfn (hd:DOk ds) (hE:ExpC ds f φm) {ks:List Nat} {p fr:Int} {sc:Sco} (hks:∀k,k∈ks→k<ds.length∧ds.length≤f+k) (h:MSt σ τ φm (fdE ds C F)) (hc:Chain F fr sc) (hF:SmF F) (hC:C.length+2*nvK ds ks≤400) (hF2:F.length+nvK ds ks≤400)
  (h1:EndE σ φm ds (allE (fun k C'=>expE ds f k p sc C') ks C) F (nvK ds ks) R):acall TP QdD [.ptr φm 0 0 0,roK ks,iv p,iv fr] τ R:=by
 refine Qn9 ?_;unfold x181;dsimp only[den,dE,di,tupL,lTup,den2,den3,den4,List.map,den0,den1];have hln:=Qia (ds:=ds) ks;refine QF (fun n x τ'=>∃(j:Nat) (C1:List Cor) (X:Frs),x=(.ptr φm 0 0 0,roK ks,iv p,iv fr,iv (j:Int),())∧MSt σ τ' φm (fdE ds C1 (F++X))∧ks.length - j=n∧j≤ks.length∧SmF X∧X.length≤nvK ds (ks.take j)∧C1.length≤C.length+2*nvK ds (ks.take j)∧
  allE (fun k C'=>expE ds f k p sc C') (ks.drop j) C1=allE (fun k C'=>expE ds f k p sc C') ks C) ks.length ⟨0,C,[],rfl,by simpa using h,by omega,by omega,(fun p hp=>by cases hp),by simp,by simp,rfl⟩ ?_
 rintro n x τ' ⟨j,C1,X,rfl,S,rfl,hj,hX,hXl,hCl,e⟩ R' hR';simp only[lenK,RR];by_cases c:j<ks.length
 ·have g:(j:Int)<(ks.length:Int):=by omega
  have hm:=hks _ (QD c);have ev:=Qca (ds:=ds) c;have ej:ks[j]=ks.getD j 0:=by simp[List.getD,c]
  rw[List.drop_eq_getElem_cons c,allE,ej] at e;simp only[g,Q1 c,Qv,RR];refine hE σ _ p fr sc C1 (F++X) τ' _ hm.1 hm.2 S (hc.app X) (hF.app hX) (by omega) (by rw[List.length_append];omega) fun τ2 C' F' S2 hE2=>?_
  have hle:=Qfm hd f (ks.getD j 0) p sc C1 hm.1;simp only[RR];by_cases c2:(expE ds f (ks.getD j 0) p sc C1).2=0
  ·rw[if_neg (by simpa using c2)] at e;obtain ⟨rfl,Y,rfl,hYl,hY⟩:=hE2 c2;simp only[c2,Qh c (by omega),RR];rw[List.append_assoc] at S2;have et:nvK ds (ks.take (j+1))=nvK ds (ks.take j)+nv ds (ks.getD j 0):=by
    rw[List.take_succ_eq_append_getElem c,Qh8,ej];simp[nvK]
   exact hR' _ _ (ks.length - (j+1)) τ2 (by omega) (.refl _) ⟨j+1,_,X++Y,rfl,S2,rfl,c,hX.app hY,by rw[List.length_append];omega,by omega,e⟩
  ·rw[if_pos (by simpa using c2)] at e;rw[←e] at h1;simp only[c2,RR];exact Qa (h1 τ2 C' F' S2 fun h0=>absurd h0 c2)
 ·have g:¬(j:Int)<(ks.length:Int):=by omega
  obtain rfl:j=ks.length:=by omega
  rw[List.drop_length,allE] at e;rw[←e] at h1;rw[List.take_length] at hXl;simp only[g,RR];exact Qa (h1 τ' C1 _ S fun _=>⟨rfl,X,rfl,hXl,hX⟩)
theorem bldC {k p a:Int}:bld [(iv 0),(iv 0),(iv 0),(iv 0),(.val (.string ⟨#[]⟩)),nilS] [(0,1),(1,1),(2,1),(3,1),(4,1),(5,1)] [(0,iv k),(1,iv p),(2,iv a)]=some (.agg [iv k,iv p,iv a,iv 0,str ⟨#[]⟩,nilS]):=rfl
theorem QgB {k p:Int}:bld [(iv 0),(iv 0),(iv 0),(iv 0),(.val (.string ⟨#[]⟩)),nilS] [(0,1),(1,1),(2,1),(3,1),(4,1),(5,1)] [(0,iv k),(1,iv p)]=some (.agg [iv k,iv p,iv 0,iv 0,str ⟨#[]⟩,nilS]):=rfl
theorem QoC {k p:Int} {s:ByteArray}:bld [(iv 0),(iv 0),(iv 0),(iv 0),(.val (.string ⟨#[]⟩)),nilS] [(0,1),(1,1),(2,1),(3,1),(4,1),(5,1)] [(0,iv k),(1,iv p),(4,str s)]=some (.agg [iv k,iv p,iv 0,iv 0,str s,nilS]):=rfl
theorem Qq4 {p:Int} {d:List Dat}:bld [(iv 0),(iv 0),(iv 0),(iv 0),(.val (.string ⟨#[]⟩)),nilS] [(0,1),(1,1),(2,1),(3,1),(4,1),(5,1)] [(0,iv 1),(1,iv p),(5,roD d)]=some (.agg (Qs (konC p d))):=rfl
theorem Qxy {p a b:Int}:bld [(iv 0),(iv 0),(iv 0),(iv 0),(.val (.string ⟨#[]⟩)),nilS] [(0,1),(1,1),(2,1),(3,1),(4,1),(5,1)] [(0,iv 2),(1,iv p),(2,iv a),(3,iv b)]=some (.agg [iv 2,iv p,iv a,iv b,str ⟨#[]⟩,nilS]):=rfl
theorem QcZ {x:Nat} {ns:List ByteArray}:aext (QoB ds x ns) 0=some (if badP ds x ns then str ⟨#[]⟩ else str (dat ds x).name)∧aext (QoB ds x ns) 1=some (iv (if badP ds x ns then 1 else 0)):=by
 unfold QoB;cases badP ds x ns<;>exact ⟨rfl,rfl⟩
section
variable {ks:List Nat} {p fr:Int} {sc:Sco}
theorem QgC (hd:DOk ds) (hE:ExpC ds f φm) {kind:Int} (hk78:kind=7∨kind=8) (hks:∀k,k∈ks→k<ds.length∧ds.length≤f+k) (h:MSt σ τ φm (fdE ds C F)) (hc:Chain F fr sc) (hF:SmF F) (hC:C.length+2*nvK ds ks≤400) (hF2:F.length+nvK ds ks≤400)
  (h1:EndE σ φm ds (asgE ds (expE ds f) ks p sc C kind) F (nvK ds ks) R):acall TP QeY [.ptr φm 0 0 0,roK ks,iv p,iv fr,iv kind] τ R:=by
 refine QkE ?_;unfold x216;dsimp only[den,dE,di,dwat,Qf,List.map,den0,den1];unfold asgE at h1;simp only[lenK,RR];by_cases c3:ks.length=3
 ·have g3:(ks.length:Int)=3:=by omega
  by_cases c8:kind=8∧p≠ -1
  ·rw[if_pos (.inr c8)] at h1;obtain ⟨c8a,c8b⟩:=c8;simp only[g3,c8a,c8b,ne_eq,not_false_iff,RR];exact Qa (h1.bad (by decide) (.refl _) h)
  ·rw[if_neg (by rintro (k|k);exact k c3;exact c8 k)] at h1;have hm1:=hks _ (QD (ks:=ks) (j:=1) (by omega));have hm2:=hks _ (QD (ks:=ks) (j:=2) (by omega));have x1:∀τ,idx 1 (roK ks) (iv 1) τ=some (.rop [iv ((ks.getD 1 0:Nat):Int)] 0):=fun τ=>Q1 (j:=1) (by omega)
   have x2:∀τ,idx 1 (roK ks) (iv 2) τ=some (.rop [iv ((ks.getD 2 0:Nat):Int)] 0):=fun τ=>Q1 (j:=2) (by omega)
   have rest:acall TP Qcr [.ptr φm 0 0 0,iv ((ks.getD 1 0:Nat):Int),nilS] τ (onr (fun v32 σ=>
     og (aext v32 0) fun v33=>
     og (aext v32 1) fun v34=>
     og (ibin .neq v34 (iv 0)) fun v36=>
     apick v36 (
      aret v34 σ R) (
      acall TP QcS [.ptr φm 0 0 0,iv fr,v33] σ (onr (fun v42 σ=>
      og (aext v42 0) fun v43=>
      og (aext v42 1) fun v44=>
      og (aext v42 2) fun v45=>
      apick v45 (
       aret (iv 1) σ R) (
       og (idx 1 (roK ks) (iv 2) σ) fun v49=>
       og (lod v49 σ) fun v50=>
       og (bld [(iv 0),(iv 0),(iv 0),(iv 0),(.val (.string ⟨#[]⟩)),nilS] [(0,1),(1,1),(2,1),(3,1),(4,1),(5,1)] [(0,iv kind),(1,iv p),(4,v33)]) fun v55=>
       acall TP QbB [.ptr φm 0 0 0,v55] σ (onr (fun v56 σ=>
       (lod v49 σ=some v50∧idx 1 (roK ks) (iv 2) σ=some v49∧True)∧
       acall TP QbL [.ptr φm 0 0 0,v50,v56,iv fr] σ (onr (fun v58 σ=>
       (True)∧
       aret v58 σ R) (fun v σ=>apan v σ R))) (fun v σ=>apan v σ R)))) (fun v σ=>apan v σ R)))) (fun v σ=>apan v σ R)):=by
    refine QcY h hm1.1 (by simp) RdN.nil ?_;simp only[QcZ.1,QcZ.2,RR];cases hb:badP ds (ks.getD 1 0) [] with
    |true=>
     rw[if_pos hb] at h1;simp only[if_true,Int.reduceEq,RR];exact Qa (h1.bad (by decide) (.refl _) h)
    |false=>
     rw[if_neg (by rw[hb];decide)] at h1;simp only[Bool.false_eq_true,if_false,RR];refine QjC h (by omega) hF.le hc ?_;cases hf:JA sc (dat ds (ks.getD 1 0)).name with
     |some q=>
      rw[hf] at h1;simp only[Option.isSome_some,if_true] at h1;have a0:aext (fndV (some q)) 0=some (iv (q.1:Int)):=rfl;have a1:aext (fndV (some q)) 1=some (iv (q.2:Int)):=rfl;have a2:aext (fndV (some q)) 2=some (bv true):=rfl;simp only[a0,a1,a2,RR];exact Qa (h1.bad (by decide) (.refl _) h)
     |none=>
      rw[hf] at h1;simp only[Option.isSome_none,Bool.false_eq_true,if_false] at h1;have a0:aext (fndV none) 0=some (iv 0):=rfl;have a1:aext (fndV none) 1=some (iv 0):=rfl;have a2:aext (fndV none) 2=some (bv false):=rfl;simp only[a0,a1,a2,x2,Qv,QoC,RR];refine JW (nmdC kind p (dat ds (ks.getD 1 0)).name) rfl rfl ?_;refine JE h (by omega) fun τ1 S1=>?_
      have o2:=Qaq (ds:=ds) (ks:=ks) (j:=2) (by omega);have o1:=Qca (ds:=ds) (ks:=ks) (j:=1) (by omega);have o3:=Qaq (ds:=ds) (ks:=ks.drop 2) (j:=0) (by rw[List.length_drop];omega);have e2:(ks.drop 2).getD 0 0=ks.getD 2 0:=by simp[List.getD]
      rw[e2] at o3;simp only[Nat.reduceAdd] at o1;have np:=Qh9 (ds:=ds) (ks.getD 1 0);simp only[RR,true_and,and_true];refine hE σ _ _ fr sc _ F τ1 _ hm2.1 hm2.2 S1 hc hF (by rw[List.length_append,List.length_singleton];omega) (by omega) ?_;exact h1.onr.behind (.refl _) ⟨[],by simp,by rw[List.length_nil];omega,fun p hp=>by cases hp⟩
   rcases hk78 with rfl|rfl
   ·simp only[g3,x1,Qv,Int.reduceEq,RR] at rest ⊢;exact rest
   ·have cp:p= -1:=by
     by_cases c:p= -1
     ·exact c
     ·exact absurd ⟨rfl,c⟩ c8
    simp only[g3,x1,Qv,cp,RR] at rest ⊢;exact rest
 ·rw[if_pos (.inl c3)] at h1;have g3:¬(ks.length:Int)=3:=by omega
  simp only[g3,RR];exact Qa (h1.bad (by decide) (.refl _) h)
end
end
end
section
set_option maxRecDepth 100000
variable [L:Lam] {σ σ1 τ τ':AH} {R:AEnd→AH→Prop}
section
variable {ds:List Dat} {φm f:Nat} {C:List Cor} {F:Frs} {ks:List Nat} {p fr:Int} {sc:Sco}
theorem Qc0 (x:Nat):(Qe ds x).length≤ds.length:=by
 unfold Qe;exact Nat.le_trans (List.length_filter_le _ _) (by simp)
theorem aft1 {s:ByteArray}:JD 1 [[.val (.string ⟨#[]⟩)]] [(0,str s)]=some [[str s]]:=rfl
theorem aftI {i:Int}:JD 1 [[.val (.int .i64 0)]] [(0,iv i)]=some [[iv i]]:=rfl
theorem U2 {sz:Nat}:Buf σ sz .emp []:= .inl ⟨.inr rfl,rfl⟩
theorem QiN {s:ByteArray}:∀y,y∈[str s]→y.one=true:=fun y hy=>by obtain rfl:=List.mem_singleton.1 hy;rfl
theorem QzX {i:Int}:∀y,y∈[iv i]→y.one=true:=fun y hy=>by obtain rfl:=List.mem_singleton.1 hy;rfl
theorem QoD (hd:DOk ds) (hE:ExpC ds f φm) (hks:∀k,k∈ks→k<ds.length∧ds.length≤f+k) (h:MSt σ τ φm (fdE ds C F)) (hc:Chain F fr sc) (hF:SmF F) (hC:C.length+2*nvK ds ks≤400) (hF2:F.length+nvK ds ks≤400)
  (h1:EndE σ φm ds (lamE ds (expE ds f) ks p sc C) F (nvK ds ks) R):acall TP QeX [.ptr φm 0 0 0,roK ks,iv p,iv fr] τ R:=by
 refine QkC ?_;unfold x214;dsimp only[den,dE,di,tupL,lTup,den2,den3,den4,dwat,Qf,List.map,den0,den1];unfold lamE at h1;have hdl:=hd.len;simp only[lenK,RR];by_cases c3:ks.length=3
 ·have g3:(ks.length:Int)=3:=by omega
  have hm1:=hks _ (QD (ks:=ks) (j:=1) (by omega));have hm2:=hks _ (QD (ks:=ks) (j:=2) (by omega));have x1:∀τ,idx 1 (roK ks) (iv 1) τ=some (.rop [iv ((ks.getD 1 0:Nat):Int)] 0):=fun τ=>Q1 (j:=1) (by omega)
  have x2:∀τ,idx 1 (roK ks) (iv 2) τ=some (.rop [iv ((ks.getD 2 0:Nat):Int)] 0):=fun τ=>Q1 (j:=2) (by omega)
  have o2:=Qaq (ds:=ds) (ks:=ks) (j:=2) (by omega);have o1:=Qca (ds:=ds) (ks:=ks) (j:=1) (by omega);have o3:=Qaq (ds:=ds) (ks:=ks.drop 2) (j:=0) (by rw[List.length_drop];omega);have e2:(ks.drop 2).getD 0 0=ks.getD 2 0:=by simp[List.getD]
  rw[e2] at o3;simp only[Nat.reduceAdd] at o1;have np:=Qh9 (ds:=ds) (ks.getD 1 0);have e0:lod (.ptr φm 0 0 0) τ=some (roD ds):=h.fix rfl;have l0:∀τ,lod (.rop (Qc (dat ds (ks.getD 1 0))) 0) τ=some (iv (dat ds (ks.getD 1 0)).kind):=fun _=>rfl
  by_cases c4:(dat ds (ks.getD 1 0)).kind=4
  ·rw[if_neg (by rintro (k|k);exact k c3;exact k c4)] at h1;simp only[g3,x1,Qv,e0,Qq hm1.1 Ql,QZ hm1.1,l0,c4,RR];refine U1 (by omega) ?_;simp only[RR,true_and];refine bsl0 ?_;have hkl:=Qc0 (ds:=ds) (ks.getD 1 0);have hkm:∀k,k∈Qe ds (ks.getD 1 0)→k<ds.length:=fun k hk=>(hd.kid hk).2
   generalize Qe ds (ks.getD 1 0)=lst at h1 hkl hkm ⊢;refine QF (fun n x τ'=>∃(j:Nat) (u:AV) (ns:List ByteArray) (σ1:AH),x=(.ptr φm 0 0 0,roK ks,iv p,iv fr,roK lst,u,iv (j:Int),())∧MSt σ1 τ' φm (fdE ds C F)∧AH.Sub σ σ1∧Buf σ1 1 u (ns.map fun s=>[str s])∧(∀ψ,ψ∈famL u→σ ψ=none)∧lst.length - j=n∧j≤lst.length∧ns.length=j∧JY ds (lst.drop j) ns=JY ds lst []) lst.length
    ⟨0,.emp,[],σ,rfl,h,.refl σ,U2,(fun ψ c=>by cases c),by omega,by omega,rfl,rfl⟩ ?_
   rintro n x τ' ⟨j,u,ns,σ1,rfl,S,hs,hB,hf,rfl,hj,hnl,e⟩ R' hR';simp only[lenK,RR];by_cases c:j<lst.length
   ·have g:(j:Int)<(lst.length:Int):=by omega
    have ej:lst[j]=lst.getD j 0:=by simp[List.getD,c]
    rw[List.drop_eq_getElem_cons c,JY,ej] at e;simp only[g,Q1 c,Qv,RR];refine QcY S (hkm _ (QD c)) (by omega) (RdN.buf (hB.up fun ψ hψ=>?_)) ?_
    ·obtain ⟨G,hG⟩:=hB.live hψ;rw[hG,S.sub _ _ hG]
    simp only[QcZ.1,QcZ.2,RR];cases hb:badP ds (lst.getD j 0) ns with
    |true=>
     rw[if_pos hb] at e;rw[←e] at h1;simp only[if_true,Int.reduceEq,RR];exact Qa (h1.bad (by decide) hs S)
    |false=>
     rw[if_neg (by rw[hb];decide)] at e;simp only[Bool.false_eq_true,if_false,RR];refine S.push2 (sz2:=1) (b:= .emp) (fs:=[]) hs hB hf U2 (fun ψ c=>by cases c) (fun ψ _ c=>by cases c) aft1 (by omega) rfl QiN (by simp;omega) fun u' σ2 τ2 S2 hs2 hB2 hf2 _ _=>?_
     simp only[Qh c (by omega),RR];exact hR' _ _ (lst.length - (j+1)) τ2 (by omega) (.refl _) ⟨j+1,u',ns++[(dat ds (lst.getD j 0)).name],σ2,rfl,S2,hs2,by simpa using hB2,hf2,rfl,c,by simp;omega,e⟩
   ·have g:¬(j:Int)<(lst.length:Int):=by omega
    obtain rfl:j=lst.length:=by omega
    rw[List.drop_length,JY] at e;rw[←e] at h1;dsimp only at h1;have hlen:lenS u=some (iv (ns.length:Int)):=by have:=Jj hB;simpa using this
    simp only[g,hlen,RR];by_cases c5:3<ns.length
    ·have g5:(3:Int)<(ns.length:Int):=by omega
     rw[if_pos c5] at h1;simp only[g5,RR];exact Qa (h1.bad (by decide) hs S)
    ·have g5:¬(3:Int)<(ns.length:Int):=by omega
     rw[if_neg c5] at h1;simp only[g5,bldC,RR];refine JW (nodC 5 p ns.length) rfl rfl ?_;refine JE S (by omega) fun τ2 S2=>?_
     simp only[x2,Qv,RR,true_and,and_true];obtain ⟨σ3,τ3,S3,hs3,hst,hfz,_⟩:=S2.give (sz2:=1) (b:= .emp) (fs:=[]) hs hB hf (by intro c hc;obtain ⟨x,_,rfl⟩:=List.mem_map.1 hc;rfl) U2 (fun ψ _ c=>by cases c);refine JI (args':=[.ptr φm 0 0 0,roS ns,iv fr]) hst rfl (fun i hi=>?_) ?_
     ·match i,hi with
      |0,_=>exact .same _
      |1,_=>exact hfz
      |2,_=>exact .same _
     refine QjB (S3.drop hs3) (by omega) fun τ4 S4=>?_
     simp only[RR,true_and,and_true];refine hE σ _ _ _ (ns::sc) _ _ τ4 _ hm2.1 hm2.2 S4 (hc.new ns) (hF.app fun p hp=>?_) (by rw[List.length_append,List.length_singleton];omega) (by rw[List.length_append,List.length_singleton];omega) ?_
     ·obtain rfl:=List.mem_singleton.1 hp;show ns.length≤3;omega
     exact h1.onr.behind (.refl _) ⟨[(ns,fr)],rfl,by rw[List.length_singleton];omega,fun p hp=>by obtain rfl:=List.mem_singleton.1 hp;show ns.length≤3;omega⟩
  ·rw[if_pos (.inr c4)] at h1;simp only[g3,x1,Qv,e0,Qq hm1.1 Ql,QZ hm1.1,l0,c4,RR];exact Qa (h1.bad (by decide) (.refl _) h)
 ·rw[if_pos (.inl c3)] at h1;have g3:¬(ks.length:Int)=3:=by omega
  simp only[g3,RR];exact Qa (h1.bad (by decide) (.refl _) h)
end
end
section
set_option maxRecDepth 100000
variable [L:Lam] {σ σ1 τ τ':AH} {R:AEnd→AH→Prop}
section
variable {ds:List Dat} {φm f:Nat} {C:List Cor} {F:Frs} {ks:List Nat} {p fr:Int} {sc:Sco}
theorem Qr6 (hd:DOk ds) (hE:ExpC ds f φm) (hks:∀k,k∈ks→k<ds.length∧ds.length≤f+k) (h:MSt σ τ φm (fdE ds C F)) (hc:Chain F fr sc) (hF:SmF F) (hC:C.length+2*nvK ds ks+2≤400) (hF2:F.length+nvK ds ks≤400)
  (h1:EndE σ φm ds (letE ds (expE ds f) ks p sc C) F (nvK ds ks) R):acall TP Qi4 [.ptr φm 0 0 0,roK ks,iv p,iv fr] τ R:=by
 refine Qoc ?_;unfold x215;dsimp only[den,dE,di,tupL,lTup,den2,den3,den4,dwat,Qf,List.map,den0,den1];unfold letE at h1;have hdl:=hd.len;simp only[lenK,RR];by_cases c3:ks.length=3
 ·have g3:(ks.length:Int)=3:=by omega
  have hm1:=hks _ (QD (ks:=ks) (j:=1) (by omega));have hm2:=hks _ (QD (ks:=ks) (j:=2) (by omega));have x1:∀τ,idx 1 (roK ks) (iv 1) τ=some (.rop [iv ((ks.getD 1 0:Nat):Int)] 0):=fun τ=>Q1 (j:=1) (by omega)
  have x2:∀τ,idx 1 (roK ks) (iv 2) τ=some (.rop [iv ((ks.getD 2 0:Nat):Int)] 0):=fun τ=>Q1 (j:=2) (by omega)
  have o1:=Qca (ds:=ds) (ks:=ks) (j:=1) (by omega);have o3:=Qaq (ds:=ds) (ks:=ks.drop 2) (j:=0) (by rw[List.length_drop];omega);have e2:(ks.drop 2).getD 0 0=ks.getD 2 0:=by simp[List.getD]
  rw[e2] at o3;simp only[Nat.reduceAdd] at o1;have he1:=Qgz hd hm1.1;have e0:lod (.ptr φm 0 0 0) τ=some (roD ds):=h.fix rfl;have l0:∀τ,lod (.rop (Qc (dat ds (ks.getD 1 0))) 0) τ=some (iv (dat ds (ks.getD 1 0)).kind):=fun _=>rfl
  by_cases c4:(dat ds (ks.getD 1 0)).kind=4
  ·rw[if_neg (by rintro (k|k);exact k c3;exact k c4)] at h1;simp only[g3,x1,Qv,e0,Qq hm1.1 Ql,QZ hm1.1,l0,c4,RR];refine U1 (by omega) ?_;simp only[RR,true_and];refine bsl0 (bsl0 ?_);have hkl:=Qc0 (ds:=ds) (ks.getD 1 0);have hkm:∀k,k∈Qe ds (ks.getD 1 0)→k<ds.length∧ks.getD 1 0<k:=fun k hk=>⟨(hd.kid hk).2,(hd.kid hk).1⟩
   generalize Qe ds (ks.getD 1 0)=lst at h1 hkl hkm he1 ⊢;refine QF (fun n x τ'=>∃(j:Nat) (u v:AV) (ns:List ByteArray) (vs:List Nat) (σ1:AH),x=(.ptr φm 0 0 0,roK ks,iv p,iv fr,roK lst,u,v,iv (j:Int),())∧MSt σ1 τ' φm (fdE ds C F)∧AH.Sub σ σ1∧Buf σ1 1 u (ns.map fun s=>[str s])∧(∀ψ,ψ∈famL u→σ ψ=none)∧Buf σ1 1 v (vs.map fun k:Nat=>[iv (k:Int)])∧(∀ψ,ψ∈famL v→σ ψ=none)∧(∀ψ,ψ∈famL u→ψ∉famL v)∧
     lst.length - j=n∧j≤lst.length∧ns.length=j∧vs.length=j∧UU ds (lst.drop j) ns vs=UU ds lst [] []) lst.length
    ⟨0,.emp,.emp,[],[],σ,rfl,h,.refl σ,U2,(fun ψ c=>by cases c),U2,(fun ψ c=>by cases c),(fun ψ c=>by cases c),by omega,by omega,rfl,rfl,rfl⟩ ?_
   rintro n x τ' ⟨j,u,v,ns,vs,σ1,rfl,S,hs,hB,hf,hBv,hfv,hdj,rfl,hj,hnl,hvl,e⟩ R' hR';simp only[lenK,RR];by_cases c:j<lst.length
   ·have g:(j:Int)<(lst.length:Int):=by omega
    have ej:lst[j]=lst.getD j 0:=by simp[List.getD,c]
    have e0':lod (.ptr φm 0 0 0) τ'=some (roD ds):=S.fix rfl;rw[List.drop_eq_getElem_cons c,UU,ej] at e;have hk:=hkm _ (QD c);simp only[g,Q1 c,Qv,e0',RR];refine U1 (by omega) ?_;simp only[RR,true_and,lenK];by_cases c2:(Qe ds (lst.getD j 0)).length=2
    ·have g2:((Qe ds (lst.getD j 0)).length:Int)=2:=by omega
     rw[if_neg (by simpa using c2)] at e;have y0:∀τ,idx 1 (roK (Qe ds (lst.getD j 0))) (iv 0) τ=some (.rop [iv (((Qe ds (lst.getD j 0)).getD 0 0:Nat):Int)] 0):=fun τ=>Q1 (j:=0) (by omega)
     have y1:∀τ,idx 1 (roK (Qe ds (lst.getD j 0))) (iv 1) τ=some (.rop [iv (((Qe ds (lst.getD j 0)).getD 1 0:Nat):Int)] 0):=fun τ=>Q1 (j:=1) (by omega)
     have hk0:=(hd.kid (QD (ks:=Qe ds (lst.getD j 0)) (j:=0) (by omega))).2;simp only[g2,y0,y1,Qv,RR];refine QcY S hk0 (by omega) (RdN.buf (hB.up fun ψ hψ=>?_)) ?_
     ·obtain ⟨G,hG⟩:=hB.live hψ;rw[hG,S.sub _ _ hG]
     simp only[QcZ.1,QcZ.2,RR];cases hb:badP ds ((Qe ds (lst.getD j 0)).getD 0 0) ns with
     |true=>
      rw[if_pos hb] at e;rw[←e] at h1;simp only[if_true,Int.reduceEq,RR];exact Qa (h1.bad (by decide) hs S)
     |false=>
      rw[if_neg (by rw[hb];decide)] at e;simp only[Bool.false_eq_true,if_false,RR];refine S.push2 (sz2:=1) hs hB hf hBv hfv hdj aft1 (by omega) rfl QiN (by simp;omega) fun u' σ2 τ2 S2 hs2 hB2 hf2 hBv2 hdj2=>?_
      refine S2.push2 (sz2:=1) hs2 hBv2 hfv hB2 hf2 (fun ψ a b=>hdj2 ψ b a) aftI (by omega) rfl QzX (by simp;omega) fun v' σ3 τ3 S3 hs3 hBv3 hfv3 hB3 hdj3=>?_
      simp only[Qh c (by omega),RR];exact hR' _ _ (lst.length - (j+1)) τ3 (by omega) (.refl _) ⟨j+1,u',v',ns++[(dat ds ((Qe ds (lst.getD j 0)).getD 0 0)).name],vs++[(Qe ds (lst.getD j 0)).getD 1 0],σ3,rfl,S3,hs3,by simpa using hB3,hf2,by simpa using hBv3,hfv3,(fun ψ a b=>hdj3 ψ b a),rfl,c,by simp;omega,by simp;omega,e⟩
    ·have g2:¬((Qe ds (lst.getD j 0)).length:Int)=2:=by omega
     rw[if_pos (by simpa using c2)] at e;rw[←e] at h1;simp only[g2,RR];exact Qa (h1.bad (by decide) hs S)
   ·have g:¬(j:Int)<(lst.length:Int):=by omega
    obtain rfl:j=lst.length:=by omega
    rw[List.drop_length,UU] at e;have ll:=QpL hd _ _ _ _ _ (fun k hk=>(hkm k hk).1) e.symm;have e00:nvK ds []=0:=rfl;rw[←e] at h1;dsimp only at h1;have hlen:lenS u=some (iv (ns.length:Int)):=by have:=Jj hB;simpa using this
    simp only[g,hlen,RR];by_cases c5:3<ns.length
    ·have g5:(3:Int)<(ns.length:Int):=by omega
     rw[if_pos c5] at h1;simp only[g5,RR];exact Qa (h1.bad (by decide) hs S)
    ·have g5:¬(3:Int)<(ns.length:Int):=by omega
     rw[if_neg c5] at h1;simp only[g5,QgB,RR];refine JW (nodC 9 p 0) rfl rfl ?_;refine JE S (by omega) fun τ2 S2=>?_
     simp only[hlen,bldC,RR];refine JW (nodC 5 (C.length:Int) ns.length) rfl rfl ?_;refine JE S2 (by simp;omega) fun τ3 S3=>?_
     have hl1:(C++[nodC 9 p 0]).length=C.length+1:=by simp
     rw[hl1];simp only[x2,Qv,RR,true_and,and_true];obtain ⟨σ4,τ4,S4,hs4,hst,hfz,hBv4⟩:=S3.give (sz2:=1) hs hB hf (by intro c hc;obtain ⟨x,_,rfl⟩:=List.mem_map.1 hc;rfl) hBv hdj;refine JI (args':=[.ptr φm 0 0 0,roS ns,iv fr]) hst rfl (fun i hi=>?_) ?_
     ·match i,hi with
      |0,_=>exact .same _
      |1,_=>exact hfz
      |2,_=>exact .same _
     refine QjB S4 (by omega) fun τ5 S5=>?_
     simp only[RR,true_and,and_true];refine hE σ4 _ _ _ (ns::sc) _ _ τ5 _ hm2.1 hm2.2 S5 (hc.new ns) (hF.app fun p hp=>?_) (by rw[List.length_append,List.length_append,List.length_singleton,List.length_singleton];omega) (by rw[List.length_append,List.length_singleton];omega) fun τ6 C' F' S6 hE6=>?_
     ·obtain rfl:=List.mem_singleton.1 hp;show ns.length≤3;omega
     have hle:=Qfm hd f (ks.getD 2 0) ((C.length+1:Nat):Int) (ns::sc) (C++[nodC 9 p 0]++[nodC 5 (C.length:Int) ns.length]) hm2.1;rw[List.length_append,List.length_append,List.length_singleton,List.length_singleton] at hle;generalize expE ds f (ks.getD 2 0) ((C.length+1:Nat):Int) (ns::sc) (C++[nodC 9 p 0]++[nodC 5 (C.length:Int) ns.length])=r at h1 hE6 hle ⊢;simp only[RR,true_and];by_cases c6:r.2=0
     ·rw[if_neg (by simpa using c6)] at h1;obtain ⟨rfl,X,rfl,hXl,hX⟩:=hE6 c6;simp only[c6,RR];obtain ⟨σ7,τ7,S7,hs7,hst7,hfz7,_⟩:=S6.give (sz2:=1) (b:= .emp) (fs:=[]) hs4 hBv4 hfv (by intro c hc;obtain ⟨x,_,rfl⟩:=List.mem_map.1 hc;rfl) U2 (fun ψ _ c=>by cases c);refine JI (args':=[.ptr φm 0 0 0,roK vs,iv (C.length:Int),iv fr]) hst7 rfl (fun i hi=>?_) ?_
      ·match i,hi with
       |0,_=>exact .same _
       |1,_=>exact hfz7
       |2,_=>exact .same _
       |3,_=>exact .same _
      have hFa:F++[(ns,fr)]++X=F++((ns,fr)::X):=by simp
      rw[hFa] at S7;refine Qfn hd hE (fun k hk=>?_) (S7.drop hs7) (hc.app _) (hF.app fun p hp=>?_) (by omega) (by rw[List.length_append,List.length_cons];omega) ?_
      ·rcases ll.2 k hk with q|⟨q,w,q2,q3⟩
       ·cases q
       ·have:=hkm w q2;exact ⟨q,by omega⟩
      ·rcases List.mem_cons.1 hp with rfl|hp
       ·show ns.length≤3;omega
       ·exact hX p hp
      ·refine h1.onr.behind (.refl _) ⟨(ns,fr)::X,rfl,by rw[List.length_cons];omega,fun p hp=>?_⟩;rcases List.mem_cons.1 hp with rfl|hp
       ·show ns.length≤3;omega
       ·exact hX p hp
     ·rw[if_pos (by simpa using c6)] at h1;simp only[c6,RR];exact Qa (h1 τ6 C' F' (S6.drop hs4) fun h0=>absurd h0 c6)
  ·rw[if_pos (.inr c4)] at h1;simp only[g3,x1,Qv,e0,Qq hm1.1 Ql,QZ hm1.1,l0,c4,RR];exact Qa (h1.bad (by decide) (.refl _) h)
 ·rw[if_pos (.inl c3)] at h1;have g3:¬(ks.length:Int)=3:=by omega
  simp only[g3,RR];exact Qa (h1.bad (by decide) (.refl _) h)
end
end
section
set_option maxRecDepth 100000
variable [L:Lam] {σ σ1 τ τ':AH} {R:AEnd→AH→Prop}
theorem Qve {a:Int} {b:Bool} (h:a=3):decide (a=3∧b=true)=b:=by subst h;cases b<;>rfl
theorem Qvf {a:Int} {b:Bool} (h:¬a=3):decide (a=3∧b=true)=false:=by simp[h]
section
variable {ds:List Dat} {φm f:Nat} {C:List Cor} {F:Frs} {ks:List Nat} {p fr:Int} {sc:Sco}
theorem QqV (hd:DOk ds) (hE:ExpC ds f φm) {w:ByteArray} (hks:∀k,k∈ks→k<ds.length∧ds.length≤f+k) (h:MSt σ τ φm (fdE ds C F)) (hc:Chain F fr sc) (hF:SmF F) (hC:C.length+2*nvK ds ks+2≤400) (hF2:F.length+nvK ds ks≤400)
   (h1:EndE σ φm ds (Qa2 ds (expE ds f) w ks p sc C) F (nvK ds ks) R):acall TP Qhn [.ptr φm 0 0 0,str w,roK ks,iv p,iv fr] τ R:=by
 refine Qm1 ?_;unfold x180;dsimp only[den,dE,di,dwat,Qf,List.map,den0,den1,Option.map];unfold Qa2 at h1;have hdl:=hd.len;have hnl:=Qia (ds:=ds) ks;have e0:lod (.ptr φm 0 0 0) τ=some (roD ds):=h.fix rfl;simp only[Jy,RR];by_cases c1:w=⟨#[113,117,111,116,101]⟩
 · rw[if_pos c1] at h1
   simp only[c1,lenK,RR];by_cases c:ks.length=2
   · rw[if_neg (by simpa using c)] at h1
     have g:(ks.length:Int)=2:=by omega
     have hm1:=hks _ (QD (ks:=ks) (j:=1) (by omega));have x1:∀τ,idx 1 (roK ks) (iv 1) τ=some (.rop [iv ((ks.getD 1 0:Nat):Int)] 0):=fun τ=>Q1 (j:=1) (by omega)
     simp only[g,e0,x1,Qv,RR];refine Qk2 hd hm1.1 ?_;simp only[Qq4,RR,true_and];refine JE h (by omega) fun τ1 S1=>?_
     simp only[RR,true_and];exact Qa (h1.ok S1)
   · rw[if_pos (by simpa using c)] at h1
     have g:¬(ks.length:Int)=2:=by omega
     simp only[g,RR];exact Qa (h1.bad (by decide) (.refl _) h)
 rw[if_neg c1] at h1;have go:∀k,1≤ks.length→EndE σ φm ds (allE (fun k C'=>expE ds f k (C.length:Int) sc C') (ks.drop 1) (C++[nodC k p 0])) F (nvK ds ks) R→acall TP QbB [.ptr φm 0 0 0,.agg [iv k,iv p,iv 0,iv 0,str ⟨#[]⟩,nilS]] τ (onr (fun v40 σ=>
       acall TP QdD [.ptr φm 0 0 0,roK (ks.drop 1),v40,iv fr] σ (onr (fun v42 σ=>
       aret v42 σ R) (fun v σ=>apan v σ R))) (fun v σ=>apan v σ R)):=fun k hn h1=>by
   refine JW (nodC k p 0) rfl rfl ?_;refine JE h (by omega) fun τ1 S1=>?_
   have hdr:=Qnn (ds:=ds) ks 1;simp only[RR];exact Qfn hd hE (fun k hk=>hks k (List.mem_of_mem_drop hk)) S1 hc hF (by rw[List.length_append,List.length_singleton];omega) (by omega) (h1.onr.behind (.refl _) ⟨[],by simp,by rw[List.length_nil];omega,fun p hp=>by cases hp⟩)
 by_cases c2:w=⟨#[105,102]⟩
 · rw[if_pos c2] at h1
   have d1:¬(⟨#[105,102]⟩:ByteArray)=⟨#[113,117,111,116,101]⟩:=by rw[←c2];exact c1
   simp only[c2,d1,lenK,RR];by_cases c:ks.length=4
   · rw[if_neg (by simpa using c)] at h1
     have g:(ks.length:Int)=4:=by omega
     have hh:=go 4 (by omega) h1;simp only[g,Qr5 (show 1≤ks.length by omega),QgB,RR,true_and,and_true] at hh ⊢;exact hh
   · rw[if_pos (by simpa using c)] at h1
     have g:¬(ks.length:Int)=4:=by omega
     simp only[g,RR];exact Qa (h1.bad (by decide) (.refl _) h)
 rw[if_neg c2] at h1;by_cases c3:w=⟨#[98,101,103,105,110]⟩
 · rw[if_pos c3] at h1
   have d1:¬(⟨#[98,101,103,105,110]⟩:ByteArray)=⟨#[113,117,111,116,101]⟩:=by rw[←c3];exact c1
   have d2:¬(⟨#[98,101,103,105,110]⟩:ByteArray)=⟨#[105,102]⟩:=by rw[←c3];exact c2
   simp only[c3,d1,d2,lenK,RR];by_cases c:ks.length<2
   · rw[if_pos c] at h1
     have g:(ks.length:Int)<2:=by omega
     simp only[g,RR];exact Qa (h1.bad (by decide) (.refl _) h)
   · rw[if_neg c] at h1
     have g:¬(ks.length:Int)<2:=by omega
     have hh:=go 6 (by omega) h1;simp only[g,Qr5 (show 1≤ks.length by omega),QgB,RR,true_and,and_true] at hh ⊢;exact hh
 rw[if_neg c3] at h1;by_cases c4:w=⟨#[108,97,109,98,100,97]⟩
 · rw[if_pos c4] at h1
   simp only[c1,c2,c3,c4,RR];have d1:¬(⟨#[108,97,109,98,100,97]⟩:ByteArray)=⟨#[113,117,111,116,101]⟩:=by rw[←c4];exact c1
   have d2:¬(⟨#[108,97,109,98,100,97]⟩:ByteArray)=⟨#[105,102]⟩:=by rw[←c4];exact c2
   have d3:¬(⟨#[108,97,109,98,100,97]⟩:ByteArray)=⟨#[98,101,103,105,110]⟩:=by rw[←c4];exact c3
   simp only[d1,d2,d3,RR];exact QoD hd hE hks h hc hF (by omega) hF2 h1.onr
 rw[if_neg c4] at h1;by_cases c5:w=⟨#[108,101,116]⟩
 · rw[if_pos c5] at h1
   have d1:¬(⟨#[108,101,116]⟩:ByteArray)=⟨#[113,117,111,116,101]⟩:=by rw[←c5];exact c1
   have d2:¬(⟨#[108,101,116]⟩:ByteArray)=⟨#[105,102]⟩:=by rw[←c5];exact c2
   have d3:¬(⟨#[108,101,116]⟩:ByteArray)=⟨#[98,101,103,105,110]⟩:=by rw[←c5];exact c3
   have d4:¬(⟨#[108,101,116]⟩:ByteArray)=⟨#[108,97,109,98,100,97]⟩:=by rw[←c5];exact c4
   simp only[c5,d1,d2,d3,d4,RR];exact Qr6 hd hE hks h hc hF hC hF2 h1.onr
 rw[if_neg c5] at h1;by_cases c6:w=⟨#[100,101,102,105,110,101]⟩
 · rw[if_pos c6] at h1
   have d1:¬(⟨#[100,101,102,105,110,101]⟩:ByteArray)=⟨#[113,117,111,116,101]⟩:=by rw[←c6];exact c1
   have d2:¬(⟨#[100,101,102,105,110,101]⟩:ByteArray)=⟨#[105,102]⟩:=by rw[←c6];exact c2
   have d3:¬(⟨#[100,101,102,105,110,101]⟩:ByteArray)=⟨#[98,101,103,105,110]⟩:=by rw[←c6];exact c3
   have d4:¬(⟨#[100,101,102,105,110,101]⟩:ByteArray)=⟨#[108,97,109,98,100,97]⟩:=by rw[←c6];exact c4
   have d5:¬(⟨#[100,101,102,105,110,101]⟩:ByteArray)=⟨#[108,101,116]⟩:=by rw[←c6];exact c5
   simp only[c6,d1,d2,d3,d4,d5,RR];exact QgC hd hE (.inr rfl) hks h hc hF (by omega) hF2 h1.onr
 rw[if_neg c6] at h1;simp only[c1,c2,c3,c4,c5,c6,RR];exact QgC hd hE (.inl rfl) hks h hc hF (by omega) hF2 h1.onr
set_option maxHeartbeats 400000 in
theorem QzY (hd:DOk ds):∀f,ExpC ds f φm:=by
 intro f
 induction f with
 |zero=>intro σ x p fr sc C F τ R hx hf;omega
 |succ f ih=>
  intro σ x p fr sc C F τ R hx hfx h hc hF hC hF2 h1;have hdl:=hd.len;have hkd:=hd.kind x hx;have hnv:=Qgz hd hx;have hks:∀k,k∈Qe ds x→k<ds.length∧ds.length≤f+k:=fun k hk=>by have:=hd.kid hk;omega
  have e0:∀{τ C F},MSt σ τ φm (fdE ds C F)→lod (.ptr φm 0 0 0) τ=some (roD ds):=fun h=>h.fix rfl
  have l0:∀τ y,lod (.rop (Qc (dat ds y)) 0) τ=some (iv (dat ds y).kind):=fun _ _=>rfl
  have l3:∀τ y,lod (.rop (Qc (dat ds y)) 3) τ=some (str (dat ds y).name):=fun _ _=>rfl
  refine Qkq ?_;unfold x146;dsimp only[den,dE,di,tupL,lTup,den2,den3,den4,List.map,den0,den1];simp only[e0 h,Qq hx Ql,QZ hx,l0,RR];rw[expE] at h1;refine J3 (P:=fun z τ'=>τ'=τ∧z=(.ptr φm 0 0 0,iv (x:Int),iv p,iv fr,.rop (Qc (dat ds x)) 0,iv (dat ds x).kind,bv (decide ((dat ds x).kind=1)||decide ((dat ds x).kind=2)),())) ?_ ?_
  ·rintro z τ' ⟨rfl,rfl⟩;by_cases c12:(dat ds x).kind=1∨(dat ds x).kind=2
   ·rw[if_pos c12] at h1;have g:(decide ((dat ds x).kind=1)||decide ((dat ds x).kind=2))=true:=by simpa using c12
    simp only[g,e0 h,RR];refine Qk2 hd hx ?_;simp only[Qq4,RR];refine JE h (by omega) fun τ1 S1=>?_
    simp only[RR];exact Qa (h1.ok S1)
   rw[if_neg c12] at h1;have g:(decide ((dat ds x).kind=1)||decide ((dat ds x).kind=2))=false:=by simpa using c12
   by_cases c3:(dat ds x).kind=3
   ·rw[if_pos c3] at h1;have g2:(decide ((3:Int)=1)||decide ((3:Int)=2))=false:=rfl;simp only[c3,g2,l3,RR];refine QbS ?_;cases hk:kwB (dat ds x).name with
    |true=>
     rw[if_pos hk] at h1;simp only[RR];exact Qa (h1.bad (by decide) (.refl _) h)
    |false=>
     rw[if_neg (by rw[hk];decide)] at h1;simp only[RR];refine QjC h (by omega) hF.le hc ?_;cases hf:JA sc (dat ds x).name with
     |some q=>
      rw[hf] at h1;dsimp only at h1;have a0:aext (fndV (some q)) 0=some (iv (q.1:Int)):=rfl;have a1:aext (fndV (some q)) 1=some (iv (q.2:Int)):=rfl;have a2:aext (fndV (some q)) 2=some (bv true):=rfl;simp only[a0,a1,a2,Qxy,RR];refine JW (locC p q.1 q.2) rfl rfl ?_;refine JE h (by omega) fun τ1 S1=>?_
      simp only[RR];exact Qa (h1.ok S1)
     |none=>
      rw[hf] at h1;dsimp only at h1;have a0:aext (fndV none) 0=some (iv 0):=rfl;have a1:aext (fndV none) 1=some (iv 0):=rfl;have a2:aext (fndV none) 2=some (bv false):=rfl;simp only[a0,a1,a2,QoC,RR];refine JW (nmdC 3 p (dat ds x).name) rfl rfl ?_;refine JE h (by omega) fun τ1 S1=>?_
      simp only[RR];exact Qa (h1.ok S1)
   rw[if_neg c3] at h1;simp only[g,c3,e0 h,RR];refine U1 (by omega) ?_;simp only[lenK,RR];by_cases c0:(Qe ds x).length=0
   ·rw[if_pos c0] at h1;have g0:((Qe ds x).length:Int)=0:=by omega
    simp only[g0,RR];exact Qa (h1.bad (by decide) (.refl _) h)
   rw[if_neg c0] at h1;have g0:¬((Qe ds x).length:Int)=0:=by omega
   have hk0:=hks _ (QD (ks:=Qe ds x) (j:=0) (by omega));have x0:∀τ,idx 1 (roK (Qe ds x)) (iv 0) τ=some (.rop [iv (((Qe ds x).getD 0 0:Nat):Int)] 0):=fun τ=>Q1 (j:=0) (by omega)
   simp only[g0,x0,Qv,e0 h,Qq hk0.1 Ql,QZ hk0.1,l0,l3,RR];refine J3 (P:=fun z τ2=>τ2=τ'∧z=(.ptr φm 0 0 0,iv p,iv fr,roK (Qe ds x),.rop (Qc (dat ds ((Qe ds x).getD 0 0))) 0,bv (decide ((dat ds ((Qe ds x).getD 0 0)).kind=3∧kwB (dat ds ((Qe ds x).getD 0 0)).name=true)),())) ?_ ?_
   ·rintro z τ2 ⟨rfl,rfl⟩;by_cases cf:(dat ds ((Qe ds x).getD 0 0)).kind=3∧kwB (dat ds ((Qe ds x).getD 0 0)).name=true
    ·rw[if_pos cf] at h1;have gf:decide ((dat ds ((Qe ds x).getD 0 0)).kind=3∧kwB (dat ds ((Qe ds x).getD 0 0)).name=true)=true:=by simpa using cf
     simp only[gf,l3,RR];exact QqV hd ih hks h hc hF (by omega) (by omega) (h1.onr.behind (.refl _) ⟨[],by simp,by rw[List.length_nil];omega,fun p hp=>by cases hp⟩)
    ·rw[if_neg cf] at h1;have gf:decide ((dat ds ((Qe ds x).getD 0 0)).kind=3∧kwB (dat ds ((Qe ds x).getD 0 0)).name=true)=false:=by simpa using cf
     simp only[gf,lenK,RR];by_cases c4:4<(Qe ds x).length
     ·rw[if_pos c4] at h1;have g4:(4:Int)<((Qe ds x).length:Int):=by omega
      simp only[g4,RR];exact Qa (h1.bad (by decide) (.refl _) h)
     ·rw[if_neg c4] at h1;have g4:¬(4:Int)<((Qe ds x).length:Int):=by omega
      simp only[g4,QgB,RR];refine JW (nodC 9 p 0) rfl rfl ?_;refine JE h (by omega) fun τ3 S3=>?_
      simp only[RR];exact Qfn hd ih hks S3 hc hF (by rw[List.length_append,List.length_singleton];omega) (by omega) (h1.onr.behind (.refl _) ⟨[],by simp,by rw[List.length_nil];omega,fun p hp=>by cases hp⟩)
   ·intro k hk;by_cases c:(dat ds ((Qe ds x).getD 0 0)).kind=3
    ·simp only[c,RR];refine QbS ?_;simp only[RR];exact hk _ _ ⟨rfl,by rw[Qve c]<;>rfl⟩
    ·simp only[c,RR];exact hk _ _ ⟨rfl,by rw[Qvf c]<;>rfl⟩
  ·intro k hk;by_cases c1:(dat ds x).kind=1
   ·have:(decide ((dat ds x).kind=1)||decide ((dat ds x).kind=2))=true:=by simp[c1]
    rw[this] at hk;simp only[c1,RR] at hk ⊢;exact hk _ _ ⟨rfl,rfl⟩
   ·have:(decide ((dat ds x).kind=1)||decide ((dat ds x).kind=2))=decide ((dat ds x).kind=2):=by simp[c1]
    rw[this] at hk;simp only[c1,RR];exact hk _ _ ⟨rfl,rfl⟩
end
theorem Qq5 (c:Int) (es:List (List AV)):bld [(iv 0),nilS] [(0,1),(1,1)] [(0,iv c)]=some (.agg [iv c,nilS])∧bld [(iv 0),nilS] [(0,1),(1,1)] [(1,.ro es)]=some (.agg [iv 0,.ro es]):=⟨rfl,rfl⟩
theorem Ql3 {ds:List Dat} (hs:sD ds) (h:R (.ret (.agg [iv (expR ds).2,roC (expR ds).1])) σ):acall TP Qdj [roD ds] σ R:=by
 refine Qiv ?_;unfold x111;dsimp only[den,dE,di,List.map,den0,den1];intro φ hφ;refine QhY hs ?_;have bad:∀c:Int,R (.ret (.agg [iv c,roC []])) σ→sto 2 (.ptr φ 0 0 0) (.agg [iv c,nilS]) (σ.set φ ⟨0,2,[[iv 0,nilS]]⟩) fun σ=>og (lodA 2 (.ptr φ 0 0 0) σ) fun r=>aret r σ R:=fun c h=>by
  refine Qdv (cs':=[iv c,roC []]) hφ rfl rfl (by intro x hx;simp at hx;rcases hx with rfl|rfl<;>rfl) rfl (fun j hj=>?_) h;match j,hj with
  |0,_=>exact .same _
  |1,_=>exact .nil
 unfold expR at h;simp only[RR];by_cases c:JM ds=0
 ·rw[if_neg (by simpa using c)] at h;have hd:=DOk.of c;have hdl:=hd.len;have eb:bld [nilS,nilS,nilS] [(0,1),(1,1),(2,1)] [(0,roD ds)]=some (.agg [roD ds,nilS,nilS]):=rfl;simp only[c,eb,RR];intro φm hφm;refine QH (es:=[[nilS,nilS,nilS]]) (cs:=[roD ds,nilS,nilS]) (AH.set_same ..) (by simp) rfl rfl rfl (by intro y hy;simp only[List.mem_cons,List.not_mem_nil,or_false] at hy;rcases hy with rfl|rfl|rfl<;>rfl) ?_;simp only[List.set_cons_zero,AH.set_set];have S0:MSt (σ.set φ ⟨0,2,[[iv 0,nilS]]⟩) ((σ.set φ ⟨0,2,[[iv 0,nilS]]⟩).set φm ⟨0,(fdE ds [] []).length,[[roD ds,nilS,nilS]]⟩) φm (fdE ds [] []):=by
   refine MSt.new hφm rfl (fun i f hf=>?_) (by intro v hv;simp only[List.mem_cons,List.not_mem_nil,or_false] at hv;rcases hv with rfl|rfl|rfl<;>rfl);match i,hf with
   |0,hf=>obtain rfl:=Option.some.inj hf;exact ⟨rfl,rfl,rfl⟩
   |1,hf=>obtain rfl:=Option.some.inj hf;exact .nil
   |2,hf=>obtain rfl:=Option.some.inj hf;exact .nil
  have hb:=Qr4 hd (x:=0) (by omega);refine QzY hd ds.length _ 0 (-1) (-1) [] [] [] _ _ (by omega) (by omega) S0 .nil (fun p hp=>by cases hp) (by simp;omega) (by simp;omega) fun τ' C' F' S hE=>?_
  have hle:=Qfm hd ds.length 0 (-1) [] [] (by omega);generalize expE ds ds.length 0 (-1) [] []=E at h hE hle ⊢;simp only[RR];obtain ⟨vs,q1,q2,q3,q4,q5⟩:=S.ex;have hfz:∃cs',Fz (σ.set φ ⟨0,2,[[iv 0,nilS]]⟩) τ' (.ptr φm 0 0 0) (.rop [roD ds,roC C',cs'] 0):=by
   obtain ⟨v1,e1,b1⟩:=S.lst (i:=1) rfl;obtain ⟨v2,e2,b2⟩:=S.lst (i:=2) rfl;have e0:lod (.ptr φm 0 0 0) τ'=some (roD ds):=S.fix rfl;have z1:=S.fzl (i:=1) rfl e1 (by intro c hc;obtain ⟨x,_,rfl⟩:=List.mem_map.1 hc;rfl);have z2:=S.fzl (i:=2) rfl e2 (by intro c hc;obtain ⟨x,_,rfl⟩:=List.mem_map.1 hc;rfl);have hl:vs.length=3:=q2;obtain ⟨a0,a1,a2,rfl⟩:∃a0 a1 a2,vs=[a0,a1,a2]:=by
    match vs,hl with
    |[a0,a1,a2],_=>exact ⟨a0,a1,a2,rfl⟩
   have y0:lod (.ptr φm 0 0 0) τ'=some a0:=Qz q1 rfl rfl;have y1:lod (.ptr φm 0 0 1) τ'=some a1:=Qz q1 rfl rfl;have y2:lod (.ptr φm 0 0 2) τ'=some a2:=Qz q1 rfl rfl;rw[y0] at e0;rw[y1] at e1;rw[y2] at e2;obtain rfl:=Option.some.inj e0;obtain rfl:=Option.some.inj e1;obtain rfl:=Option.some.inj e2;refine ⟨.ro (F'.map Qdc),.ptr q1 S.fr rfl (by simp) rfl rfl fun j hj=>?_⟩;match j,hj with
   |0,_=>exact .same _
   |1,_=>exact z1
   |2,_=>exact z2
  obtain ⟨cs',hfz⟩:=hfz;refine ⟨_,_,S.sub,hfz,?_⟩;have l1:∀τ,lod (.rop [roD ds,roC C',cs'] 1) τ=some (roC C'):=fun _=>rfl
  by_cases c2:E.2=0
  ·rw[if_neg (by simpa using c2)] at h;obtain ⟨rfl,_⟩:=hE c2;simp only[c2,l1,QA,RR];by_cases c3:160<E.1.length
   ·rw[if_pos c3] at h;have g3:(160:Int)<(E.1.length:Int):=by omega
    simp only[g3,(Qq5 2 []).1,RR];exact bad 2 h
   ·rw[if_neg c3] at h;have g3:¬(160:Int)<(E.1.length:Int):=by omega
    simp only[g3,(Qq5 0 (E.1.map Qs)).2,RR];exact J0 hφ rfl rfl (by intro x hx;simp at hx;rcases hx with rfl|rfl<;>rfl) h
  ·rw[if_pos (by simpa using c2)] at h;simp only[c2,(Qq5 E.2 []).1,RR];exact bad _ h
 ·rw[if_pos (by simpa using c)] at h;simp only[c,(Qq5 (JM ds) []).1,RR];exact bad _ h
end
section
variable [L:Lam]
abbrev sDn (ds:List Dat):Prop:=∀d,d∈ds→d.name.size≤1048576
def okCn (c:Cor):Prop:=c.name.size≤1048576∧sDn c.data
abbrev AllN (C:List Cor):Prop:=∀c,c∈C→okCn c
theorem AllN.app {C D:List Cor} (h:AllN C) (g:AllN D):AllN (C++D):=fun c hc=>(List.mem_append.1 hc).elim (h c) (g c)
theorem AllN.one {C:List Cor} {c:Cor} (h:AllN C) (g:okCn c):AllN (C++[c]):=h.app fun x hx=>by obtain rfl:=List.mem_singleton.1 hx;exact g
section
variable {ds:List Dat}
theorem Qtj (h:sDn ds) (x:Nat):(dat ds x).name.size≤1048576:=by
 by_cases c:x<ds.length
 ·exact h _ (QsT c)
 ·unfold dat;simp[List.getD,List.getElem?_eq_none (Nat.le_of_not_lt c)];exact Nat.zero_le _
theorem Qw3 (h:sDn ds) (x:Nat):∀f i,sDn (subG ds x f i):=by
 intro f
 induction f with
 |zero=>intro i d hd;simp[subG] at hd
 |succ f ih=>
  intro i d hd;rw[subG] at hd;split at hd
  ·rcases List.mem_cons.1 hd with rfl|hd
   ·exact Qtj h i
   ·exact ih _ d hd
  ·cases hd
theorem Qtk (h:sDn ds) {p:Int} {x:Nat}:okCn (konC p (subD ds x)):=⟨Nat.zero_le _,Qw3 h x _ _⟩
theorem QzZ {p:Int} {a b:Nat}:okCn (locC p a b):=⟨Nat.zero_le _,fun d hd=>by cases hd⟩
theorem Qep {k p:Int} {a:Nat}:okCn (nodC k p a):=⟨Nat.zero_le _,fun d hd=>by cases hd⟩
theorem Qtl (h:sDn ds) {k p:Int} {x:Nat}:okCn (nmdC k p (dat ds x).name):=⟨Qtj h x,fun d hd=>by cases hd⟩
abbrev OkGn (g:Gx):Prop:=∀x p sc C,AllN C→AllN (g x p sc C).1
theorem Qlo {g:Nat→List Cor→Ex} (hg:∀k C,AllN C→AllN (g k C).1):∀ks C,AllN C→AllN (allE g ks C).1:=by
 intro ks
 induction ks with
 |nil=>intro C h;exact h
 |cons k r ih=>
  intro C h;rw[allE];split
  ·exact hg k C h
  ·exact ih _ (hg k C h)
theorem Qtm (h:sDn ds) {g:Gx} (hg:OkGn g) {ks:List Nat} {p kind:Int} {sc:Sco} {C:List Cor} (hC:AllN C):AllN (asgE ds g ks p sc C kind).1:=by
 unfold asgE;split
 ·exact hC
 split
 ·exact hC
 split
 ·exact hC
 ·exact hg _ _ _ _ (hC.one (Qtl h))
theorem Qw4 (h:sDn ds) {g:Gx} (hg:OkGn g) {w:ByteArray} {ks:List Nat} {p:Int} {sc:Sco} {C:List Cor} (hC:AllN C):AllN (Qa2 ds g w ks p sc C).1:=by
 unfold Qa2;split
 ·split
  ·exact hC
  ·exact hC.one (Qtk h)
 split
 ·split
  ·exact hC
  ·exact Qlo (fun k C h=>hg _ _ _ _ h) _ _ (hC.one Qep)
 split
 ·split
  ·exact hC
  ·exact Qlo (fun k C h=>hg _ _ _ _ h) _ _ (hC.one Qep)
 split
 ·unfold lamE;split
  ·exact hC
  ·split
   ·exact hC
   ·split
    ·exact hC
    ·exact hg _ _ _ _ (hC.one Qep)
 split
 ·unfold letE;split
  ·exact hC
  ·split
   ·exact hC
   ·rename_i ns vs _;split
    ·exact hC
    ·have h1:AllN (g (ks.getD 2 0) ((C.length+1:Nat):Int) (ns::sc) (C++[nodC 9 p 0]++[nodC 5 (C.length:Int) ns.length])).1:=hg _ _ _ _ ((hC.one Qep).one Qep);split
     ·exact h1
     ·exact Qlo (fun k C h=>hg _ _ _ _ h) _ _ h1
 split
 ·exact Qtm h hg hC
 ·exact Qtm h hg hC
theorem Qz0 (h:sDn ds):∀f,OkGn (expE ds f):=by
 intro f
 induction f with
 |zero=>intro x p sc C hC;exact hC
 |succ f ih=>
  intro x p sc C hC;rw[expE];split
  ·exact hC.one (Qtk h)
  split
  ·split
   ·exact hC
   ·split
    ·exact hC.one QzZ
    ·exact hC.one (Qtl h)
  split
  ·exact hC
  split
  ·exact Qw4 h ih hC
  split
  ·exact hC
  ·exact Qlo (fun k C h=>ih _ _ _ _ h) _ _ (hC.one Qep)
theorem Qw5 (h:sDn ds):AllN (expR ds).1:=by
 have no:AllN []:=fun c hc=>by cases hc
 unfold expR;split
 ·exact no
 split
 ·exact no
 split
 ·exact no
 ·exact Qz0 h _ _ _ _ _ no
end
theorem Qz1 (t:List UInt8):∀f p out,(∀x,x∈out→(Tok.name x).size≤t.length)→∀x,x∈(toks t f p out).1→(Tok.name x).size≤t.length:=by
 intro f
 induction f with
 |zero=>intro p out h;exact h
 |succ f ih=>
  intro p out h;rw[toks];split
  ·exact h
  ·rename_i c r hd;split
   ·split
    ·intro x hx;cases hx
    ·refine ih _ _ fun x hx=>?_
     rcases List.mem_append.1 hx with k|k
     ·exact h x k
     ·obtain rfl:=List.mem_singleton.1 k;exact Nat.zero_le _
   ·split
    ·intro x hx;cases hx
    ·split
     ·intro x hx;cases hx
     ·refine ih _ _ fun x hx=>?_
      rcases List.mem_append.1 hx with k|k
      ·exact h x k
      ·obtain rfl:=List.mem_singleton.1 k;have hl:((c::r).take (wrd (c::r))).length≤t.length:=by
        rw[←hd,List.length_take,List.length_drop];omega
       unfold Qag;split
       ·exact Nat.zero_le _
       split
       ·exact Nat.zero_le _
       split
       ·exact Nat.zero_le _
       ·show (bs _).size≤_;rw[Qm];exact hl
theorem Qz2 (t:List UInt8):∀x,x∈(tokR t).1→(Tok.name x).size≤t.length:=by
 unfold tokR;split
 ·intro x hx;cases hx
 ·exact Qz1 t _ _ [] (fun x hx=>by cases hx)
theorem Qtn {a b:List Dat} (h:sDn a) (g:sDn b):sDn (a++b):=fun d hd=>(List.mem_append.1 hd).elim (h d) (g d)
theorem Qto {d:Dat} (h:d.name.size≤1048576):sDn [d]:=fun x hx=>by obtain rfl:=List.mem_singleton.1 hx;exact h
theorem Qt2 {t:Tok} {s:Rds} (ht:t.name.size≤1048576) (h:sDn s.1):sDn (Jf t s).1.1:=by
 have hp:∀(x:Dat) (s:Rds),x.name.size≤1048576→sDn s.1→sDn (putR x s).1.1:=fun x s hx hs=>by
  unfold putR;split
  ·exact hs
  ·exact Qtn hs (Qto hx)
 have hb:∀q,sDn (Ju q s).1.1:=fun q=>by
  unfold Ju;split
  ·exact h
  ·have h2:sDn (opR q s).1:=hp lisD s (Nat.zero_le _) h;split
   ·exact hp quoD _ (by decide) h2
   ·exact h2
 unfold Jf;split
 ·exact hb _
 split
 ·exact hb _
 split
 ·unfold Qdw;split
  ·exact h
  ·split<;>exact h
 ·unfold Qei;split
  ·exact h
  ·exact Qtn h (Qto ht)
theorem Qvg:∀(ts:List Tok) (i:Nat) (s:Rds),(∀x,x∈ts→(Tok.name x).size≤1048576)→sDn s.1→sDn (UN ts i s).1:=by
 intro ts
 induction ts with
 |nil=>
  intro i s _ h;rw[UN];split
  ·intro d hd;cases hd
  ·exact h
 |cons t r ih=>
  intro i s ht h;rw[UN];split
  ·intro d hd;cases hd
  ·split
   ·intro d hd;cases hd
   ·exact ih _ _ (fun x hx=>ht x (by simp[hx])) (Qt2 (ht t (by simp)) h)
theorem Qqs {t:List UInt8} (hl:t.length≤1048576):sDn (Q3 t).1:=by
 unfold Q3;split
 ·intro d hd;cases hd
 ·exact Qvg _ _ _ (fun x hx=>Nat.le_trans (Qz2 t x hx) (by omega)) (fun d hd=>by cases hd)
theorem sDn.sD {ds:List Dat} (h:sDn ds):sD ds:=fun d hd=>Nat.le_trans (h d hd) (by decide)
def Qy (t:List UInt8):Ex:=if (Q3 t).2.1≠0 then ([],(Q3 t).2.1) else expR (Q3 t).1
theorem QiO {t:List UInt8} (h:(Qy t).2=0):WfC (Qy t).1∧∀i,(Qj (Qy t).1 i).data.length≤80:=by
 unfold Qy at h ⊢;split
 ·rename_i c;rw[if_pos c] at h;exact absurd h c
 ·rename_i c;rw[if_neg c] at h;exact QzV h
theorem Qw6 {t:List UInt8} (hl:t.length≤1048576):AllN (Qy t).1:=by
 unfold Qy;split
 ·intro c hc;cases hc
 ·exact Qw5 (Qqs hl)
end
end Go.Proofs.YtggnjjalfnhiiaaGreatDoor.E

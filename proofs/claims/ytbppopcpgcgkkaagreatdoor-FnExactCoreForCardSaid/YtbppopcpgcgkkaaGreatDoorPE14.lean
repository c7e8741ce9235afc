import Derived.Test.YtbppopcpgcgkkaaGreatDoorPE13
import Derived.Lib.SplitLaws
/- Tokens of a text: the plain law, and the reference's way. -/
set_option linter.unusedSectionVars false
set_option linter.unusedSimpArgs false
set_option linter.unusedVariables false
namespace Go.Proofs.YtbppopcpgcgkkaaGreatDoor.E
open Go Go.RowKit
set_option maxRecDepth 100000
def skp:Bool→List UInt8→Nat
 |_,[]=>0
 |true,c::r=>if c.toNat=10 then skp false r+1 else skp true r+1
 |false,c::r=>if c.toNat=59 then skp true r+1 else if c.toNat=32∨c.toNat=10 then skp false r+1 else 0
def markB (c:UInt8):Int:=if c.toNat=40 then 1 else if c.toNat=41 then 2 else if c.toNat=39 then 3 else 0
def wrd:List UInt8→Nat
 |[]=>0
 |c::r=>if c.toNat=32∨c.toNat=10∨c.toNat=59∨markB c≠0 then 0 else wrd r+1
theorem skp_le:∀(l:List UInt8) (b:Bool),skp b l≤l.length:=by
 intro l
 induction l with
 |nil=>intro b;cases b<;>simp [skp]
 |cons c r ih=>
  intro b
  have h1:=ih true
  have h2:=ih false
  cases b<;>simp only [skp,List.length_cons]<;>(repeat' split)<;>omega
theorem wrd_le:∀l:List UInt8,wrd l≤l.length:=by
 intro l
 induction l with
 |nil=>simp [wrd]
 |cons c r ih=>simp only [wrd,List.length_cons];split<;>omega
theorem wrd_stop {c:UInt8} {r:List UInt8} (h:c.toNat=32∨c.toNat=10∨c.toNat=59∨markB c≠0):wrd (c::r)=0:=by rw [wrd,if_pos h]
theorem wrd_go {c:UInt8} {r:List UInt8} (h1:¬c.toNat=32) (h2:¬c.toNat=10) (h3:¬c.toNat=59) (h4:markB c=0):wrd (c::r)=wrd r+1:=by
 rw [wrd,if_neg]
 rintro (a|a|a|a)
 ·exact h1 a
 ·exact h2 a
 ·exact h3 a
 ·exact a h4
structure Tok where
 kind:Int
 num:Int
 name:ByteArray
 deriving Inhabited
def encTok (x:Tok):List AV:=[iv x.kind,iv x.num,str x.name]
abbrev roT (xs:List Tok):AV:= .ro (xs.map encTok)
theorem len_encTok (x:Tok):(encTok x).length=3:=rfl
theorem one_encTok (x:Tok):∀y,y∈encTok x→y.one=true:=by
 intro y hy
 simp only [encTok,List.mem_cons,List.not_mem_nil,or_false] at hy
 rcases hy with rfl|rfl|rfl<;>rfl
def wordT (l:List UInt8):Tok × Bool:=
 if isNum l then (⟨4,parV l,⟨#[]⟩⟩,true) else if bs l=⟨#[35,116]⟩ then (⟨5,1,⟨#[]⟩⟩,true) else if bs l=⟨#[35,102]⟩ then (⟨5,0,⟨#[]⟩⟩,true) else (⟨6,0,bs l⟩,symOk (bs l))
def toks (t:List UInt8):Nat→Nat→List Tok→List Tok × Int × Nat
 |0,_,out=>(out,0,0)
 |f+1,at_,out=>match t.drop at_ with
  |[]=>(out,0,0)
  |c::r=>
   if markB c≠0 then (if 120≤out.length then ([],2,at_) else toks t f (at_+1+skp false (t.drop (at_+1))) (out++[⟨markB c,0,⟨#[]⟩⟩]))
   else if (wordT ((c::r).take (wrd (c::r)))).2=false then ([],5,at_)
   else if 120≤out.length then ([],2,at_)
   else toks t f (at_+wrd (c::r)+skp false (t.drop (at_+wrd (c::r)))) (out++[(wordT ((c::r).take (wrd (c::r)))).1])
def tokR (t:List UInt8):List Tok × Int × Nat:=if 400<t.length then ([],2,0) else toks t (t.length+1) (skp false t) []
variable [L:Lam]
variable {σ τ:AH} {R:AEnd→AH→Prop}
theorem fin_cell2 {φ n:Nat} {zs cs:List AV} {w:AV} (hφ:σ φ=none) (hz:zs.length=n) (hc:cs.length=n) (h1:∀x,x∈cs→x.one=true) (h:R (.ret (.tup [.agg cs,w])) σ):
  sto n (.ptr φ 0 0 0) (.agg cs) (σ.set φ ⟨0,n,[zs]⟩) fun σ=>og (lodA n (.ptr φ 0 0 0) σ) fun r=>aret (.tup [r,w]) σ R:=by
 refine sto_own (es:=[zs]) (cs:=cs) (AH.set_same ..) (by simp) (by simpa using hz) rfl hc h1 ?_
 simp only [List.set_cons_zero,AH.set_set]
 have e:=lodA_at (σ:=σ.set φ ⟨0,n,[cs]⟩) (φ:=φ) (st:=0) (i:=0) (n:=n) (cs:=cs) (AH.set_same ..) rfl rfl hc
 simp only [e,RR]
 exact aret_sub (.set (.refl σ) _ hφ) h
theorem push_rw {sz:Nat} {a x:AV} {es:List (List AV)} {z row:List AV} {k:AV→AH→Prop} (h:Buf τ sz a es) (he:afillS sz [z] [(0,x)]=some [row]) (hs:sz≤1000) (hr:row.length=sz) (ho:∀y,y∈row→y.one=true) (hn:es.length+1≤4294967296)
  (hk:∀a' τ',Buf τ' sz a' (es++[row])→Kp (famL a) τ τ'→(∀ψ,ψ∈famL a'→ψ∈famL a∨τ ψ=none)→k a' τ'):bsl sz z 1 [(0,x)] τ fun v τ=>E.app sz a v τ k:=by
 refine bsl1 he (by omega) fun ψ hψ=>?_
 have hs1:AH.Sub τ (τ.set ψ ⟨0,sz,[row]⟩):= .set (.refl τ) _ hψ
 refine buf_app ((Kp.of_sub (F:=[]) hs1).buf h fun _ _ c=>by cases c) ael1 (by intro c hc;obtain rfl:=List.mem_singleton.1 hc;exact hr) (by intro c hc;obtain rfl:=List.mem_singleton.1 hc;exact ho) (by simpa using hn) fun a' τ' hB hK hfam=>hk a' τ' hB (fun χ hχ hn=>?_) fun χ hχ=>?_
 ·rw [hK χ hχ (by rw [AH.set_ne' (by rintro rfl;exact hn hψ)];exact hn),AH.set_ne' (by rintro rfl;exact hn hψ)]
 ·rcases hfam χ hχ with c|c
  ·exact .inl c
  ·exact .inr (hs1.none c)
theorem ibin_eq8 (a b:Int):ibin .eql (u8v a) (u8v b)=some (bv (decide (a=b))):=(ibin_cmp8 a b).2.2.2.2.1
theorem ibin_ne8 (a b:Int):ibin .neq (u8v a) (u8v b)=some (bv (!decide (a=b))):=(ibin_cmp8 a b).2.2.2.2.2
theorem c_spec_l2Mark {c:UInt8} (h:R (.ret (iv (markB c))) σ):acall TP fn_spec_l2Mark [u8v (c.toNat:Nat)] σ R:=by
 refine s_spec_l2Mark_ok ?_
 unfold s_spec_l2Mark
 unfold markB at h
 simp only [ibin_eq8,RR]
 by_cases c1:c.toNat=40
 ·have g:((c.toNat:Nat):Int)=40:=by omega
  rw [if_pos c1] at h
  simp only [g,RR];exact ret_here h
 rw [if_neg c1] at h
 have g1:¬((c.toNat:Nat):Int)=40:=by omega
 by_cases c2:c.toNat=41
 ·have g:((c.toNat:Nat):Int)=41:=by omega
  rw [if_pos c2] at h
  simp only [g,RR,show ¬(41:Int)=40 by omega];exact ret_here h
 rw [if_neg c2] at h
 have g2:¬((c.toNat:Nat):Int)=41:=by omega
 by_cases c3:c.toNat=39
 ·have g:((c.toNat:Nat):Int)=39:=by omega
  rw [if_pos c3] at h
  simp only [g,RR,show ¬(39:Int)=40 by omega,show ¬(39:Int)=41 by omega];exact ret_here h
 rw [if_neg c3] at h
 have g3:¬((c.toNat:Nat):Int)=39:=by omega
 simp only [g1,g2,g3,RR];exact ret_here h
theorem c_spec_l2Skip {l:List UInt8} {p:Nat} (hp:p≤l.length) (hl:l.length≤1048576) (h:R (.ret (iv ((p+skp false (l.drop p):Nat):Int))) σ):acall TP fn_spec_l2Skip [str (bs l),iv (p:Int)] σ R:=by
 refine s_spec_l2Skip_ok ?_
 unfold s_spec_l2Skip
 refine lp_by (fun n x τ=>∃q:Nat,x=(str (bs l),iv (q:Int),())∧τ=σ∧l.length - q=n∧q≤l.length∧q+skp false (l.drop q)=p+skp false (l.drop p)) (l.length - p) ⟨p,rfl,rfl,rfl,hp,rfl⟩ ?_
 rintro n x τ ⟨q,rfl,rfl,rfl,hq,e⟩ R' hR'
 simp only [size_bs,RR]
 by_cases c:q<l.length
 ·have g:(q:Int)<(l.length:Int):=by omega
  have dc:=List.drop_eq_getElem_cons c
  rw [dc] at e
  have up:=ibin_up c (show l.length≤9223372036854775807 by omega)
  simp only [g,idxStr_bs c,ibin_eq8,ibin_ne8,RR]
  by_cases c1:l[q].toNat=59
  ·have g1:((l[q].toNat:Nat):Int)=59:=by omega
   simp only [g1,RR]
   simp only [skp,c1,if_true] at e
   refine lp_by (fun n x τ'=>∃r:Nat,x=(str (bs l),iv (r:Int),())∧τ'=τ∧l.length - r=n∧r≤l.length∧q≤r∧r+skp true (l.drop r)=p+skp false (l.drop p)) (l.length - q) ⟨q,rfl,rfl,rfl,hq,Nat.le_refl _,?_⟩ ?_
   ·rw [dc];simp only [skp,c1,show ¬(59:Nat)=10 by omega,if_false];omega
   rintro n x τ' ⟨r,rfl,rfl,rfl,hr,hqr,e2⟩ R2 hR2
   simp only [size_bs,RR]
   by_cases c2:r<l.length
   ·have g2:(r:Int)<(l.length:Int):=by omega
    have dr:=List.drop_eq_getElem_cons c2
    rw [dr] at e2
    have up2:=ibin_up c2 (show l.length≤9223372036854775807 by omega)
    simp only [g2,idxStr_bs c2,ibin_ne8,RR]
    by_cases c3:l[r].toNat=10
    ·have g3:((l[r].toNat:Nat):Int)=10:=by omega
     simp only [g3,RR]
     simp only [skp,c3,if_true] at e2
     have hne:q≠r:=by rintro rfl;omega
     refine hR' _ _ (l.length - r) τ' (by omega) (.refl _) ⟨r,rfl,rfl,rfl,hr,?_⟩
     rw [dr];simp only [skp,c3,show ¬(10:Nat)=59 by omega,if_false,or_true,if_true];omega
    ·have g3:¬((l[r].toNat:Nat):Int)=10:=by omega
     simp only [g3,up2,RR]
     simp only [skp,c3,if_false] at e2
     exact hR2 _ _ (l.length - (r+1)) τ' (by omega) (.refl _) ⟨r+1,rfl,rfl,rfl,c2,by omega,by omega⟩
   ·have g2:¬(r:Int)<(l.length:Int):=by omega
    have hrl:r=l.length:=by omega
    subst hrl
    simp only [g2,RR]
    simp only [List.drop_length,skp] at e2
    refine hR' _ _ (l.length - l.length) τ' (by omega) (.refl _) ⟨l.length,rfl,rfl,rfl,hr,?_⟩
    simp only [List.drop_length,skp];omega
  ·have g1:¬((l[q].toNat:Nat):Int)=59:=by omega
   simp only [g1,RR]
   by_cases c2:l[q].toNat=32
   ·have g2:((l[q].toNat:Nat):Int)=32:=by omega
    simp only [g2,up,RR]
    simp only [skp,c2,show ¬(32:Nat)=59 by omega,if_false,true_or,if_true] at e
    exact hR' _ _ (l.length - (q+1)) τ (by omega) (.refl _) ⟨q+1,rfl,rfl,rfl,c,by omega⟩
   have g2:¬((l[q].toNat:Nat):Int)=32:=by omega
   by_cases c3:l[q].toNat=10
   ·have g3:((l[q].toNat:Nat):Int)=10:=by omega
    simp only [g2,idxStr_bs c,ibin_ne8,g3,show ¬(10:Int)=32 by omega,up,RR]
    simp only [skp,c3,show ¬(10:Nat)=59 by omega,if_false,or_true,if_true] at e
    exact hR' _ _ (l.length - (q+1)) τ (by omega) (.refl _) ⟨q+1,rfl,rfl,rfl,c,by omega⟩
   have g3:¬((l[q].toNat:Nat):Int)=10:=by omega
   simp only [g2,idxStr_bs c,ibin_ne8,g3,RR]
   simp only [skp,c1,c2,c3,if_false,or_self] at e
   rw [←e] at h
   exact ret_here (by simpa using h)
 ·have g:¬(q:Int)<(l.length:Int):=by omega
  have hql:q=l.length:=by omega
  subst hql
  simp only [g,RR]
  simp only [List.drop_length,skp] at e
  rw [←e] at h
  exact ret_here (by simpa using h)
theorem c_spec_l2End {l:List UInt8} {p:Nat} (hp:p≤l.length) (hl:l.length≤1048576) (h:R (.ret (iv ((p+wrd (l.drop p):Nat):Int))) σ):acall TP fn_spec_l2End [str (bs l),iv (p:Int)] σ R:=by
 refine s_spec_l2End_ok ?_
 unfold s_spec_l2End
 refine lp_by (fun n x τ=>∃q:Nat,x=(str (bs l),iv (q:Int),())∧τ=σ∧l.length - q=n∧q≤l.length∧q+wrd (l.drop q)=p+wrd (l.drop p)) (l.length - p) ⟨p,rfl,rfl,rfl,hp,rfl⟩ ?_
 rintro n x τ ⟨q,rfl,rfl,rfl,hq,e⟩ R' hR'
 refine jn_by (P:=fun x τ'=>τ'=τ∧∃b,x=(str (bs l),iv (q:Int),bv b,())∧(b=true→q<l.length∧wrd (l.drop q)=wrd (l.drop (q+1))+1)∧(b=false→wrd (l.drop q)=0)) ?_ ?_
 ·rintro x τ' ⟨rfl,b,rfl,h1,h0⟩
  cases b with
  |true=>
   obtain ⟨h1,h2⟩:=h1 rfl
   simp only [ibin_up h1 (show l.length≤9223372036854775807 by omega),RR]
   exact hR' _ _ (l.length - (q+1)) τ' (by omega) (.refl _) ⟨q+1,rfl,rfl,rfl,h1,by omega⟩
  |false=>
   rw [h0 rfl] at e
   rw [←e] at h
   simp only [RR]
   exact ret_here h
 intro k hk
 by_cases c:q<l.length
 ·have g:(q:Int)<(l.length:Int):=by omega
  have dc:=List.drop_eq_getElem_cons c
  have stop:(l[q].toNat=32∨l[q].toNat=10∨l[q].toNat=59∨markB l[q]≠0)→k (str (bs l),iv (q:Int),bv false,()) τ:=fun hc=>
   hk _ _ ⟨rfl,false,rfl,(fun x=>by cases x),fun _=>by rw [dc];exact wrd_stop hc⟩
  simp only [size_bs,g,idxStr_bs c,ibin_ne8,RR]
  by_cases c1:l[q].toNat=32
  ·have g1:((l[q].toNat:Nat):Int)=32:=by omega
   simp only [g1,RR];exact stop (.inl c1)
  have g1:¬((l[q].toNat:Nat):Int)=32:=by omega
  simp only [g1,idxStr_bs c,ibin_ne8,RR]
  by_cases c2:l[q].toNat=10
  ·have g2:((l[q].toNat:Nat):Int)=10:=by omega
   simp only [g2,RR];exact stop (.inr (.inl c2))
  have g2:¬((l[q].toNat:Nat):Int)=10:=by omega
  simp only [g2,idxStr_bs c,ibin_ne8,RR]
  by_cases c3:l[q].toNat=59
  ·have g3:((l[q].toNat:Nat):Int)=59:=by omega
   simp only [g3,RR];exact stop (.inr (.inr (.inl c3)))
  have g3:¬((l[q].toNat:Nat):Int)=59:=by omega
  simp only [g3,idxStr_bs c,RR]
  refine c_spec_l2Mark ?_
  simp only [RR]
  by_cases c4:markB l[q]=0
  ·simp only [c4,RR]
   exact hk _ _ ⟨rfl,true,rfl,(fun _=>⟨c,by rw [dc];exact wrd_go c1 c2 c3 c4⟩),fun x=>by cases x⟩
  ·simp only [c4,RR];exact stop (.inr (.inr (.inr c4)))
 ·have g:¬(q:Int)<(l.length:Int):=by omega
  have hql:q=l.length:=by omega
  subst hql
  simp only [size_bs,g,RR]
  exact hk _ _ ⟨rfl,false,rfl,(fun x=>by cases x),fun _=>by rw [List.drop_length,wrd]⟩
theorem bldT (k n:Int) (s:ByteArray):bld [iv 0,iv 0,str ⟨#[]⟩] [(0,1),(1,1),(2,1)] [(0,iv k),(1,iv n)]=some (.agg (encTok ⟨k,n,⟨#[]⟩⟩))∧bld [iv 0,iv 0,str ⟨#[]⟩] [(0,1),(1,1),(2,1)] [(0,iv k)]=some (.agg (encTok ⟨k,0,⟨#[]⟩⟩))∧
  bld [iv 0,iv 0,str ⟨#[]⟩] [(0,1),(1,1),(2,1)] [(0,iv k),(2,str s)]=some (.agg (encTok ⟨k,0,s⟩)):=⟨rfl,rfl,rfl⟩
theorem c_spec_l2Word {l:List UInt8} (hl:l.length≤1048576) (h:R (.ret (.tup [.agg (encTok (wordT l).1),bv (wordT l).2])) σ):acall TP fn_spec_l2Word [str (bs l)] σ R:=by
 refine s_spec_l2Word_ok ?_
 unfold s_spec_l2Word
 intro φ hφ
 have rest:isNum l=false→(og (sbin .eql (str (bs l)) (.val (.string ⟨#[35,116]⟩))) fun v15=>
  apick v15 (
   og (bld [iv 0,iv 0,str ⟨#[]⟩] [(0,1),(1,1),(2,1)] [(0,iv 5),(1,iv 1)]) fun v16=>
   sto 3 (.ptr φ 0 0 0) v16 (σ.set φ ⟨0,3,[[iv 0,iv 0,str ⟨#[]⟩]]⟩) fun σ=>
   og (lodA 3 (.ptr φ 0 0 0) σ) fun r2=>
   aret (.tup [r2,bv true]) σ R) (
   og (sbin .eql (str (bs l)) (.val (.string ⟨#[35,102]⟩))) fun v18=>
   apick v18 (
    og (bld [iv 0,iv 0,str ⟨#[]⟩] [(0,1),(1,1),(2,1)] [(0,iv 5)]) fun v19=>
    sto 3 (.ptr φ 0 0 0) v19 (σ.set φ ⟨0,3,[[iv 0,iv 0,str ⟨#[]⟩]]⟩) fun σ=>
    og (lodA 3 (.ptr φ 0 0 0) σ) fun r2=>
    aret (.tup [r2,bv true]) σ R) (
    og (bld [iv 0,iv 0,str ⟨#[]⟩] [(0,1),(1,1),(2,1)] [(0,iv 6),(2,str (bs l))]) fun v21=>
    acall TP fn_spec_l2Sym [str (bs l)] (σ.set φ ⟨0,3,[[iv 0,iv 0,str ⟨#[]⟩]]⟩) (onr (fun v23 σ=>
    sto 3 (.ptr φ 0 0 0) v21 σ fun σ=>
    og (lodA 3 (.ptr φ 0 0 0) σ) fun r2=>
    aret (.tup [r2,v23]) σ R) (fun v σ=>apan v σ R))))):=fun hn=>by
  unfold wordT at h
  rw [hn] at h
  simp only [Bool.false_eq_true,if_false] at h
  simp only [sbin_eql',RR]
  by_cases c1:bs l=⟨#[35,116]⟩
  ·rw [if_pos c1] at h
   simp only [c1,(bldT 5 1 ⟨#[]⟩).1,RR]
   exact fin_cell2 hφ rfl rfl (one_encTok _) h
  rw [if_neg c1] at h
  by_cases c2:bs l=⟨#[35,102]⟩
  ·rw [if_pos c2] at h
   have c1':¬(⟨#[35,102]⟩:ByteArray)=⟨#[35,116]⟩:=by rw [←c2];exact c1
   simp only [c2,c1',(bldT 5 1 ⟨#[]⟩).2.1,RR]
   exact fin_cell2 hφ rfl rfl (one_encTok _) h
  rw [if_neg c2] at h
  simp only [c1,c2,(bldT 6 1 (bs l)).2.2,RR]
  refine c_spec_l2Sym (by rw [size_bs];omega) ?_
  simp only [RR]
  exact fin_cell2 hφ rfl rfl (one_encTok _) h
 refine c_spec_l1Parse hl (fun hp=>?_) fun hp=>?_
 ·have e0:aext (.tup [iv (parV l),bv (inB (-1000000000) 1000000000 (parV l)&&decide (itB (parV l)=bs l))]) 0=some (iv (parV l)):=rfl
  have e1:aext (.tup [iv (parV l),bv (inB (-1000000000) 1000000000 (parV l)&&decide (itB (parV l)=bs l))]) 1=some (bv (inB (-1000000000) 1000000000 (parV l)&&decide (itB (parV l)=bs l))):=rfl
  simp only [e0,e1,RR]
  have en:isNum l=(inB (-1000000000) 1000000000 (parV l)&&decide (itB (parV l)=bs l)):=by unfold isNum;rw [hp,Bool.true_and]
  cases c:(inB (-1000000000) 1000000000 (parV l)&&decide (itB (parV l)=bs l)) with
  |true=>
   unfold wordT at h
   rw [en,c] at h
   simp only [if_true] at h
   simp only [(bldT 4 (parV l) ⟨#[]⟩).1,RR]
   exact fin_cell2 hφ rfl rfl (one_encTok _) h
  |false=>
   simp only [RR]
   exact rest (by rw [en,c])
 ·have e0:aext (.tup [iv 0,bv false]) 0=some (iv 0):=rfl
  have e1:aext (.tup [iv 0,bv false]) 1=some (bv false):=rfl
  simp only [e0,e1,RR]
  exact rest (by unfold isNum;rw [hp];rfl)
end Go.Proofs.YtbppopcpgcgkkaaGreatDoor.E
/- Tokens of a text: the reference's way, all of it. -/
namespace Go.Proofs.YtbppopcpgcgkkaaGreatDoor.E
open Go Go.RowKit
set_option maxRecDepth 100000
theorem skp_zero {c:UInt8} {r:List UInt8} (h:skp false (c::r)=0):¬c.toNat=59∧¬c.toNat=32∧¬c.toNat=10:=by
 rw [skp] at h
 refine ⟨fun c1=>?_,fun c1=>?_,fun c1=>?_⟩
 ·rw [if_pos c1] at h;omega
 ·rw [if_neg (by omega),if_pos (.inl c1)] at h;omega
 ·rw [if_neg (by omega),if_pos (.inr c1)] at h;omega
theorem skp_idem:∀(l:List UInt8) (b:Bool),skp false (l.drop (skp b l))=0:=by
 intro l
 induction l with
 |nil=>intro b;cases b<;>rfl
 |cons c r ih=>
  intro b
  cases b with
  |true=>
   rw [skp]
   split
   ·rw [List.drop_succ_cons];exact ih false
   ·rw [List.drop_succ_cons];exact ih true
  |false=>
   rw [skp]
   split
   ·rw [List.drop_succ_cons];exact ih true
   ·split
    ·rw [List.drop_succ_cons];exact ih false
    ·rename_i h1 h2
     rw [List.drop_zero,skp,if_neg h1,if_neg h2]
theorem skp_at (t:List UInt8) (q:Nat):skp false (t.drop (q+skp false (t.drop q)))=0:=by
 rw [←List.drop_drop];exact skp_idem _ _
variable [L:Lam]
variable {σ τ:AH} {R:AEnd→AH→Prop}
theorem slc_midI {l:List UInt8} {a b:Nat} (h1:a≤b) (h2:b≤l.length):slcStr (str (bs l)) (some (iv (a:Int))) (some (iv (b:Int)))=some (str (bs ((l.drop a).take (b - a)))):=by
 have e1:abd (some (iv (a:Int))) 0=some a:=abd_nat _ _
 have e2:abd (some (iv (b:Int))) (bs l).size=some b:=abd_nat _ _
 simp only [slcStr,e1,e2]
 rw [if_pos ⟨h1,by rw [size_bs];exact h2⟩]
 congr 3
 apply ByteArray.ext
 rw [ByteArray.data_extract]
 simp [List.drop_take]
theorem afill1 {x:Tok}:afillS 3 [[iv 0,iv 0,str ⟨#[]⟩]] [(0,.agg (encTok x))]=some [encTok x]:=rfl
theorem ret_no {a b:AV} (hs:AH.Sub σ τ) (h:R (.ret (.tup [.ro [],a,b])) σ):aret (.tup [.val (.slice none 0 0),a,b]) τ R:=by
 refine aret_freeze (a':= .tup [.ro [],a,b]) hs (.tup rfl fun j hj=>?_) h
 match j,hj with
 |0,_=>exact .nil
 |1,_=>exact .same _
 |2,_=>exact .same _
theorem fin_cellZ {φ n:Nat} {zs cs cs':List AV} (hφ:σ φ=none) (hz:zs.length=n) (hc:cs.length=n) (h1:∀x,x∈cs→x.one=true) (hl:cs.length=cs'.length) (hf:∀i,i<cs.length→Fz σ (σ.set φ ⟨0,n,[cs]⟩) (cs.getD i .any) (cs'.getD i .any)) (h:R (.ret (.agg cs')) σ):
  sto n (.ptr φ 0 0 0) (.agg cs) (σ.set φ ⟨0,n,[zs]⟩) fun σ=>og (lodA n (.ptr φ 0 0 0) σ) fun r=>aret r σ R:=by
 refine sto_own (es:=[zs]) (cs:=cs) (AH.set_same ..) (by simp) (by simpa using hz) rfl hc h1 ?_
 simp only [List.set_cons_zero,AH.set_set]
 have e:=lodA_at (σ:=σ.set φ ⟨0,n,[cs]⟩) (φ:=φ) (st:=0) (i:=0) (n:=n) (cs:=cs) (AH.set_same ..) rfl rfl hc
 simp only [e,RR]
 exact aret_freeze (.set (.refl σ) _ hφ) (.agg hl hf) h
theorem c_spec_l2Tokens {t:List UInt8} (hl:t.length≤400) (h:R (.ret (.tup [roT (toks t (t.length+1) (skp false t) []).1,iv (toks t (t.length+1) (skp false t) []).2.1,iv ((toks t (t.length+1) (skp false t) []).2.2:Nat)])) σ):acall TP fn_spec_l2Tokens [str (bs t)] σ R:=by
 refine s_spec_l2Tokens_ok ?_
 unfold s_spec_l2Tokens
 refine bsl0 ?_
 refine c_spec_l2Skip (p:=0) (Nat.zero_le _) (by omega) ?_
 simp only [RR,List.drop_zero]
 generalize hE:toks t (t.length+1) (skp false t) []=E at h
 refine lp_by (fun f x τ=>∃(p:Nat) (ts:List Tok) (u:AV),x=(str (bs t),u,iv (p:Int),())∧Buf τ 3 u (ts.map encTok)∧AH.Sub σ τ∧(∀ψ,ψ∈famL u→σ ψ=none)∧toks t f p ts=E∧ts.length≤120∧p≤t.length∧t.length+1≤f+p∧skp false (t.drop p)=0) (t.length+1)
  ⟨skp false t,[],.emp,rfl,.inl ⟨.inr rfl,rfl⟩,.refl σ,(fun ψ c=>by cases c),hE,by simp,skp_le t false,by omega,skp_idem t false⟩ ?_
 rintro f x τ ⟨p,ts,u,rfl,hB,hs,hf,he,hn,hp,hfp,hz⟩ R' hR'
 simp only [size_bs,RR]
 obtain ⟨f,rfl⟩:∃g,f=g+1:=⟨f - 1,by omega⟩
 by_cases c:p<t.length
 ·have g:(p:Int)<(t.length:Int):=by omega
  have dc:=List.drop_eq_getElem_cons c
  rw [toks,dc] at he
  dsimp only at he
  rw [dc] at hz
  obtain ⟨z1,z2,z3⟩:=skp_zero hz
  simp only [g,idxStr_bs c,RR]
  refine c_spec_l2Mark ?_
  simp only [(bldT (markB t[p]) 0 ⟨#[]⟩).2.1,ibin_up c (show t.length≤9223372036854775807 by omega),RR]
  intro φ hφ
  refine sto_own (es:=[[iv 0,iv 0,str ⟨#[]⟩]]) (cs:=encTok ⟨markB t[p],0,⟨#[]⟩⟩) (AH.set_same ..) (by simp) rfl rfl rfl (one_encTok _) ?_
  simp only [List.set_cons_zero,AH.set_set]
  refine jn_by (P:=fun x τ'=>∃(q:Nat) (tk:Tok),x=(str (bs t),u,iv (q:Int),iv (p:Int),.ptr φ 0 0 0,())∧τ'=τ.set φ ⟨0,3,[encTok tk]⟩∧(120≤ts.length→E=([],2,p))∧(ts.length<120→toks t f (q+skp false (t.drop q)) (ts++[tk])=E)∧q≤t.length∧p<q) ?_ ?_
  ·rintro x τ' ⟨q,tk,rfl,rfl,h1,h2,h3,h4⟩
   refine frz_cell hφ rfl ?_
   have hlen:lenS u=some (iv (ts.length:Int)):=by have:=buf_len hB;simpa using this
   simp only [hlen,RR]
   by_cases cm:120≤ts.length
   ·have gm:(120:Int)≤(ts.length:Int):=by omega
    simp only [gm,RR]
    rw [h1 cm] at h
    exact ret_no hs h
   ·have gm:¬(120:Int)≤(ts.length:Int):=by omega
    simp only [gm,lodA_all (len_encTok tk),RR]
    refine push_rw (row:=encTok tk) hB afill1 (by omega) rfl (one_encTok tk) (by simp;omega) fun u' τ2 hB' hK hfam=>?_
    refine c_spec_l2Skip h3 (by omega) ?_
    simp only [RR]
    have hsk:=skp_le (t.drop q) false
    rw [List.length_drop] at hsk
    refine hR' _ _ f τ2 (by omega) (.refl _) ⟨q+skp false (t.drop q),ts++[tk],u',rfl,by simpa using hB',hK.sub hs hf,fun ψ hψ=>(hfam ψ hψ).elim (hf ψ) fun d=>hs.none d,h2 (by omega),by simp;omega,by omega,by omega,skp_at t q⟩
  ·intro k hk
   have hF:(τ.set φ ⟨0,3,[encTok ⟨markB t[p],0,⟨#[]⟩⟩]⟩) φ=some ⟨0,3,[encTok ⟨markB t[p],0,⟨#[]⟩⟩]⟩:=AH.set_same ..
   have el:=lod_at (st:=0) (i:=0) (off:=0) (c:=iv (markB t[p])) hF rfl rfl
   simp only [el,RR]
   by_cases cm:markB t[p]=0
   ·rw [if_neg (by simp [cm])] at he
    simp only [cm,RR]
    refine c_spec_l2End hp (by omega) ?_
    rw [dc]
    have hw:=wrd_le (t[p]::t.drop (p+1))
    have hw1:1≤wrd (t[p]::t.drop (p+1)):=by rw [wrd_go z2 z3 z1 cm];omega
    have hlc:(t[p]::t.drop (p+1)).length=t.length - p:=by rw [←dc,List.length_drop]
    generalize hW:wrd (t[p]::t.drop (p+1))=W at*
    simp only [RR]
    rw [slc_midI (a:=p) (b:=p+W) (by omega) (by omega),show p+W - p=W by omega,dc]
    simp only [RR]
    refine c_spec_l2Word (by rw [List.length_take];omega) ?_
    generalize wordT ((t[p]::t.drop (p+1)).take W)=wt at*
    have e0:aext (.tup [.agg (encTok wt.1),bv wt.2]) 0=some (.agg (encTok wt.1)):=rfl
    have e1:aext (.tup [.agg (encTok wt.1),bv wt.2]) 1=some (bv wt.2):=rfl
    simp only [e0,e1,RR]
    intro φ9 h9
    refine sto_own (es:=[[iv 0,iv 0,str ⟨#[]⟩]]) (cs:=encTok wt.1) (AH.set_same ..) (by simp) rfl rfl rfl (one_encTok _) ?_
    simp only [List.set_cons_zero,AH.set_set]
    refine frz_cell h9 rfl ?_
    cases hw2:wt.2 with
    |false=>
     rw [if_pos hw2] at he
     rw [←he] at h
     simp only [RR]
     exact ret_no (.set hs _ (hs.none hφ)) h
    |true=>
     rw [if_neg (by rw [hw2];simp)] at he
     simp only [lodA_all (len_encTok wt.1),RR]
     refine sto_own (es:=[encTok ⟨0,0,⟨#[]⟩⟩]) (cs:=encTok wt.1) (by rw [AH.set_same]) (by simp) rfl rfl rfl (one_encTok _) ?_
     simp only [List.set_cons_zero,AH.set_set]
     refine hk _ _ ⟨p+W,wt.1,rfl,rfl,fun c2=>?_,fun c2=>?_,by omega,by omega⟩
     ·rw [if_pos c2] at he;exact he.symm
     ·rw [if_neg (by omega)] at he;exact he
   ·rw [if_pos (by simpa using cm)] at he
    simp only [cm,RR]
    refine hk _ _ ⟨p+1,⟨markB t[p],0,⟨#[]⟩⟩,rfl,rfl,fun c2=>?_,fun c2=>?_,by omega,by omega⟩
    ·rw [if_pos c2] at he;exact he.symm
    ·rw [if_neg (by omega)] at he;exact he
 ·have g:¬(p:Int)<(t.length:Int):=by omega
  obtain rfl:p=t.length:=by omega
  rw [toks,List.drop_length] at he
  dsimp only at he
  rw [←he] at h
  simp only [g,RR]
  refine aret_freeze (a':= .tup [roT ts,iv 0,iv 0]) hs (.tup rfl fun j hj=>?_) h
  match j,hj with
  |0,_=>exact fz_row hB hf rfl (by intro c hc;obtain ⟨o,_,rfl⟩:=List.mem_map.1 hc;rfl) fun _ _ _ _=> .same _
  |1,_=>exact .same _
  |2,_=>exact .same _
theorem bldTR (c a:Int) (es:List (List AV)):bld [iv 0,iv 0,.val (.slice none 0 0)] [(0,1),(1,1),(2,1)] [(0,iv c),(1,iv a),(2,.ro es)]=some (.agg [iv c,iv a,.ro es]):=rfl
theorem c_spec_TokensOf {t:List UInt8} (hl:t.length≤1048576) (h:R (.ret (.agg [iv (tokR t).2.1,iv ((tokR t).2.2:Nat),roT (tokR t).1])) σ):acall TP fn_spec_TokensOf [str (bs t)] σ R:=by
 refine s_spec_TokensOf_ok ?_
 unfold s_spec_TokensOf
 intro φ hφ
 unfold tokR at h
 simp only [size_bs,RR]
 by_cases c:400<t.length
 ·have g:(400:Int)<(t.length:Int):=by omega
  rw [if_pos c] at h
  have e:bld [iv 0,iv 0,.val (.slice none 0 0)] [(0,1),(1,1),(2,1)] [(0,iv 2)]=some (.agg [iv 2,iv 0,.val (.slice none 0 0)]):=rfl
  simp only [g,e,RR]
  refine fin_cellZ (cs':=[iv 2,iv 0,roT []]) hφ rfl rfl (by intro x hx;simp at hx;rcases hx with rfl|rfl|rfl<;>rfl) rfl (fun j hj=>?_) h
  match j,hj with
  |0,_=>exact .same _
  |1,_=>exact .same _
  |2,_=>exact .nil
 ·have g:¬(400:Int)<(t.length:Int):=by omega
  rw [if_neg c] at h
  simp only [g,RR]
  refine c_spec_l2Tokens (by omega) ?_
  generalize toks t (t.length+1) (skp false t) []=E at h ⊢
  have e0:aext (.tup [roT E.1,iv E.2.1,iv (E.2.2:Nat)]) 0=some (roT E.1):=rfl
  have e1:aext (.tup [roT E.1,iv E.2.1,iv (E.2.2:Nat)]) 1=some (iv E.2.1):=rfl
  have e2:aext (.tup [roT E.1,iv E.2.1,iv (E.2.2:Nat)]) 2=some (iv (E.2.2:Nat)):=rfl
  simp only [e0,e1,e2,bldTR,RR]
  exact fin_cell hφ rfl rfl (by intro x hx;simp at hx;rcases hx with rfl|rfl|rfl<;>rfl) h
end Go.Proofs.YtbppopcpgcgkkaaGreatDoor.E
/- Data of a text: the plain law, and the steps of the reference's way. -/
namespace Go.Proofs.YtbppopcpgcgkkaaGreatDoor.E
open Go Go.RowKit
set_option maxRecDepth 100000
abbrev Opn:=List (Nat × Bool)
abbrev Rds:=List Dat × Opn
def topP (o:Opn):Int:=match o.getLast? with
 |none=> -1
 |some p=>(p.1:Int)
def wholeO (o:Opn):Opn:=(o.reverse.dropWhile fun p=>p.2).reverse
def roomF (s:Rds):Bool:=decide (80≤s.1.length)||decide (12≤s.2.length)
def datP (x:Dat) (o:Opn):Dat:={x with parent:=topP o}
def putR (x:Dat) (s:Rds):Rds × Int:=if roomF s then (s,2) else ((s.1++[datP x s.2],s.2),0)
def lisD:Dat:=⟨4,0,0,⟨#[]⟩⟩
def quoD:Dat:=⟨3,0,0,⟨#[113,117,111,116,101]⟩⟩
def opR (q:Bool) (s:Rds):Rds:=((putR lisD s).1.1,s.2++[(s.1.length,q)])
def beginR (q:Bool) (s:Rds):Rds × Int:=if roomF s then (s,2) else if q then putR quoD (opR q s) else (opR q s,0)
def closeR (s:Rds):Rds × Int:=match s.2.getLast? with
 |none=>(s,1)
 |some p=>if p.2 then (s,1) else ((s.1,wholeO s.2.dropLast),0)
def leafR (x:Dat) (s:Rds):Rds × Int:=if roomF s then (s,2) else ((s.1++[datP x s.2],wholeO s.2),0)
def tokenR (t:Tok) (s:Rds):Rds × Int:=
 if t.kind=1 then beginR false s
 else if t.kind=3 then beginR true s
 else if t.kind=2 then closeR s
 else leafR ⟨t.kind - 3,0,t.num,t.name⟩ s
def readR:List Tok→Nat→Rds→List Dat × Int × Nat
 |[],i,s=>if s.1=[]∨s.2≠[] then ([],1,i) else (s.1,0,0)
 |t::r,i,s=>if 0<i∧s.2=[] then ([],1,i) else if (tokenR t s).2≠0 then ([],(tokenR t s).2,i) else readR r (i+1) (tokenR t s).1
def dataR (t:List UInt8):List Dat × Int × Nat:=if (tokR t).2.1≠0 then ([],(tokR t).2.1,(tokR t).2.2) else readR (tokR t).1 0 ([],[])
def SmR (s:Rds):Prop:=s.1.length≤81∧s.2.length≤13
theorem room_lt {s:Rds} (h:roomF s=false):s.1.length<80∧s.2.length<12:=by
 simp only [roomF,Bool.or_eq_false_iff,decide_eq_false_iff_not] at h
 omega
theorem putR_sm {x:Dat} {s:Rds} (h:s.1.length≤80∧s.2.length≤12):(putR x s).1.1.length≤80∧(putR x s).1.2.length≤12:=by
 unfold putR
 split
 ·exact h
 ·rename_i c
  have:=room_lt (by simpa using c)
  simp;omega
theorem wholeO_le (o:Opn):(wholeO o).length≤o.length:=by
 unfold wholeO
 rw [List.length_reverse]
 exact Nat.le_trans (List.Sublist.length_le (List.dropWhile_sublist _)) (by simp)
theorem tokenR_sm {t:Tok} {s:Rds} (h:s.1.length≤80∧s.2.length≤12):(tokenR t s).1.1.length≤80∧(tokenR t s).1.2.length≤12:=by
 have hb:∀q,(beginR q s).1.1.length≤80∧(beginR q s).1.2.length≤12:=by
  intro q
  unfold beginR
  split
  ·exact h
  ·rename_i c
   have c:=room_lt (by simpa using c)
   have h2:(opR q s).1.length≤80∧(opR q s).2.length≤12:=by
    have:=putR_sm (x:=lisD) h
    simp only [opR,List.length_append,List.length_cons,List.length_nil]
    omega
   split
   ·exact putR_sm h2
   ·exact h2
 unfold tokenR
 split
 ·exact hb _
 split
 ·exact hb _
 split
 ·unfold closeR
  split
  ·exact h
  ·split
   ·exact h
   ·refine ⟨h.1,Nat.le_trans (wholeO_le _) ?_⟩
    simp;omega
 ·unfold leafR
  split
  ·exact h
  ·rename_i c
   have c:=room_lt (by simpa using c)
   have:=wholeO_le s.2
   simp;omega
variable [L:Lam]
variable {σ τ τ':AH} {R:AEnd→AH→Prop}
theorem sub_one {n:Nat} (h:1≤n) (h2:n≤1000000):ibin .sub (iv (n:Int)) (.val (.int .i64 1))=some (iv ((n - 1:Nat):Int)):=by
 rw [ibin_sub (by omega) (by omega)]
 congr 3;omega
def fdR (s:Rds):List Fd:=[.lst 4 (s.1.map encDat),.lst 1 (s.2.map fun p=>[iv (p.1:Int)]),.lst 1 (s.2.map fun p=>[bv p.2])]
theorem top_at {X:Type} {c:X→AV} {v:AV} {o:List X} (h:Bfj τ 1 v (o.map fun p=>[c p])) {p:X} (hp:o.getLast? =some p):∃φ st,idx 1 v (iv ((o.length - 1:Nat):Int)) τ=some (.ptr φ st (o.length - 1) 0)∧lod (.ptr φ st (o.length - 1) 0) τ=some (c p):=by
 have hne:0<o.length:=by
  cases o with
  |nil=>cases hp
  |cons a r=>simp
 have hl:o.length - 1<(o.map fun p=>[c p]).length:=by rw [List.length_map];omega
 obtain ⟨φ,st,e1,e2⟩:=h.at hl
 refine ⟨φ,st,e1,e2 0 _ ?_⟩
 rw [List.getLast?_eq_getElem?] at hp
 have hl2:o.length - 1<o.length:=by omega
 rw [List.getElem?_eq_getElem hl2] at hp
 rw [List.getElem_map,Option.some.inj hp]
 rfl
theorem bfj_len {X:Type} {enc:X→List AV} {sz:Nat} {v:AV} {o:List X} (h:Bfj τ sz v (o.map enc)):lenS v=some (iv (o.length:Int)):=by rw [h.len,List.length_map]
section
variable {φm:Nat} {s:Rds}
theorem last_some {X:Type} {o:List X} (h:o≠[]):∃p,o.getLast? =some p:=⟨_,List.getLast?_eq_some_getLast h⟩
theorem c_spec_l3Put {x:Dat} (h:MSt σ τ φm (fdR s)) (hn:SmR s) (h1:∀τ',MSt σ τ' φm (fdR (putR x s).1)→R (.ret (iv (putR x s).2)) τ'):acall TP fn_spec_l3Put [.ptr φm 0 0 0,.agg (encDat x)] τ R:=by
 refine s_spec_l3Put_ok ?_
 unfold s_spec_l3Put
 rw [abox_agg]
 intro ψ hψ
 have hs:AH.Sub τ (τ.set ψ ⟨0,4,[encDat x]⟩):= .set (.refl τ) _ hψ
 have hg:=h.grow hs
 obtain ⟨vd,e0,b0⟩:=h.lst (i:=0) rfl
 obtain ⟨vo,e1,b1⟩:=h.lst (i:=1) rfl
 have e0':=lod_mono hs e0
 have e1':=lod_mono hs e1
 have l0:=bfj_len b0
 have l1:=bfj_len b1
 have e4:(encDat x).length=4:=rfl
 simp only [e4,e0',e1',l0,l1,RR]
 unfold putR at h1
 have hr:roomF s=(decide (80≤s.1.length)||decide (12≤s.2.length)):=rfl
 have bad:roomF s=true→aret (.val (.int .i64 2)) (τ.set ψ ⟨0,4,[encDat x]⟩) R:=fun hb=>by
  rw [if_pos hb] at h1
  exact ret_here (h1 _ hg)
 by_cases c1:80≤s.1.length
 ·have g1:(80:Int)≤(s.1.length:Int):=by omega
  simp only [g1,RR]
  exact bad (by rw [hr];simp [c1])
 have g1:¬(80:Int)≤(s.1.length:Int):=by omega
 by_cases c2:12≤s.2.length
 ·have g2:(12:Int)≤(s.2.length:Int):=by omega
  simp only [g1,g2,e1',l1,RR]
  exact bad (by rw [hr];simp [c2])
 have g2:¬(12:Int)≤(s.2.length:Int):=by omega
 have hrf:roomF s=false:=by rw [hr];simp [c1,c2]
 rw [hrf] at h1
 simp only [Bool.false_eq_true,if_false] at h1
 simp only [g1,g2,e1',l1,RR]
 refine sto_fld (es:=[encDat x]) (cs:=encDat x) (AH.set_same ..) rfl (by omega) rfl rfl ?_
 rw [AH.set_set]
 have x1:∀a:Int,[encDat x].set 0 ((encDat x).set 1 (iv a))=[encDat {x with parent:=a}]:=fun a=>rfl
 refine jn_by (P:=fun y τ'=>y=(.ptr φm 0 0 0,.ptr ψ 0 0 0,())∧τ'=τ.set ψ ⟨0,4,[encDat (datP x s.2)]⟩) ?_ ?_
 ·rintro y τ' ⟨rfl,rfl⟩
  refine frz_cell hψ rfl ?_
  simp only [e0,lodA_all (len_encDat _),RR]
  rw [lit1 (sz:=4) (row:=encDat (datP x s.2)) rfl rfl (by omega)]
  simp only [RR]
  refine h.app (i:=0) rfl e0 (row:=encDat (datP x s.2)) rfl rfl (one_encDat _) (by simp;omega) fun v' τ1 k1=>?_
  simp only [RR,true_and]
  refine k1 _ fun τ2 S2=>?_
  have ef:(fdR s).set 0 (.lst 4 (s.1.map encDat++[encDat (datP x s.2)]))=fdR (s.1++[datP x s.2],s.2):=by simp [fdR]
  rw [ef] at S2
  exact ret_here (h1 τ2 S2)
 ·intro k hk
  have hs2:AH.Sub τ (τ.set ψ ⟨0,4,[encDat {x with parent:= -1}]⟩):= .set (.refl τ) _ hψ
  rw [x1]
  by_cases c3:s.2=[]
  ·have g3:¬(0:Int)<(s.2.length:Int):=by rw [c3];simp
   have et:datP x s.2={x with parent:= -1}:=by rw [c3];rfl
   simp only [lod_mono hs2 e1,l1,g3,RR]
   exact hk _ _ ⟨rfl,by rw [et]⟩
  ·obtain ⟨p,hp⟩:=last_some c3
   have hl1:1≤s.2.length:=List.length_pos_iff.2 c3
   have g3:(0:Int)<(s.2.length:Int):=by omega
   obtain ⟨φt,st,t1,t2⟩:=top_at b1 hp
   have t1':idx 1 vo (iv ((s.2.length - 1:Nat):Int)) (τ.set ψ ⟨0,4,[encDat {x with parent:= -1}]⟩)=some (.ptr φt st (s.2.length - 1) 0):=idx_mono hs2 t1
   simp only [lod_mono hs2 e1,l1,g3,sub_one hl1 (by omega),t1',lod_mono hs2 t2,RR]
   refine sto_fld (es:=[encDat {x with parent:= -1}]) (cs:=encDat {x with parent:= -1}) (AH.set_same ..) rfl (by omega) rfl rfl ?_
   rw [AH.set_set]
   have et:datP x s.2={x with parent:=(p.1:Int)}:=by unfold datP topP;rw [hp]
   exact hk _ _ ⟨rfl,by rw [et];rfl⟩
end
end Go.Proofs.YtbppopcpgcgkkaaGreatDoor.E
/- Data of a text: the reference's way, all of it. -/
namespace Go.Proofs.YtbppopcpgcgkkaaGreatDoor.E
open Go Go.RowKit
set_option maxRecDepth 100000
theorem whole_last {o:Opn} {p:Nat × Bool} (h:o.getLast? =some p) (hp:p.2=true):wholeO o=wholeO o.dropLast:=by
 have hd:o=o.dropLast++[p]:=by
  have hne:o≠[]:=by rintro rfl;cases h
  have:=List.dropLast_concat_getLast hne
  rw [List.getLast?_eq_some_getLast hne] at h
  rw [←Option.some.inj h];exact this.symm
 conv=>lhs;rw [hd]
 unfold wholeO
 rw [List.reverse_append,List.reverse_singleton,List.singleton_append,List.dropWhile_cons,if_pos hp]
theorem whole_stop {o:Opn} {p:Nat × Bool} (h:o.getLast? =some p) (hp:p.2=false):wholeO o=o:=by
 have hne:o≠[]:=by rintro rfl;cases h
 have hd:o=o.dropLast++[p]:=by
  have:=List.dropLast_concat_getLast hne
  rw [List.getLast?_eq_some_getLast hne] at h
  rw [←Option.some.inj h];exact this.symm
 unfold wholeO
 rw [hd,List.reverse_append,List.reverse_singleton,List.singleton_append,List.dropWhile_cons,if_neg (by rw [hp];decide),List.reverse_cons,List.reverse_reverse]
variable [L:Lam]
variable {σ τ τ':AH} {R:AEnd→AH→Prop}
theorem take_map_last {X Y:Type} (f:X→Y) (o:List X):(o.map f).take (o.length - 1)=o.dropLast.map f:=by
 rw [←List.map_take,List.dropLast_eq_take]
section
variable {φm:Nat} {s:Rds}
theorem cut_both {s:Rds} (h:MSt σ τ φm (fdR s)) (hne:s.2≠[]) (hn:s.2.length≤13) {v1:AV} (e1:lod (.ptr φm 0 0 1) τ=some v1):
  ∃v1',slc 1 v1 none (some (iv ((s.2.length - 1:Nat):Int))) none τ=some v1'∧∀k:AH→Prop,(∀τ1 v2,MSt σ τ1 φm ((fdR s).set 1 (.lst 1 (s.2.dropLast.map fun p=>[iv (p.1:Int)])))→lod (.ptr φm 0 0 2) τ1=some v2→lenS v2=some (iv (s.2.length:Int))→
   (∃v2',slc 1 v2 none (some (iv ((s.2.length - 1:Nat):Int))) none τ1=some v2'∧∀k':AH→Prop,(∀τ2,MSt σ τ2 φm (fdR (s.1,s.2.dropLast))→k' τ2)→sto 1 (.ptr φm 0 0 2) v2' τ1 k')→k τ1)→sto 1 (.ptr φm 0 0 1) v1' τ k:=by
 obtain ⟨v1',c1,c2⟩:=h.cut (i:=1) (es:=s.2.map fun p=>[iv (p.1:Int)]) rfl e1 (by simpa using hne) (m:=s.2.length - 1) (by simp)
 refine ⟨v1',c1,fun k hk=>c2 k fun τ1 S1=>?_⟩
 rw [take_map_last] at S1
 obtain ⟨v2,g1,g2⟩:=S1.lst (i:=2) (sz:=1) (es:=s.2.map fun p=>[bv p.2]) rfl
 refine hk τ1 v2 S1 g1 (bfj_len g2) ?_
 obtain ⟨v2',d1,d2⟩:=S1.cut (i:=2) (es:=s.2.map fun p=>[bv p.2]) rfl g1 (by simpa using hne) (m:=s.2.length - 1) (by simp)
 refine ⟨v2',d1,fun k' hk'=>d2 k' fun τ2 S2=>?_⟩
 rw [take_map_last] at S2
 exact hk' τ2 S2
theorem c_spec_l3Whole (h:MSt σ τ φm (fdR s)) (hn:SmR s) (h1:∀τ',MSt σ τ' φm (fdR (s.1,wholeO s.2))→R (.ret (.tup [])) τ'):acall TP fn_spec_l3Whole [.ptr φm 0 0 0] τ R:=by
 refine s_spec_l3Whole_ok ?_
 unfold s_spec_l3Whole
 refine lp_by (fun n x τ'=>∃o:Opn,x=(.ptr φm 0 0 0,())∧MSt σ τ' φm (fdR (s.1,o))∧o.length=n∧o.length≤13∧wholeO o=wholeO s.2) s.2.length ⟨s.2,rfl,h,rfl,hn.2,rfl⟩ ?_
 rintro n x τ1 ⟨o,rfl,S,rfl,ho,e⟩ R' hR'
 obtain ⟨v1,e1,b1⟩:=S.lst (i:=1) (sz:=1) (es:=o.map fun p=>[iv (p.1:Int)]) rfl
 obtain ⟨v2,e2,b2⟩:=S.lst (i:=2) (sz:=1) (es:=o.map fun p=>[bv p.2]) rfl
 have l1:=bfj_len b1
 have l2:=bfj_len b2
 by_cases c:o=[]
 ·subst c
  have g:¬(0:Int)<(([]:Opn).length:Int):=by simp
  simp only [e1,l1,g,RR]
  rw [←e] at h1
  exact ret_here (h1 τ1 S)
 ·obtain ⟨p,hp⟩:=last_some c
  have hl1:1≤o.length:=List.length_pos_iff.2 c
  have g:(0:Int)<(o.length:Int):=by omega
  obtain ⟨φt,st,t1,t2⟩:=top_at b2 hp
  simp only [e1,l1,g,e2,l2,sub_one hl1 (by omega),t1,t2,RR]
  cases hq:p.2 with
  |false=>
   rw [whole_stop hp hq] at e
   rw [←e] at h1
   simp only [RR]
   exact ret_here (h1 τ1 S)
  |true=>
   rw [whole_last hp hq] at e
   obtain ⟨v1',k1,k2⟩:=cut_both S c ho e1
   simp only [e1,l1,sub_one hl1 (by omega),k1,RR]
   refine k2 _ fun τ2 v2 S2 g1 g2 g3=>?_
   obtain ⟨v2',m1,m2⟩:=g3
   simp only [g1,g2,sub_one hl1 (by omega),m1,RR,true_and]
   refine m2 _ fun τ3 S3=>?_
   exact hR' _ _ o.dropLast.length τ3 (by simp;omega) (.refl _) ⟨o.dropLast,rfl,S3,rfl,by simp;omega,e⟩
theorem put_ok {x:Dat} {s:Rds}:(putR x s).2=if roomF s then 2 else 0:=by unfold putR;split<;>rfl
theorem litI {i:Int}:bslR 1 [(.val (.int .i64 0))] 1 [(0,iv i)]=some (.ro [[iv i]]):=lit1 (sz:=1) (row:=[iv i]) rfl rfl (by omega)
theorem c_spec_l3Begin {q:Bool} (h:MSt σ τ φm (fdR s)) (hn:s.1.length≤80∧s.2.length≤12) (h1:∀τ',MSt σ τ' φm (fdR (beginR q s).1)→R (.ret (iv (beginR q s).2)) τ'):acall TP fn_spec_l3Begin [.ptr φm 0 0 0,bv q] τ R:=by
 refine s_spec_l3Begin_ok ?_
 unfold s_spec_l3Begin
 have eb:bld [(.val (.int .i64 0)),(.val (.int .i64 0)),(.val (.int .i64 0)),(.val (.string ⟨#[]⟩))] [(0,1),(1,1),(2,1),(3,1)] [(0,(.val (.int .i64 4)))]=some (.agg (encDat lisD)):=rfl
 simp only [eb,RR]
 refine c_spec_l3Put h ⟨by omega,by omega⟩ fun τ1 S1=>?_
 rw [put_ok]
 unfold beginR at h1
 cases hr:roomF s with
 |true=>
  rw [hr] at h1
  simp only [if_true] at h1
  simp only [if_true,Int.reduceEq,RR]
  unfold putR at S1
  rw [if_pos hr] at S1
  exact ret_here (h1 τ1 S1)
 |false=>
  rw [hr] at h1
  simp only [Bool.false_eq_true,if_false] at h1
  have hr2:=room_lt hr
  have ep:(putR lisD s).1=(s.1++[datP lisD s.2],s.2):=by unfold putR;rw [if_neg (by rw [hr];decide)]
  rw [ep] at S1
  obtain ⟨v0,e0,b0⟩:=S1.lst (i:=0) rfl
  obtain ⟨v1,e1,b1⟩:=S1.lst (i:=1) rfl
  have l0:=bfj_len b0
  have hl:(s.1++[datP lisD s.2]).length=s.1.length+1:=by simp
  have es:ibin .sub (iv (((s.1++[datP lisD s.2]).length:Nat):Int)) (.val (.int .i64 1))=some (iv (s.1.length:Int)):=by
   rw [sub_one (by omega) (by omega),hl];rfl
  simp only [Bool.false_eq_true,if_false,e0,e1,l0,es,litI,RR]
  refine S1.app (i:=1) rfl e1 (row:=[iv (s.1.length:Int)]) rfl rfl (fun y hy=>by obtain rfl:=List.mem_singleton.1 hy;rfl) (by simp;omega) fun v' τ2 k1=>?_
  simp only [RR,true_and]
  refine k1 _ fun τ3 S3=>?_
  obtain ⟨v2,e2,b2⟩:=S3.lst (i:=2) (sz:=1) (es:=s.2.map fun p=>[bv p.2]) rfl
  simp only [e2,RR,true_and]
  refine bsl1 (row:=[bv q]) (by cases q<;>rfl) (by omega) fun ψ hψ=>?_
  have hs3:AH.Sub τ3 (τ3.set ψ ⟨0,1,[[bv q]]⟩):= .set (.refl _) _ hψ
  have S3':=S3.grow hs3
  refine S3'.app (i:=2) (sz:=1) (es:=s.2.map fun p=>[bv p.2]) rfl (lod_mono hs3 e2) (row:=[bv q]) ael1 rfl (fun y hy=>by obtain rfl:=List.mem_singleton.1 hy;rfl) (by simp;omega) fun v'' τ4 k2=>?_
  refine k2 _ fun τ5 S5=>?_
  have ef:((fdR (s.1++[datP lisD s.2],s.2)).set 1 (.lst 1 ((s.2.map fun p=>[iv (p.1:Int)])++[[iv (s.1.length:Int)]]))).set 2 (.lst 1 ((s.2.map fun p=>[bv p.2])++[[bv q]]))=fdR (opR q s):=by
   unfold opR;rw [ep];simp [fdR]
  rw [ef] at S5
  cases q with
  |false=>
   simp only [RR]
   exact ret_here (h1 τ5 S5)
  |true=>
   have eb2:bld [(.val (.int .i64 0)),(.val (.int .i64 0)),(.val (.int .i64 0)),(.val (.string ⟨#[]⟩))] [(0,1),(1,1),(2,1),(3,1)] [(0,(.val (.int .i64 3))),(3,(.val (.string ⟨#[113,117,111,116,101]⟩)))]=some (.agg (encDat quoD)):=rfl
   simp only [eb2,RR]
   simp only [if_true] at h1
   refine c_spec_l3Put S5 ?_ fun τ6 S6=>?_
   ·unfold opR SmR;rw [ep];simp;omega
   ·simp only [RR]
    exact ret_here (h1 τ6 S6)
theorem bld_tokD {t:Tok}:bld [(.val (.int .i64 0)),(.val (.int .i64 0)),(.val (.int .i64 0)),(.val (.string ⟨#[]⟩))] [(0,1),(1,1),(2,1),(3,1)] [(0,iv (t.kind - 3)),(2,iv t.num),(3,str t.name)]=some (.agg (encDat ⟨t.kind - 3,0,t.num,t.name⟩)):=rfl
theorem c_spec_l3Token {t:Tok} (hk:1≤t.kind∧t.kind≤6) (h:MSt σ τ φm (fdR s)) (hn:s.1.length≤80∧s.2.length≤12) (h1:∀τ',MSt σ τ' φm (fdR (tokenR t s).1)→R (.ret (iv (tokenR t s).2)) τ'):acall TP fn_spec_l3Token [.ptr φm 0 0 0,.rop (encTok t) 0] τ R:=by
 refine s_spec_l3Token_ok ?_
 unfold s_spec_l3Token
 have l0:∀τ,lod (.rop (encTok t) 0) τ=some (iv t.kind):=fun _=>rfl
 have l1:∀τ,lod (.rop (encTok t) 1) τ=some (iv t.num):=fun _=>rfl
 have l2:∀τ,lod (.rop (encTok t) 2) τ=some (str t.name):=fun _=>rfl
 unfold tokenR at h1
 simp only [l0,RR]
 by_cases c1:t.kind=1
 ·rw [if_pos c1] at h1
  simp only [c1,RR]
  refine c_spec_l3Begin (q:=false) h hn fun τ1 S1=>?_
  simp only [RR]
  exact ret_here (h1 τ1 S1)
 rw [if_neg c1] at h1
 by_cases c3:t.kind=3
 ·rw [if_pos c3] at h1
  simp only [c3,show ¬(3:Int)=1 by omega,RR]
  refine c_spec_l3Begin (q:=true) h hn fun τ1 S1=>?_
  simp only [RR]
  exact ret_here (h1 τ1 S1)
 rw [if_neg c3] at h1
 by_cases c2:t.kind=2
 ·rw [if_pos c2] at h1
  obtain ⟨v1,e1,b1⟩:=h.lst (i:=1) (sz:=1) (es:=s.2.map fun p=>[iv (p.1:Int)]) rfl
  obtain ⟨v2,e2,b2⟩:=h.lst (i:=2) (sz:=1) (es:=s.2.map fun p=>[bv p.2]) rfl
  have g1:=bfj_len b1
  unfold closeR at h1
  by_cases c:s.2=[]
  ·have gl:((s.2.length:Nat):Int)=0:=by rw [c];rfl
   have hl:s.2.getLast? =none:=by rw [c];rfl
   rw [hl] at h1
   simp only [c2,show ¬(2:Int)=1 by omega,show ¬(2:Int)=3 by omega,e1,g1,gl,RR]
   exact ret_here (h1 τ h)
  ·obtain ⟨p,hp⟩:=last_some c
   rw [hp] at h1
   dsimp only at h1
   have hl1:1≤s.2.length:=List.length_pos_iff.2 c
   have gl:¬((s.2.length:Nat):Int)=0:=by omega
   obtain ⟨φt,st,t1,t2⟩:=top_at b2 hp
   simp only [c2,show ¬(2:Int)=1 by omega,show ¬(2:Int)=3 by omega,e1,g1,gl,e2,sub_one hl1 (by omega),t1,t2,RR]
   cases hq:p.2 with
   |true=>
    rw [hq] at h1
    simp only [if_true] at h1
    simp only [RR]
    exact ret_here (h1 τ h)
   |false=>
    rw [hq] at h1
    simp only [Bool.false_eq_true,if_false] at h1
    obtain ⟨v1',k1,k2⟩:=cut_both h c (by omega) e1
    simp only [e1,k1,RR]
    refine k2 _ fun τ2 v3 S2 m1 m2 m3=>?_
    obtain ⟨v3',n1,n2⟩:=m3
    simp only [m1,n1,RR]
    refine n2 _ fun τ3 S3=>?_
    refine c_spec_l3Whole S3 ⟨by simp;omega,by simp;omega⟩ fun τ4 S4=>?_
    simp only [RR]
    exact ret_here (h1 τ4 S4)
 rw [if_neg c2] at h1
 have es:ibin .sub (iv t.kind) (.val (.int .i64 3))=some (iv (t.kind - 3)):=ibin_sub (by omega) (by omega)
 simp only [c1,c2,c3,l0,l1,l2,es,bld_tokD,RR]
 intro ψ hψ
 simp only [true_and]
 refine sto_own (es:=[[iv 0,iv 0,iv 0,str ⟨#[]⟩]]) (cs:=encDat ⟨t.kind - 3,0,t.num,t.name⟩) (AH.set_same ..) (by simp) rfl rfl rfl (one_encDat _) ?_
 simp only [List.set_cons_zero,AH.set_set,true_and]
 refine frz_cell hψ rfl ?_
 simp only [lodA_all (len_encDat _),RR]
 refine c_spec_l3Put h ⟨by omega,by omega⟩ fun τ1 S1=>?_
 rw [put_ok]
 unfold leafR at h1
 unfold putR at S1
 cases hr:roomF s with
 |true=>
  rw [hr] at h1 S1
  simp only [if_true] at h1 S1
  simp only [if_true,Int.reduceEq,RR]
  exact ret_here (h1 τ1 S1)
 |false=>
  rw [hr] at h1 S1
  have hr2:=room_lt hr
  simp only [Bool.false_eq_true,if_false] at h1 S1
  simp only [Bool.false_eq_true,if_false,Int.reduceEq,RR]
  refine c_spec_l3Whole S1 ⟨by simp;omega,by simp;omega⟩ fun τ2 S2=>?_
  simp only [RR]
  exact ret_here (h1 τ2 S2)
theorem c_spec_l3Read {ts:List Tok} (hk:∀t,t∈ts→1≤t.kind∧t.kind≤6) (hl:ts.length≤1000) (h:R (.ret (.tup [roD (readR ts 0 ([],[])).1,iv (readR ts 0 ([],[])).2.1,iv ((readR ts 0 ([],[])).2.2:Nat)])) σ):acall TP fn_spec_l3Read [roT ts] σ R:=by
 refine s_spec_l3Read_ok ?_
 unfold s_spec_l3Read
 have eb:bld [(.val (.slice none 0 0)),(.val (.slice none 0 0)),(.val (.slice none 0 0))] [(0,1),(1,1),(2,1)] []=some (.agg [nilS,nilS,nilS]):=rfl
 simp only [eb,RR]
 intro φm hφ
 refine sto_own (es:=[[nilS,nilS,nilS]]) (cs:=[nilS,nilS,nilS]) (AH.set_same ..) (by simp) rfl rfl rfl (by intro y hy;simp only [List.mem_cons,List.not_mem_nil,or_false] at hy;rcases hy with rfl|rfl|rfl<;>rfl) ?_
 simp only [List.set_cons_zero,AH.set_set]
 have S0:MSt σ (σ.set φm ⟨0,(fdR ([],[])).length,[[nilS,nilS,nilS]]⟩) φm (fdR ([],[])):=by
  refine MSt.new hφ rfl (fun i f hf=>?_) (by intro v hv;simp only [List.mem_cons,List.not_mem_nil,or_false] at hv;rcases hv with rfl|rfl|rfl<;>rfl)
  match i,hf with
  |0,hf=>obtain rfl:=Option.some.inj hf;exact .nil
  |1,hf=>obtain rfl:=Option.some.inj hf;exact .nil
  |2,hf=>obtain rfl:=Option.some.inj hf;exact .nil
 generalize hE:readR ts 0 ([],[])=E at h
 refine lp_by (fun n x τ=>∃(i:Nat) (s:Rds),x=(roT ts,.ptr φm 0 0 0,iv (i:Int),())∧MSt σ τ φm (fdR s)∧ts.length - i=n∧i≤ts.length∧s.1.length≤80∧s.2.length≤12∧readR (ts.drop i) i s=E) ts.length ⟨0,([],[]),rfl,S0,by omega,by omega,by simp,by simp,by simpa using hE⟩ ?_
 rintro n x τ ⟨i,s,rfl,S,rfl,hi,n1,n2,e⟩ R' hR'
 obtain ⟨v0,e0,b0⟩:=S.lst (i:=0) (sz:=4) (es:=s.1.map encDat) rfl
 obtain ⟨v1,e1,b1⟩:=S.lst (i:=1) (sz:=1) (es:=s.2.map fun p=>[iv (p.1:Int)]) rfl
 have g0:=bfj_len b0
 have g1:=bfj_len b1
 have lt:∀τ:AH,lenS (roT ts)=some (iv (ts.length:Int)):=fun _=>len_ro _ _
 have no:∀a b:Int,R (.ret (.tup [roD [],iv a,iv b])) σ→aret (.tup [.val (.slice none 0 0),iv a,iv b]) τ R:=fun a b hh=>ret_no S.sub hh
 simp only [len_ro,RR]
 by_cases c:i<ts.length
 ·have g:(i:Int)<(ts.length:Int):=by omega
  rw [List.drop_eq_getElem_cons c,readR] at e
  have ix:idx 3 (roT ts) (iv (i:Int)) τ=some (.rop (encTok ts[i]) 0):=idx_ro c len_encTok
  have rest:¬(0<i∧s.2=[])→acall TP fn_spec_l3Token [.ptr φm 0 0 0,.rop (encTok ts[i]) 0] τ (onr (fun v27 σ=>
    og (ibin .neq v27 (.val (.int .i64 0))) fun v29=>
    apick v29 (
     aret (.tup [(.val (.slice none 0 0)),v27,iv (i:Int)]) σ R) (
     og (ibin .add (iv (i:Int)) (.val (.int .i64 1))) fun v14=>
     R' (roT ts,.ptr φm 0 0 0,v14,()) σ)) (fun v σ=>apan v σ R)):=fun hc=>by
   rw [if_neg hc] at e
   refine c_spec_l3Token (hk _ (List.getElem_mem c)) S ⟨n1,n2⟩ fun τ1 S1=>?_
   simp only [RR]
   by_cases c2:(tokenR ts[i] s).2=0
   ·rw [if_neg (by simpa using c2)] at e
    have sm:=tokenR_sm (t:=ts[i]) (s:=s) ⟨n1,n2⟩
    simp only [c2,ibin_up c (by omega),RR]
    exact hR' _ _ (ts.length - (i+1)) τ1 (by omega) (.refl _) ⟨i+1,_,rfl,S1,rfl,c,sm.1,sm.2,e⟩
   ·rw [if_pos (by simpa using c2)] at e
    rw [←e] at h
    simp only [c2,RR]
    exact ret_no S1.sub h
  by_cases c0:0<i
  ·have g0':(0:Int)<(i:Int):=by omega
   by_cases c1:s.2=[]
   ·rw [if_pos ⟨c0,c1⟩] at e
    rw [←e] at h
    have gl:((s.2.length:Nat):Int)=0:=by rw [c1];rfl
    simp only [g,g0',e1,g1,gl,RR]
    exact no _ _ h
   ·have gl:¬((s.2.length:Nat):Int)=0:=by have:=List.length_pos_iff.2 c1;omega
    simp only [g,g0',e1,g1,gl,ix,RR]
    have hh:=rest fun k=>c1 k.2
    simpa only [RR] using hh
  ·have g0':¬(0:Int)<(i:Int):=by omega
   simp only [g,g0',ix,RR]
   have hh:=rest fun k=>c0 k.1
   simpa only [RR] using hh
 ·have g:¬(i:Int)<(ts.length:Int):=by omega
  obtain rfl:i=ts.length:=by omega
  rw [List.drop_length,readR] at e
  have bad:s.1=[]∨s.2≠[]→aret (.tup [.val (.slice none 0 0),iv 1,iv (ts.length:Int)]) τ R:=fun hb=>by
   rw [if_pos hb] at e
   rw [←e] at h
   exact no _ _ h
  by_cases c1:s.1=[]
  ·have gl:((s.1.length:Nat):Int)=0:=by rw [c1];rfl
   simp only [g,e0,g0,gl,RR]
   exact bad (.inl c1)
  ·have gl:¬((s.1.length:Nat):Int)=0:=by have:=List.length_pos_iff.2 c1;omega
   by_cases c2:s.2=[]
   ·have gl2:¬(0:Int)<((s.2.length:Nat):Int):=by rw [c2];simp
    rw [if_neg (by rintro (k|k);exact c1 k;exact k c2)] at e
    rw [←e] at h
    simp only [g,e0,g0,gl,e1,g1,gl2,RR]
    refine aret_freeze (a':= .tup [roD s.1,iv 0,iv 0]) S.sub (.tup rfl fun j hj=>?_) h
    match j,hj with
    |0,_=>exact S.fzl (i:=0) rfl e0 (by intro c hc;obtain ⟨x,_,rfl⟩:=List.mem_map.1 hc;rfl)
    |1,_=>exact .same _
    |2,_=>exact .same _
   ·have gl2:(0:Int)<((s.2.length:Nat):Int):=by have:=List.length_pos_iff.2 c2;omega
    simp only [g,e0,g0,gl,e1,g1,gl2,RR]
    exact bad (.inr c2)
theorem wordT_kind (l:List UInt8):1≤(wordT l).1.kind∧(wordT l).1.kind≤6:=by
 unfold wordT
 split
 ·simp
 split
 ·simp
 split<;>simp
theorem toks_ok (t:List UInt8):∀f p out,(∀x,x∈out→1≤Tok.kind x∧Tok.kind x≤6)→out.length≤120→(∀x,x∈(toks t f p out).1→1≤Tok.kind x∧Tok.kind x≤6)∧(toks t f p out).1.length≤120:=by
 intro f
 induction f with
 |zero=>intro p out h hn;exact ⟨h,hn⟩
 |succ f ih=>
  intro p out h hn
  have no:(∀x,x∈([]:List Tok)→1≤Tok.kind x∧Tok.kind x≤6)∧([]:List Tok).length≤120:=⟨(fun x hx=>by cases hx),by simp⟩
  rw [toks]
  split
  ·exact ⟨h,hn⟩
  ·rename_i c r _
   split
   ·split
    ·exact no
    ·rename_i hm hl
     refine ih _ _ (fun x hx=>?_) (by simp;omega)
     rcases List.mem_append.1 hx with k|k
     ·exact h x k
     ·obtain rfl:=List.mem_singleton.1 k
      show 1≤markB c∧markB c≤6
      unfold markB at hm ⊢
      split
      ·omega
      split
      ·omega
      split
      ·omega
      ·rename_i a1 a2 a3;rw [if_neg a1,if_neg a2,if_neg a3] at hm;exact absurd rfl hm
   ·split
    ·exact no
    ·split
     ·exact no
     ·rename_i hl
      refine ih _ _ (fun x hx=>?_) (by simp;omega)
      rcases List.mem_append.1 hx with k|k
      ·exact h x k
      ·obtain rfl:=List.mem_singleton.1 k
       exact wordT_kind _
theorem tokR_ok (t:List UInt8):(∀x,x∈(tokR t).1→1≤Tok.kind x∧Tok.kind x≤6)∧(tokR t).1.length≤120:=by
 unfold tokR
 split
 ·exact ⟨(fun x hx=>by cases hx),by simp⟩
 ·exact toks_ok t _ _ [] (fun x hx=>by cases hx) (by simp)
theorem bldDR (c a:Int) (es:List (List AV)):bld [iv 0,iv 0,.val (.slice none 0 0)] [(0,1),(1,1),(2,1)] [(0,iv c),(1,iv a),(2,.ro es)]=some (.agg [iv c,iv a,.ro es]):=rfl
theorem c_spec_ReadData {t:List UInt8} (hl:t.length≤1048576) (h:R (.ret (.agg [iv (dataR t).2.1,iv ((dataR t).2.2:Nat),roD (dataR t).1])) σ):acall TP fn_spec_ReadData [str (bs t)] σ R:=by
 refine s_spec_ReadData_ok ?_
 unfold s_spec_ReadData
 intro φ hφ
 refine c_spec_TokensOf hl ?_
 simp only [RR]
 intro φ2 hφ2
 have hT:=tokR_ok t
 unfold dataR at h
 generalize tokR t=E at h hT ⊢
 refine sto_own (es:=[[iv 0,iv 0,.val (.slice none 0 0)]]) (cs:=[iv E.2.1,iv (E.2.2:Nat),roT E.1]) (AH.set_same ..) (by simp) rfl rfl rfl (by intro y hy;simp only [List.mem_cons,List.not_mem_nil,or_false] at hy;rcases hy with rfl|rfl|rfl<;>rfl) ?_
 simp only [List.set_cons_zero,AH.set_set]
 refine frz_cell hφ2 rfl ?_
 have l0:∀τ,lod (.rop [iv E.2.1,iv (E.2.2:Nat),roT E.1] 0) τ=some (iv E.2.1):=fun _=>rfl
 have l1:∀τ,lod (.rop [iv E.2.1,iv (E.2.2:Nat),roT E.1] 1) τ=some (iv (E.2.2:Nat)):=fun _=>rfl
 have l2:∀τ,lod (.rop [iv E.2.1,iv (E.2.2:Nat),roT E.1] 2) τ=some (roT E.1):=fun _=>rfl
 simp only [l0,RR]
 by_cases c:E.2.1=0
 ·rw [if_neg (by simpa using c)] at h
  simp only [c,l2,RR]
  refine c_spec_l3Read hT.1 (by omega) ?_
  generalize readR E.1 0 ([],[])=D at h ⊢
  have e0:aext (.tup [roD D.1,iv D.2.1,iv (D.2.2:Nat)]) 0=some (roD D.1):=rfl
  have e1:aext (.tup [roD D.1,iv D.2.1,iv (D.2.2:Nat)]) 1=some (iv D.2.1):=rfl
  have e2:aext (.tup [roD D.1,iv D.2.1,iv (D.2.2:Nat)]) 2=some (iv (D.2.2:Nat)):=rfl
  simp only [e0,e1,e2,bldDR,RR]
  exact fin_cell hφ rfl rfl (by intro x hx;simp at hx;rcases hx with rfl|rfl|rfl<;>rfl) h
 ·rw [if_pos (by simpa using c)] at h
  have eb:bld [iv 0,iv 0,.val (.slice none 0 0)] [(0,1),(1,1),(2,1)] [(0,iv E.2.1),(1,iv (E.2.2:Nat))]=some (.agg [iv E.2.1,iv (E.2.2:Nat),.val (.slice none 0 0)]):=rfl
  simp only [c,l0,l1,eb,RR]
  refine fin_cellZ (cs':=[iv E.2.1,iv (E.2.2:Nat),roD []]) hφ rfl rfl (by intro x hx;simp at hx;rcases hx with rfl|rfl|rfl<;>rfl) rfl (fun j hj=>?_) h
  match j,hj with
  |0,_=>exact .same _
  |1,_=>exact .same _
  |2,_=>exact .nil
end
end Go.Proofs.YtbppopcpgcgkkaaGreatDoor.E
/- Data of a text: the program's way, behind its tokens. -/
namespace Go.Proofs.YtbppopcpgcgkkaaGreatDoor.E
open Go Go.RowKit
set_option maxRecDepth 100000
variable [L:Lam]
variable {σ τ τ':AH} {R:AEnd→AH→Prop}
def opE (p:Nat × Bool):Int:=if p.2 then -1 - (p.1:Int) else (p.1:Int)
def topQ (o:Opn):Bool:=match o.getLast? with
 |none=>false
 |some p=>p.2
def fdP (s:Rds):List Fd:=[.lst 4 (s.1.map encDat),.lst 1 (s.2.map fun p=>[iv (opE p)])]
def roomP (s:Rds) (m:Nat):Bool:=decide (80<s.1.length+1+m)||decide (12<s.2.length+1+m)
section
variable {φm:Nat} {s:Rds}
theorem c_impl_dataReader_top (h:MSt σ τ φm (fdP s)) (hn:s.2.length≤100) (hp:∀p,p∈s.2→p.1≤1000) (h1:R (.ret (.tup [iv (topP s.2),bv (topQ s.2)])) τ):acall TP fn_impl_dataReader_top [.ptr φm 0 0 0] τ R:=by
 refine s_impl_dataReader_top_ok ?_
 unfold s_impl_dataReader_top
 obtain ⟨v1,e1,b1⟩:=h.lst (i:=1) (sz:=1) (es:=s.2.map fun p=>[iv (opE p)]) rfl
 have l1:=bfj_len b1
 unfold topP topQ at h1
 by_cases c:s.2=[]
 ·have gl:((s.2.length:Nat):Int)=0:=by rw [c];rfl
  have hl:s.2.getLast? =none:=by rw [c];rfl
  rw [hl] at h1
  simp only [e1,l1,gl,RR]
  exact ret_here h1
 ·obtain ⟨p,hpl⟩:=last_some c
  rw [hpl] at h1
  dsimp only at h1
  have hpm:=hp p (List.mem_of_getLast? hpl)
  have hl1:1≤s.2.length:=List.length_pos_iff.2 c
  have gl:¬((s.2.length:Nat):Int)=0:=by omega
  obtain ⟨φt,st,t1,t2⟩:=top_at b1 hpl
  simp only [e1,l1,gl,sub_one hl1 (by omega),t1,t2,RR]
  cases hq:p.2 with
  |true=>
   rw [hq] at h1
   have eo:opE p= -1 - (p.1:Int):=by unfold opE;rw [if_pos hq]
   have g:opE p<0:=by omega
   have es:ibin .sub (.val (.int .i64 (-1))) (iv (opE p))=some (iv (p.1:Int)):=by rw [ibin_sub (by omega) (by omega)];congr 3;omega
   simp only [g,es,RR]
   exact ret_here h1
  |false=>
   rw [hq] at h1
   have eo:opE p=(p.1:Int):=by unfold opE;rw [if_neg (by rw [hq];decide)]
   have g:¬opE p<0:=by omega
   rw [←eo] at h1
   simp only [g,RR]
   exact ret_here h1
theorem c_impl_dataReader_whole (h:MSt σ τ φm (fdP s)) (hn:s.2.length≤100) (h1:∀τ',MSt σ τ' φm (fdP (s.1,wholeO s.2))→R (.ret (.tup [])) τ'):acall TP fn_impl_dataReader_whole [.ptr φm 0 0 0] τ R:=by
 refine s_impl_dataReader_whole_ok ?_
 unfold s_impl_dataReader_whole
 refine lp_by (fun n x τ'=>∃o:Opn,x=(.ptr φm 0 0 0,())∧MSt σ τ' φm (fdP (s.1,o))∧o.length=n∧o.length≤100∧wholeO o=wholeO s.2) s.2.length ⟨s.2,rfl,h,rfl,hn,rfl⟩ ?_
 rintro n x τ1 ⟨o,rfl,S,rfl,ho,e⟩ R' hR'
 obtain ⟨v1,e1,b1⟩:=S.lst (i:=1) (sz:=1) (es:=o.map fun p=>[iv (opE p)]) rfl
 have l1:=bfj_len b1
 by_cases c:o=[]
 ·subst c
  have g:¬(0:Int)<(([]:Opn).length:Int):=by simp
  simp only [e1,l1,g,RR]
  rw [←e] at h1
  exact ret_here (h1 τ1 S)
 ·obtain ⟨p,hp⟩:=last_some c
  have hl1:1≤o.length:=List.length_pos_iff.2 c
  have g:(0:Int)<(o.length:Int):=by omega
  obtain ⟨φt,st,t1,t2⟩:=top_at b1 hp
  simp only [e1,l1,g,sub_one hl1 (by omega),t1,t2,RR]
  cases hq:p.2 with
  |false=>
   have eo:opE p=(p.1:Int):=by unfold opE;rw [if_neg (by rw [hq];decide)]
   have g2:¬opE p<0:=by omega
   rw [whole_stop hp hq] at e
   rw [←e] at h1
   simp only [g2,RR]
   exact ret_here (h1 τ1 S)
  |true=>
   have eo:opE p= -1 - (p.1:Int):=by unfold opE;rw [if_pos hq]
   have g2:opE p<0:=by omega
   rw [whole_last hp hq] at e
   obtain ⟨v1',k1,k2⟩:=S.cut (i:=1) (es:=o.map fun p=>[iv (opE p)]) rfl e1 (by simpa using c) (m:=o.length - 1) (by simp)
   simp only [g2,e1,l1,sub_one hl1 (by omega),k1,RR]
   refine k2 _ fun τ2 S2=>?_
   rw [take_map_last] at S2
   simp only [true_and]
   exact hR' _ _ o.dropLast.length τ2 (by simp;omega) (.refl _) ⟨o.dropLast,rfl,S2,rfl,by simp;omega,e⟩
theorem c_impl_dataReader_add {x:Dat} {m:Nat} (hm:m≤10) (h:MSt σ τ φm (fdP s)) (hn:s.1.length≤100∧s.2.length≤100) (hp:∀p,p∈s.2→p.1≤1000) (h1:roomP s m=true→∀τ',MSt σ τ' φm (fdP s)→R (.ret (bv false)) τ') (h2:roomP s m=false→∀τ',MSt σ τ' φm (fdP (s.1++[datP x s.2],s.2))→R (.ret (bv true)) τ'):
  acall TP fn_impl_dataReader_add [.ptr φm 0 0 0,.agg (encDat x),iv (m:Int)] τ R:=by
 refine s_impl_dataReader_add_ok ?_
 unfold s_impl_dataReader_add
 rw [abox_agg]
 intro ψ hψ
 have hs:AH.Sub τ (τ.set ψ ⟨0,4,[encDat x]⟩):= .set (.refl τ) _ hψ
 have hg:=h.grow hs
 obtain ⟨vd,e0,b0⟩:=h.lst (i:=0) (sz:=4) (es:=s.1.map encDat) rfl
 obtain ⟨vo,e1,b1⟩:=h.lst (i:=1) (sz:=1) (es:=s.2.map fun p=>[iv (opE p)]) rfl
 have e0':=lod_mono hs e0
 have e1':=lod_mono hs e1
 have l0:=bfj_len b0
 have l1:=bfj_len b1
 have e4:(encDat x).length=4:=rfl
 have a1:∀n:Nat,n≤100→ibin .add (iv (n:Int)) (.val (.int .i64 1))=some (iv ((n:Int)+1)):=fun n hn=>ibin_add (by omega) (by omega)
 have a2:∀n:Nat,n≤100→ibin .add (iv ((n:Int)+1)) (iv (m:Int))=some (iv ((n:Int)+1+m)):=fun n hn=>ibin_add (by omega) (by omega)
 simp only [e4,e0',e1',l0,l1,a1 _ hn.1,a2 _ hn.1,RR]
 have hr:roomP s m=(decide (80<s.1.length+1+m)||decide (12<s.2.length+1+m)):=rfl
 by_cases c1:80<s.1.length+1+m
 ·have g1:(80:Int)<(s.1.length:Int)+1+m:=by omega
  simp only [g1,RR]
  exact ret_here (h1 (by rw [hr];simp [c1]) _ hg)
 have g1:¬(80:Int)<(s.1.length:Int)+1+m:=by omega
 by_cases c2:12<s.2.length+1+m
 ·have g2:(12:Int)<(s.2.length:Int)+1+m:=by omega
  simp only [g1,g2,e1',l1,a1 _ hn.2,a2 _ hn.2,RR]
  exact ret_here (h1 (by rw [hr];simp [c2]) _ hg)
 have g2:¬(12:Int)<(s.2.length:Int)+1+m:=by omega
 have hrf:roomP s m=false:=by rw [hr];simp [c1,c2]
 simp only [g1,g2,e1',l1,a1 _ hn.2,a2 _ hn.2,RR]
 refine c_impl_dataReader_top hg hn.2 hp ?_
 have x0:aext (.tup [iv (topP s.2),bv (topQ s.2)]) 0=some (iv (topP s.2)):=rfl
 have x1:aext (.tup [iv (topP s.2),bv (topQ s.2)]) 1=some (bv (topQ s.2)):=rfl
 simp only [x0,x1,RR]
 refine sto_fld (es:=[encDat x]) (cs:=encDat x) (AH.set_same ..) rfl (show 1<4 by omega) rfl rfl ?_
 rw [AH.set_set]
 have x2:[encDat x].set 0 ((encDat x).set 1 (iv (topP s.2)))=[encDat (datP x s.2)]:=rfl
 rw [x2]
 refine frz_cell hψ rfl ?_
 simp only [e0,lodA_all (len_encDat _),RR]
 rw [lit1 (sz:=4) (row:=encDat (datP x s.2)) rfl rfl (by omega)]
 simp only [RR]
 refine h.app (i:=0) rfl e0 (row:=encDat (datP x s.2)) rfl rfl (one_encDat _) (by simp;omega) fun v' τ1 k1=>?_
 simp only [RR,true_and]
 refine k1 _ fun τ2 S2=>?_
 have ef:(fdP s).set 0 (.lst 4 (s.1.map encDat++[encDat (datP x s.2)]))=fdP (s.1++[datP x s.2],s.2):=by simp [fdP]
 rw [ef] at S2
 exact ret_here (h2 hrf τ2 S2)
def OkO (s:Rds):Prop:=s.1.length≤80∧s.2.length≤12∧∀p,p∈s.2→p.1≤1000
theorem room0 (s:Rds):roomP s 0=roomF s:=by
 unfold roomP roomF
 congr 1<;>(congr 1;apply propext;omega)
theorem dropLast_mem {X:Type} {l:List X} {x:X} (h:x∈l.dropLast):x∈l:=(List.dropLast_sublist l).subset h
theorem wholeO_mem {o:Opn} {p:Nat × Bool} (h:p∈wholeO o):p∈o:=by
 unfold wholeO at h
 rw [List.mem_reverse] at h
 exact List.mem_reverse.1 ((List.dropWhile_sublist _).subset h)
theorem tokenR_okO {t:Tok} (h:OkO s):OkO (tokenR t s).1:=by
 have hsm:=tokenR_sm (t:=t) (s:=s) ⟨h.1,h.2.1⟩
 refine ⟨hsm.1,hsm.2,fun p hp=>?_⟩
 have hb:∀q,∀p,p∈(beginR q s).1.2→p.1≤1000:=fun q p hp=>by
  unfold beginR at hp
  have h2:∀p,p∈(opR q s).2→p.1≤1000:=fun p hp=>by
   rcases List.mem_append.1 hp with c|c
   ·exact h.2.2 p c
   ·obtain rfl:=List.mem_singleton.1 c;have:=h.1;show s.1.length≤1000;omega
  split at hp
  ·exact h.2.2 p hp
  ·split at hp
   ·unfold putR at hp
    split at hp<;>exact h2 p hp
   ·exact h2 p hp
 unfold tokenR at hp
 split at hp
 ·exact hb _ p hp
 split at hp
 ·exact hb _ p hp
 split at hp
 ·unfold closeR at hp
  split at hp
  ·exact h.2.2 p hp
  ·split at hp
   ·exact h.2.2 p hp
   ·exact h.2.2 p (dropLast_mem (wholeO_mem hp))
 ·unfold leafR at hp
  split at hp
  ·exact h.2.2 p hp
  ·exact h.2.2 p (wholeO_mem hp)
theorem c_impl_dataReader_token {t:Tok} (hk:1≤t.kind∧t.kind≤6) (h:MSt σ τ φm (fdP s)) (hn:OkO s) (h1:∀τ' s',MSt σ τ' φm (fdP s')→((tokenR t s).2=0→s'=(tokenR t s).1)→R (.ret (iv (tokenR t s).2)) τ'):acall TP fn_impl_dataReader_token [.ptr φm 0 0 0,.agg (encTok t)] τ R:=by
 obtain ⟨n1,n2,n3⟩:=hn
 refine s_impl_dataReader_token_ok ?_
 unfold s_impl_dataReader_token
 refine box_frz rfl ?_
 have l0:∀τ,lod (.rop (encTok t) 0) τ=some (iv t.kind):=fun _=>rfl
 have l1:∀τ,lod (.rop (encTok t) 1) τ=some (iv t.num):=fun _=>rfl
 have l2:∀τ,lod (.rop (encTok t) 2) τ=some (str t.name):=fun _=>rfl
 obtain ⟨v0,e0,b0⟩:=h.lst (i:=0) (sz:=4) (es:=s.1.map encDat) rfl
 have g0:=bfj_len b0
 simp only [e0,g0,l0,RR]
 have eb:bld [(.val (.int .i64 0)),(.val (.int .i64 0)),(.val (.int .i64 0)),(.val (.string ⟨#[]⟩))] [(0,1),(1,1),(2,1),(3,1)] [(0,(.val (.int .i64 4)))]=some (.agg (encDat lisD)):=rfl
 unfold tokenR at h1
 refine jn_by (P:=fun _ T=>(tokenR t s).2=0∧MSt σ T φm (fdP (tokenR t s).1)) ?_ ?_
 ·rintro x T ⟨hz,S⟩
  have:=h1 T _ S (fun _=>rfl)
  rw [show (if t.kind=1 then beginR false s else if t.kind=3 then beginR true s else if t.kind=2 then closeR s else leafR ⟨t.kind - 3,0,t.num,t.name⟩ s)=tokenR t s from rfl,hz] at this
  exact ret_here this
 intro k hk'
 unfold tokenR at hk'
 by_cases c1:t.kind=1
 ·rw [if_pos c1] at h1 hk'
  simp only [c1,eb,RR]
  have hz0:((0:Nat):Int)=0:=rfl
  refine c_impl_dataReader_add (x:=lisD) (m:=0) (by omega) h ⟨by omega,by omega⟩ n3 (fun hr τ1 S1=>?_) fun hr τ1 S1=>?_
  ·rw [room0] at hr
   unfold beginR at h1
   rw [if_pos hr] at h1
   simp only [RR]
   exact ret_here (h1 τ1 s S1 fun c=>by cases c)
  ·rw [room0] at hr
   unfold beginR at hk'
   rw [if_neg (by rw [hr];decide)] at hk'
   simp only [Bool.false_eq_true,if_false] at hk'
   obtain ⟨v1,e1,b1⟩:=S1.lst (i:=1) (sz:=1) (es:=s.2.map fun p=>[iv (opE p)]) rfl
   simp only [e1,RR]
   refine bsl1 (row:=[iv (s.1.length:Int)]) rfl (by omega) fun ψ hψ=>?_
   have hs3:AH.Sub τ1 (τ1.set ψ ⟨0,1,[[iv (s.1.length:Int)]]⟩):= .set (.refl _) _ hψ
   refine (S1.grow hs3).app (i:=1) (sz:=1) (es:=s.2.map fun p=>[iv (opE p)]) rfl (lod_mono hs3 e1) (row:=[iv (s.1.length:Int)]) ael1 rfl (fun y hy=>by obtain rfl:=List.mem_singleton.1 hy;rfl) (by simp;omega) fun v' τ2 k1=>?_
   refine k1 _ fun τ3 S3=>hk' _ _ ⟨by simp,?_⟩
   have ep:(putR lisD s).1=(s.1++[datP lisD s.2],s.2):=by unfold putR;rw [if_neg (by rw [hr];decide)]
   have ef:(fdP (s.1++[datP lisD s.2],s.2)).set 1 (.lst 1 ((s.2.map fun p=>[iv (opE p)])++[[iv (s.1.length:Int)]]))=fdP (opR false s):=by
    unfold opR;rw [ep];simp [fdP,opE]
   rw [ef] at S3
   exact S3
 rw [if_neg c1] at h1 hk'
 by_cases c2:t.kind=2
 ·rw [if_neg (by omega),if_pos c2] at h1 hk'
  simp only [c2,show ¬(2:Int)=1 by omega,RR]
  refine c_impl_dataReader_top h (by omega) n3 ?_
  have x0:aext (.tup [iv (topP s.2),bv (topQ s.2)]) 0=some (iv (topP s.2)):=rfl
  have x1:aext (.tup [iv (topP s.2),bv (topQ s.2)]) 1=some (bv (topQ s.2)):=rfl
  simp only [x0,x1,RR]
  unfold closeR at h1 hk'
  by_cases c:s.2=[]
  ·have hl:s.2.getLast? =none:=by rw [c];rfl
   rw [hl] at h1
   have g:topP s.2<0:=by unfold topP;rw [hl];decide
   simp only [g,RR]
   exact ret_here (h1 τ s h fun c=>by cases c)
  ·obtain ⟨p,hp⟩:=last_some c
   rw [hp] at h1 hk'
   dsimp only at h1 hk'
   have g:¬topP s.2<0:=by unfold topP;rw [hp];dsimp only;omega
   have eq:topQ s.2=p.2:=by unfold topQ;rw [hp]
   have hl1:1≤s.2.length:=List.length_pos_iff.2 c
   rw [eq]
   cases hq:p.2 with
   |true=>
    rw [hq] at h1
    simp only [if_true] at h1
    simp only [g,RR]
    exact ret_here (h1 τ s h fun c=>by cases c)
   |false=>
    rw [hq] at hk'
    simp only [Bool.false_eq_true,if_false] at hk'
    obtain ⟨v1,e1,b1⟩:=h.lst (i:=1) (sz:=1) (es:=s.2.map fun p=>[iv (opE p)]) rfl
    have g1:=bfj_len b1
    obtain ⟨v1',k1,k2⟩:=h.cut (i:=1) (es:=s.2.map fun p=>[iv (opE p)]) rfl e1 (by simpa using c) (m:=s.2.length - 1) (by simp)
    simp only [g,e1,g1,sub_one hl1 (by omega),k1,RR]
    refine k2 _ fun τ2 S2=>?_
    rw [take_map_last] at S2
    have S2':MSt σ τ2 φm (fdP (s.1,s.2.dropLast)):=S2
    refine ⟨trivial,?_⟩
    refine c_impl_dataReader_whole S2' (by simp;omega) fun τ3 S3=>?_
    simp only [RR]
    exact hk' _ _ ⟨by simp,S3⟩
 rw [if_neg c2] at h1 hk'
 by_cases c3:t.kind=3
 ·rw [if_pos c3] at h1 hk'
  simp only [c3,show ¬(3:Int)=1 by omega,show ¬(3:Int)=2 by omega,eb,RR]
  have key:roomP s 1=(roomF s||(putR quoD (opR true s)).2==2):=by
   unfold putR roomP
   cases hr:roomF s with
   |true=>
    rw [Bool.true_or]
    simp only [roomF,Bool.or_eq_true,decide_eq_true_iff] at hr
    simp only [Bool.or_eq_true,decide_eq_true_iff];omega
   |false=>
    have ep:(putR lisD s).1=(s.1++[datP lisD s.2],s.2):=by unfold putR;rw [if_neg (by rw [hr];decide)]
    have hl:(opR true s).1.length=s.1.length+1∧(opR true s).2.length=s.2.length+1:=by unfold opR;rw [ep];simp
    rw [Bool.false_or]
    have hrr:roomF (opR true s)=(decide (80<s.1.length+1+1)||decide (12<s.2.length+1+1)):=by
     unfold roomF;rw [hl.1,hl.2]
     congr 1<;>(congr 1;apply propext;omega)
    rw [hrr]
    split
    ·rename_i c;rw [c];rfl
    ·rename_i c;simp only [Bool.not_eq_true] at c;rw [c];rfl
  refine c_impl_dataReader_add (x:=lisD) (m:=1) (by omega) h ⟨by omega,by omega⟩ n3 (fun hr τ1 S1=>?_) fun hr τ1 S1=>?_
  ·have hc:(beginR true s).2=2:=by
    unfold beginR
    split
    ·rfl
    ·rename_i c
     rw [key] at hr
     simp only [Bool.not_eq_true] at c
     rw [c,Bool.false_or] at hr
     simpa using hr
   rw [hc] at h1
   simp only [RR]
   exact ret_here (h1 τ1 s S1 fun c=>by cases c)
  ·rw [key,Bool.or_eq_false_iff] at hr
   obtain ⟨hr,hr2⟩:=hr
   have hroom:=room_lt hr
   unfold beginR at hk'
   rw [if_neg (by rw [hr];decide)] at hk'
   simp only [if_true] at hk'
   have ep:(putR lisD s).1=(s.1++[datP lisD s.2],s.2):=by unfold putR;rw [if_neg (by rw [hr];decide)]
   have hrq:roomF (opR true s)=false:=by
    unfold putR at hr2
    split at hr2
    ·cases hr2
    ·rename_i c;simpa using c
   have eq:putR quoD (opR true s)=(((opR true s).1++[datP quoD (opR true s).2],(opR true s).2),0):=by
    unfold putR;rw [if_neg (by rw [hrq];decide)]
   rw [eq] at hk'
   obtain ⟨v1,e1,b1⟩:=S1.lst (i:=1) (sz:=1) (es:=s.2.map fun p=>[iv (opE p)]) rfl
   have es:ibin .sub (.val (.int .i64 (-1))) (iv (s.1.length:Int))=some (iv (-1 - (s.1.length:Int))):=ibin_sub (by omega) (by omega)
   simp only [e1,es,RR]
   refine bsl1 (row:=[iv (-1 - (s.1.length:Int))]) rfl (by omega) fun ψ hψ=>?_
   have hs3:AH.Sub τ1 (τ1.set ψ ⟨0,1,[[iv (-1 - (s.1.length:Int))]]⟩):= .set (.refl _) _ hψ
   refine (S1.grow hs3).app (i:=1) (sz:=1) (es:=s.2.map fun p=>[iv (opE p)]) rfl (lod_mono hs3 e1) (row:=[iv (-1 - (s.1.length:Int))]) ael1 rfl (fun y hy=>by obtain rfl:=List.mem_singleton.1 hy;rfl) (by simp;omega) fun v' τ2 k1=>?_
   refine k1 _ fun τ3 S3=>?_
   have ef:(fdP (s.1++[datP lisD s.2],s.2)).set 1 (.lst 1 ((s.2.map fun p=>[iv (opE p)])++[[iv (-1 - (s.1.length:Int))]]))=fdP (opR true s):=by
    unfold opR;rw [ep];simp [fdP,opE]
   rw [ef] at S3
   obtain ⟨v3,e3,b3⟩:=S3.lst (i:=0) (sz:=4) (es:=(opR true s).1.map encDat) rfl
   have dq:datP quoD (opR true s).2=⟨3,(s.1.length:Int),0,⟨#[113,117,111,116,101]⟩⟩:=by
    unfold datP topP opR quoD;simp
   have eb2:bld [(.val (.int .i64 0)),(.val (.int .i64 0)),(.val (.int .i64 0)),(.val (.string ⟨#[]⟩))] [(0,1),(1,1),(2,1),(3,1)] [(0,(.val (.int .i64 3))),(1,iv (s.1.length:Int)),(3,(.val (.string ⟨#[113,117,111,116,101]⟩)))]=some (.agg (encDat (datP quoD (opR true s).2))):=by rw [dq];rfl
   simp only [e3,eb2,RR]
   refine bsl1 (row:=encDat (datP quoD (opR true s).2)) rfl (by omega) fun ψ2 hψ2=>?_
   have hs4:AH.Sub τ3 (τ3.set ψ2 ⟨0,4,[encDat (datP quoD (opR true s).2)]⟩):= .set (.refl _) _ hψ2
   refine (S3.grow hs4).app (i:=0) (sz:=4) (es:=(opR true s).1.map encDat) rfl (lod_mono hs4 e3) (row:=encDat (datP quoD (opR true s).2)) ael1 rfl (one_encDat _) (by unfold opR;rw [ep];simp;omega) fun v'' τ4 k2=>?_
   refine k2 _ fun τ5 S5=>hk' _ _ ⟨by simp,?_⟩
   have ef2:(fdP (opR true s)).set 0 (.lst 4 ((opR true s).1.map encDat++[encDat (datP quoD (opR true s).2)]))=fdP ((opR true s).1++[datP quoD (opR true s).2],(opR true s).2):=by simp [fdP]
   rw [ef2] at S5
   exact S5
 rw [if_neg c3] at h1 hk'
 have es:ibin .sub (iv t.kind) (.val (.int .i64 4))=some (iv (t.kind - 4)):=ibin_sub (by omega) (by omega)
 have ea:ibin .add (iv (t.kind - 4)) (.val (.int .i64 1))=some (iv (t.kind - 3)):=by rw [ibin_add (by omega) (by omega)];congr 3;omega
 simp only [c1,c2,c3,l0,l1,l2,es,ea,bld_tokD,RR]
 refine c_impl_dataReader_add (x:=⟨t.kind - 3,0,t.num,t.name⟩) (m:=0) (by omega) h ⟨by omega,by omega⟩ n3 (fun hr τ1 S1=>?_) fun hr τ1 S1=>?_
 ·rw [room0] at hr
  unfold leafR at h1
  rw [if_pos hr] at h1
  simp only [RR]
  exact ret_here (h1 τ1 s S1 fun c=>by cases c)
 ·rw [room0] at hr
  unfold leafR at hk'
  rw [if_neg (by rw [hr];decide)] at hk'
  simp only [RR]
  refine c_impl_dataReader_whole S1 (by show s.2.length≤100;omega) fun τ2 S2=>?_
  simp only [RR]
  exact hk' _ _ ⟨by simp,S2⟩
end
end Go.Proofs.YtbppopcpgcgkkaaGreatDoor.E
/- Data of a text: the program's way, all of it (over its tokens). -/
namespace Go.Proofs.YtbppopcpgcgkkaaGreatDoor.E
open Go Go.RowKit
set_option maxRecDepth 100000
variable [L:Lam]
variable {σ τ τ':AH} {R:AEnd→AH→Prop}
theorem fin_over {φ n:Nat} {zs cs cs':List AV} (hφ:σ φ=none) (hs:AH.Sub (σ.set φ ⟨0,n,[zs]⟩) τ) (hz:zs.length=n) (hc:cs.length=n) (h1:∀x,x∈cs→x.one=true) (hl:cs.length=cs'.length)
  (hf:∀i,i<cs.length→Fz (σ.set φ ⟨0,n,[zs]⟩) τ (cs.getD i .any) (cs'.getD i .any)) (h:R (.ret (.agg cs')) σ):
  sto n (.ptr φ 0 0 0) (.agg cs) τ fun σ=>og (lodA n (.ptr φ 0 0 0) σ) fun r=>aret r σ R:=by
 have ht:τ φ=some ⟨0,n,[zs]⟩:=hs _ _ (AH.set_same ..)
 refine sto_own (es:=[zs]) (cs:=cs) ht (by simp) (by simpa using hz) rfl hc h1 ?_
 simp only [List.set_cons_zero]
 have e:=lodA_at (σ:=τ.set φ ⟨0,n,[cs]⟩) (φ:=φ) (st:=0) (i:=0) (n:=n) (cs:=cs) (AH.set_same ..) rfl rfl hc
 simp only [e,RR]
 have hs2:AH.Sub σ (τ.set φ ⟨0,n,[cs]⟩):=fun ψ F hF=>by
  have hne:ψ≠φ:=by rintro rfl;rw [hφ] at hF;cases hF
  rw [AH.set_ne' hne]
  exact hs _ _ (by rw [AH.set_ne' hne];exact hF)
 refine aret_freeze hs2 (.agg hl fun i hi=>?_) h
 refine (hf i hi).move (fun ψ hψ=>?_) fun ψ F hψ hF=>?_
 ·have hne:ψ≠φ:=by rintro rfl;rw [AH.set_same] at hψ;cases hψ
  rwa [AH.set_ne' hne] at hψ
 ·have hne:ψ≠φ:=by rintro rfl;rw [AH.set_same] at hψ;cases hψ
  rwa [AH.set_ne' hne]
theorem tokenR_ne {t:Tok} {s:Rds} (h:s.1≠[]∨s.2=[]) (hc:(tokenR t s).2=0):(tokenR t s).1.1≠[]:=by
 have hb:∀q,(beginR q s).2=0→(beginR q s).1.1≠[]:=fun q hq=>by
  unfold beginR at hq ⊢
  split
  ·rename_i c;rw [if_pos c] at hq;cases hq
  ·rename_i c
   have h2:(opR q s).1≠[]:=by unfold opR putR;rw [if_neg c];simp
   split
   ·unfold putR
    split
    ·exact h2
    ·simp
   ·exact h2
 unfold tokenR at hc ⊢
 split
 ·rename_i c;rw [if_pos c] at hc;exact hb _ hc
 rename_i c1;rw [if_neg c1] at hc
 split
 ·rename_i c;rw [if_pos c] at hc;exact hb _ hc
 rename_i c2;rw [if_neg c2] at hc
 split
 ·rename_i c;rw [if_pos c] at hc
  unfold closeR at hc ⊢
  cases hl:s.2.getLast? with
  |none=>rw [hl] at hc;cases hc
  |some p=>
   rw [hl] at hc
   dsimp only at hc ⊢
   have hs:s.1≠[]:=h.resolve_right fun k=>by rw [k] at hl;cases hl
   split
   ·exact hs
   ·exact hs
 rename_i c3;rw [if_neg c3] at hc
 unfold leafR at hc ⊢
 split
 ·rename_i c;rw [if_pos c] at hc;cases hc
 ·simp
theorem c_impl_ReadData {t:List UInt8} (hT:∀{σ:AH} {R:AEnd→AH→Prop},R (.ret (.agg [iv (tokR t).2.1,iv ((tokR t).2.2:Nat),roT (tokR t).1])) σ→acall TP fn_impl_TokensOf [str (bs t)] σ R)
  (h:R (.ret (.agg [iv (dataR t).2.1,iv ((dataR t).2.2:Nat),roD (dataR t).1])) σ):acall TP fn_impl_ReadData [str (bs t)] σ R:=by
 refine s_impl_ReadData_ok ?_
 unfold s_impl_ReadData
 intro φ hφ
 refine hT ?_
 simp only [RR]
 intro φ2 hφ2
 have hT:=tokR_ok t
 unfold dataR at h
 generalize tokR t=E at h hT ⊢
 refine sto_own (es:=[[iv 0,iv 0,.val (.slice none 0 0)]]) (cs:=[iv E.2.1,iv (E.2.2:Nat),roT E.1]) (AH.set_same ..) (by simp) rfl rfl rfl (by intro y hy;simp only [List.mem_cons,List.not_mem_nil,or_false] at hy;rcases hy with rfl|rfl|rfl<;>rfl) ?_
 simp only [List.set_cons_zero,AH.set_set]
 refine frz_cell hφ2 rfl ?_
 have l0:∀τ,lod (.rop [iv E.2.1,iv (E.2.2:Nat),roT E.1] 0) τ=some (iv E.2.1):=fun _=>rfl
 have l1:∀τ,lod (.rop [iv E.2.1,iv (E.2.2:Nat),roT E.1] 1) τ=some (iv (E.2.2:Nat)):=fun _=>rfl
 have l2:∀τ,lod (.rop [iv E.2.1,iv (E.2.2:Nat),roT E.1] 2) τ=some (roT E.1):=fun _=>rfl
 simp only [l0,RR]
 by_cases c:E.2.1=0
 case neg=>
  rw [if_pos (by simpa using c)] at h
  have eb:bld [iv 0,iv 0,.val (.slice none 0 0)] [(0,1),(1,1),(2,1)] [(0,iv E.2.1),(1,iv (E.2.2:Nat))]=some (.agg [iv E.2.1,iv (E.2.2:Nat),.val (.slice none 0 0)]):=rfl
  simp only [c,l0,l1,eb,RR]
  refine fin_cellZ (cs':=[iv E.2.1,iv (E.2.2:Nat),roD []]) hφ rfl rfl (by intro x hx;simp at hx;rcases hx with rfl|rfl|rfl<;>rfl) rfl (fun j hj=>?_) h
  match j,hj with
  |0,_=>exact .same _
  |1,_=>exact .same _
  |2,_=>exact .nil
 rw [if_neg (by simpa using c)] at h
 have eb:bld [(.val (.slice none 0 0)),(.val (.slice none 0 0))] [(0,1),(1,1)] []=some (.agg [nilS,nilS]):=rfl
 simp only [c,eb,RR]
 intro φm hφm
 generalize hσ1:σ.set φ ⟨0,3,[[iv 0,iv 0,.val (.slice none 0 0)]]⟩=σ1 at hφm ⊢
 have S0:MSt σ1 (σ1.set φm ⟨0,(fdP ([],[])).length,[[nilS,nilS]]⟩) φm (fdP ([],[])):=by
  refine MSt.new hφm rfl (fun i f hf=>?_) (by intro v hv;simp only [List.mem_cons,List.not_mem_nil,or_false] at hv;rcases hv with rfl|rfl<;>rfl)
  match i,hf with
  |0,hf=>obtain rfl:=Option.some.inj hf;exact .nil
  |1,hf=>obtain rfl:=Option.some.inj hf;exact .nil
 generalize hE:readR E.1 0 ([],[])=D at h
 have out:∀(τ:AH) (a b:Int),AH.Sub σ1 τ→R (.ret (.agg [iv a,iv b,roD []])) σ→sto 3 (.ptr φ 0 0 0) (.agg [iv a,iv b,.val (.slice none 0 0)]) τ fun σ=>og (lodA 3 (.ptr φ 0 0 0) σ) fun r=>aret r σ R:=fun τ a b hs hh=>by
  subst hσ1
  refine fin_over (cs':=[iv a,iv b,roD []]) hφ hs rfl rfl (by intro x hx;simp at hx;rcases hx with rfl|rfl|rfl<;>rfl) rfl (fun j hj=>?_) hh
  match j,hj with
  |0,_=>exact .same _
  |1,_=>exact .same _
  |2,_=>exact .nil
 refine lp_by (fun n x τ=>∃(i:Nat) (s:Rds),x=(.ptr φ 0 0 0,.rop [iv E.2.1,iv (E.2.2:Nat),roT E.1] 0,.ptr φm 0 0 0,iv (i:Int),())∧MSt σ1 τ φm (fdP s)∧E.1.length - i=n∧i≤E.1.length∧OkO s∧(i=0→s=([],[]))∧(0<i→s.1≠[])∧readR (E.1.drop i) i s=D) E.1.length ⟨0,([],[]),by rw [c];rfl,S0,by omega,by omega,⟨by simp,by simp,by simp⟩,fun _=>rfl,fun h=>absurd h (by omega),by simpa using hE⟩ ?_
 rintro n x τ ⟨i,s,rfl,S,rfl,hi,hO,q0,q1,e⟩ R' hR'
 obtain ⟨v0,e0,b0⟩:=S.lst (i:=0) (sz:=4) (es:=s.1.map encDat) rfl
 obtain ⟨v1,e1,b1⟩:=S.lst (i:=1) (sz:=1) (es:=s.2.map fun p=>[iv (opE p)]) rfl
 have g1:=bfj_len b1
 simp only [l2,len_ro,RR]
 by_cases ci:i<E.1.length
 ·have g:(i:Int)<(E.1.length:Int):=by omega
  rw [List.drop_eq_getElem_cons ci,readR] at e
  have ix:idx 3 (roT E.1) (iv (i:Int)) τ=some (.rop (encTok E.1[i]) 0):=idx_ro ci len_encTok
  have la:lodA 3 (.rop (encTok E.1[i]) 0) τ=some (.agg (encTok E.1[i])):=lodA_all (len_encTok _)
  have bt:∀a b:Int,bld [(.val (.int .i64 0)),(.val (.int .i64 0)),(.val (.slice none 0 0))] [(0,1),(1,1),(2,1)] [(0,iv a),(1,iv b)]=some (.agg [iv a,iv b,.val (.slice none 0 0)]):=fun _ _=>rfl
  have rest:¬(0<i∧s.2=[])→acall TP fn_impl_dataReader_token [.ptr φm 0 0 0,.agg (encTok E.1[i])] τ (onr (fun v42 σ=>
    og (ibin .neq v42 (.val (.int .i64 0))) fun v44=>
    apick v44 (
     og (bld [(.val (.int .i64 0)),(.val (.int .i64 0)),(.val (.slice none 0 0))] [(0,1),(1,1),(2,1)] [(0,v42),(1,iv (i:Int))]) fun v47=>
     sto 3 (.ptr φ 0 0 0) v47 σ fun σ=>
     og (lodA 3 (.ptr φ 0 0 0) σ) fun r2=>
     aret r2 σ R) (
     og (ibin .add (iv (i:Int)) (.val (.int .i64 1))) fun v49=>
     R' (.ptr φ 0 0 0,.rop [iv E.2.1,iv (E.2.2:Nat),roT E.1] 0,.ptr φm 0 0 0,v49,()) σ)) (fun v σ=>apan v σ R)):=fun hc=>by
   rw [if_neg hc] at e
   refine c_impl_dataReader_token (hT.1 _ (List.getElem_mem ci)) S hO fun τ1 s' S1 hs'=>?_
   simp only [RR]
   by_cases c2:(tokenR E.1[i] s).2=0
   ·rw [if_neg (by simpa using c2)] at e
    obtain rfl:=hs' c2
    have ne:=tokenR_ne (t:=E.1[i]) (s:=s) (by
     by_cases k:i=0
     ·right;rw [q0 k]
     ·left;exact q1 (by omega)) c2
    simp only [c2,ibin_up ci (by omega),RR]
    exact hR' _ _ (E.1.length - (i+1)) τ1 (by omega) (.refl _) ⟨i+1,_,rfl,S1,rfl,ci,tokenR_okO hO,fun k=>by omega,fun _=>ne,e⟩
   ·rw [if_pos (by simpa using c2)] at e
    rw [←e] at h
    simp only [c2,bt,RR]
    exact out _ _ _ S1.sub h
  by_cases c0:i=0
  ·have g0':(i:Int)=0:=by omega
   have hh:=rest fun k=>by omega
   rw [g0'] at g ix hh ⊢
   simp only [g,ix,la,RR]
   simpa only [RR] using hh
  ·have g0':¬(i:Int)=0:=by omega
   by_cases c1:s.2=[]
   ·rw [if_pos ⟨by omega,c1⟩] at e
    rw [←e] at h
    have gl:¬(0:Int)<((s.2.length:Nat):Int):=by rw [c1];simp
    simp only [g,g0',e1,g1,gl,bt,l2,len_ro,RR]
    exact out _ _ _ S.sub h
   ·have gl:(0:Int)<((s.2.length:Nat):Int):=by have:=List.length_pos_iff.2 c1;omega
    simp only [g,g0',e1,g1,gl,ix,la,RR]
    have hh:=rest fun k=>c1 k.2
    simpa only [RR] using hh
 ·have g:¬(i:Int)<(E.1.length:Int):=by omega
  obtain rfl:i=E.1.length:=by omega
  rw [List.drop_length,readR] at e
  have bt:∀a b:Int,bld [(.val (.int .i64 0)),(.val (.int .i64 0)),(.val (.slice none 0 0))] [(0,1),(1,1),(2,1)] [(0,iv a),(1,iv b)]=some (.agg [iv a,iv b,.val (.slice none 0 0)]):=fun _ _=>rfl
  by_cases c1:E.1.length=0
  ·have gl:((E.1.length:Nat):Int)=0:=by rw [c1];rfl
   rw [if_pos (by left;rw [q0 c1])] at e
   rw [←e] at h
   simp only [g,gl,bt,l2,len_ro,RR]
   have hh:=out τ 1 (E.1.length:Int) S.sub h
   rw [gl] at hh
   exact hh
  ·have gl:¬((E.1.length:Nat):Int)=0:=by omega
   have hne:=q1 (by omega)
   by_cases c2:s.2=[]
   ·have gl2:¬(0:Int)<((s.2.length:Nat):Int):=by rw [c2];simp
    rw [if_neg (by rintro (k|k);exact hne k;exact k c2)] at e
    rw [←e] at h
    have be:bld [(.val (.int .i64 0)),(.val (.int .i64 0)),(.val (.slice none 0 0))] [(0,1),(1,1),(2,1)] [(2,v0)]=some (.agg [iv 0,iv 0,v0]):=by
     have:=(FdOk.one (f:= .lst 4 (s.1.map encDat)) b0)
     have ha:=acells_one this
     simp [bld,afill,ha,spl]
    simp only [g,gl,e0,e1,g1,gl2,l2,len_ro,be,RR]
    subst hσ1
    refine fin_over (cs':=[iv 0,iv 0,roD s.1]) hφ S.sub rfl rfl (by intro x hx;simp at hx;rcases hx with rfl|rfl<;>first|rfl|exact FdOk.one (f:= .lst 4 (s.1.map encDat)) b0) rfl (fun j hj=>?_) h
    match j,hj with
    |0,_=>exact .same _
    |1,_=>exact .same _
    |2,_=>exact S.fzl (i:=0) rfl e0 (by intro c hc;obtain ⟨x,_,rfl⟩:=List.mem_map.1 hc;rfl)
   ·have gl2:(0:Int)<((s.2.length:Nat):Int):=by have:=List.length_pos_iff.2 c2;omega
    rw [if_pos (.inr c2)] at e
    rw [←e] at h
    simp only [g,gl,e1,g1,gl2,l2,len_ro,bt,RR]
    exact out _ _ _ S.sub h
end Go.Proofs.YtbppopcpgcgkkaaGreatDoor.E
/- Tokens of a text: the program's way. -/
namespace Go.Proofs.YtbppopcpgcgkkaaGreatDoor.E
open Go Go.RowKit
set_option maxRecDepth 100000
theorem occ_ne {c x:UInt8} {l r:List UInt8} {j:Nat} (e:l.drop j=x::r) (h:c≠x):Lib.occAt l [c] j=false:=by
 unfold Lib.occAt
 rw [e]
 show (c==x&&[].isPrefixOf r)=false
 rw [beq_eq_false_iff_ne.2 h]
 rfl
theorem index_at {c:UInt8} {a r:List UInt8} (h:c∉a):Lib.index (a++c::r) [c]=(a.length:Nat):=by
 refine Lib.index_first (by simp) ?_ ?_
 ·simp [Lib.occAt]
 ·intro j hj
  have e:(a++c::r).drop j=a[j]::(a++c::r).drop (j+1):=by
   rw [List.drop_eq_getElem_cons (by simp;omega),List.getElem_append_left hj]
  exact occ_ne e fun e=>h (e▸List.getElem_mem hj)
theorem index_no {c:UInt8} {a:List UInt8} (h:c∉a):Lib.index a [c]= -1:=by
 refine Lib.index_none fun j hj=>?_
 by_cases e:j<a.length
 ·exact occ_ne (List.drop_eq_getElem_cons e) fun e=>h (e▸List.getElem_mem _)
 ·unfold Lib.occAt
  rw [List.drop_eq_nil_of_le (by omega)];rfl
theorem nl_of {c:UInt8} (h:c.toNat=10):c=10:=by
 have:UInt8.toNat c=UInt8.toNat 10:=h
 exact UInt8.toNat_inj.1 this
theorem skp_com:∀(a r:List UInt8),(10:UInt8)∉a→skp true (a++10::r)=a.length+1+skp false r:=by
 intro a
 induction a with
 |nil=>intro r _;rw [List.nil_append,skp,if_pos (by decide)];simp;omega
 |cons c a ih=>
  intro r h
  rw [List.cons_append,skp,if_neg (fun e=>h (by rw [nl_of e];simp)),ih r (fun e=>h (List.mem_cons_of_mem _ e)),List.length_cons];omega
theorem skp_com2:∀a:List UInt8,(10:UInt8)∉a→skp true a=a.length:=by
 intro a
 induction a with
 |nil=>intro _;rfl
 |cons c a ih=>
  intro h
  rw [skp,if_neg (fun e=>h (by rw [nl_of e];simp)),ih (fun e=>h (List.mem_cons_of_mem _ e)),List.length_cons]
theorem split_nl:∀l:List UInt8,(10:UInt8)∉l∨∃a r,l=a++10::r∧(10:UInt8)∉a:=by
 intro l
 induction l with
 |nil=>left;simp
 |cons c l ih=>
  by_cases h:c=10
  ·right;exact ⟨[],l,by rw [h];rfl,by simp⟩
  ·rcases ih with k|⟨a,r,e,k⟩
   ·left;simp only [List.mem_cons,not_or];exact ⟨fun e=>h e.symm,k⟩
   ·right;exact ⟨c::a,r,by rw [e];rfl,by simp only [List.mem_cons,not_or];exact ⟨fun e=>h e.symm,k⟩⟩
theorem skp_cut {c:UInt8} (h:c.toNat=59) (l:List UInt8):1≤(Lib.cut (c::l) [10]).1.length∧(Lib.cut (c::l) [10]).1.length≤(c::l).length∧skp false (c::l)=(Lib.cut (c::l) [10]).1.length+skp false ((c::l).drop (Lib.cut (c::l) [10]).1.length):=by
 have hc:c≠10:=by rintro rfl;revert h;decide
 have e0:skp false (c::l)=skp true l+1:=by rw [skp,if_pos h]
 rw [e0]
 unfold Lib.cut
 rcases split_nl l with k|⟨a,r,e,k⟩
 ·have k':(10:UInt8)∉c::l:=by simp only [List.mem_cons,not_or];exact ⟨fun e=>hc e.symm,k⟩
  rw [index_no k',if_neg (by decide),skp_com2 l k,List.drop_length]
  simp [skp]
 ·have k':(10:UInt8)∉c::a:=by simp only [List.mem_cons,not_or];exact ⟨fun e=>hc e.symm,k⟩
  have e2:c::l=(c::a)++10::r:=by rw [e];rfl
  have ei:=index_at (r:=r) k'
  rw [e2,ei,if_pos (by omega),Int.toNat_natCast]
  have et:((c::a)++10::r).take (c::a).length=c::a:=List.take_left ..
  have ed:((c::a)++10::r).drop (c::a).length=10::r:=List.drop_left ..
  have es:skp false (10::r)=skp false r+1:=by rw [skp,if_neg (by decide),if_pos (.inr (by decide))]
  dsimp only
  rw [et,ed,es,e,skp_com a r k]
  refine ⟨by simp,by simp,by simp;omega⟩
theorem eq_of8 {c:UInt8} {n:Nat} (hn:n<256) (h:c.toNat=n):c=UInt8.ofNat n:=by
 apply UInt8.toNat_inj.1
 rw [h,UInt8.toNat_ofNat'];omega
theorem mark_at (c:UInt8):Lib.indexByte [40,41,39] c=markB c - 1:=by
 unfold markB
 by_cases h1:c.toNat=40
 ·rw [if_pos h1,eq_of8 (by omega) h1];decide
 rw [if_neg h1]
 by_cases h2:c.toNat=41
 ·rw [if_pos h2,eq_of8 (by omega) h2];decide
 rw [if_neg h2]
 by_cases h3:c.toNat=39
 ·rw [if_pos h3,eq_of8 (by omega) h3];decide
 rw [if_neg h3]
 have n1:((40:UInt8)==c)=false:=beq_eq_false_iff_ne.2 (by rintro rfl;exact h1 rfl)
 have n2:((41:UInt8)==c)=false:=beq_eq_false_iff_ne.2 (by rintro rfl;exact h2 rfl)
 have n3:((39:UInt8)==c)=false:=beq_eq_false_iff_ne.2 (by rintro rfl;exact h3 rfl)
 simp [Lib.indexByte,n1,n2,n3]
theorem mark_le (c:UInt8):0≤markB c∧markB c≤3:=by unfold markB;repeat' split<;>omega
abbrev stopB:List UInt8:=[32,10,40,41,39,59]
theorem stop_iff (c:UInt8):stopB.contains c=true↔(c.toNat=32∨c.toNat=10∨c.toNat=59∨markB c≠0):=by
 rw [List.contains_iff_mem]
 have e:∀n:UInt8,c=n↔c.toNat=n.toNat:=fun n=>UInt8.toNat_inj.symm
 simp only [stopB,List.mem_cons,List.not_mem_nil,or_false,e]
 have q1:(32:UInt8).toNat=32:=rfl
 have q2:(10:UInt8).toNat=10:=rfl
 have q3:(40:UInt8).toNat=40:=rfl
 have q4:(41:UInt8).toNat=41:=rfl
 have q5:(39:UInt8).toNat=39:=rfl
 have q6:(59:UInt8).toNat=59:=rfl
 rw [q1,q2,q3,q4,q5,q6]
 unfold markB
 by_cases h1:c.toNat=40
 ·simp [h1]
 by_cases h2:c.toNat=41
 ·simp [h2]
 by_cases h3:c.toNat=39
 ·simp [h3]
 simp only [h1,h2,h3,if_false]
 simp
theorem wrd_any:∀l:List UInt8,Lib.indexAny (l++[32]) stopB=(wrd l:Nat):=by
 intro l
 induction l with
 |nil=>rfl
 |cons c r ih=>
  rw [List.cons_append,Lib.indexAny,wrd]
  by_cases h:stopB.contains c=true
  ·rw [if_pos h,if_pos ((stop_iff c).1 h)];rfl
  ·rw [if_neg h,if_neg (fun k=>h ((stop_iff c).2 k)),ih,if_neg (by rw [beq_iff_eq];omega)]
   simp
theorem num_no1:isNum [35,116]=false:=by unfold isNum parOk;simp [dgsB,sgnB,isDg]
theorem num_no2:isNum [35,102]=false:=by unfold isNum parOk;simp [dgsB,sgnB,isDg]
variable [L:Lam] [K:Knows QS]
variable {σ τ:AH} {R:AEnd→AH→Prop}
theorem slc_from {l:List UInt8} {k:Nat} (h:k≤l.length):slcStr (str (bs l)) (some (iv (k:Int))) none=some (str (bs (l.drop k))):=by
 have e1:abd none (bs l).size=some (bs l).size:=rfl
 have e2:abd (some (AV.val (.int .i64 ((k:Nat):Int)))) 0=some k:=by simp [abd]
 simp only [slcStr,e1,e2]
 rw [if_pos ⟨by rw [size_bs];exact h,Nat.le_refl _⟩]
 congr 3
 apply ByteArray.ext
 rw [ByteArray.data_extract,size_bs];simp only [List.extract_toArray,List.extract_eq_take_drop]
 rw [List.take_of_length_le (by rw [List.length_drop];omega)]
theorem c_impl_wordToken {l:List UInt8} (hl:l.length≤1048576) (h:R (.ret (.tup [.agg (encTok (wordT l).1),bv (wordT l).2])) σ):acall TP fn_impl_wordToken [str (bs l)] σ R:=by
 refine s_impl_wordToken_ok ?_
 unfold s_impl_wordToken
 intro φ hφ
 unfold wordT at h
 simp only [sbin_eql',RR]
 by_cases c1:bs l=⟨#[35,116]⟩
 ·have el:l=[35,116]:=bs_inj c1
  rw [if_neg (by rw [el,num_no1];decide),if_pos c1] at h
  simp only [c1,(bldT 5 1 ⟨#[]⟩).1,RR]
  exact fin_cell2 hφ rfl rfl (one_encTok _) h
 by_cases c2:bs l=⟨#[35,102]⟩
 ·have el:l=[35,102]:=bs_inj c2
  rw [if_neg (by rw [el,num_no2];decide),if_neg c1,if_pos c2] at h
  have c1':¬(⟨#[35,102]⟩:ByteArray)=⟨#[35,116]⟩:=by rw [←c2];exact c1
  simp only [c2,c1',(bldT 5 1 ⟨#[]⟩).2.1,RR]
  exact fin_cell2 hφ rfl rfl (one_encTok _) h
 rw [if_neg c1,if_neg c2] at h
 simp only [c1,c2,RR]
 refine c_impl_ParseNum (by rw [size_bs];omega) ?_
 rw [numP_bs]
 have l0:∀(a b:Int) τ,lod (.rop [iv a,iv b] 0) τ=some (iv a):=fun _ _ _=>rfl
 have l1:∀(a b:Int) τ,lod (.rop [iv a,iv b] 1) τ=some (iv b):=fun _ _ _=>rfl
 cases hn:isNum l with
 |true=>
  rw [hn] at h
  simp only [if_true] at h
  simp only [if_true,RR]
  refine new_frz rfl rfl rfl (by intro y hy;simp only [List.mem_cons,List.not_mem_nil,or_false] at hy;rcases hy with rfl|rfl<;>rfl) ?_
  simp only [l0,l1,(bldT 4 (parV l) ⟨#[]⟩).1,RR]
  exact fin_cell2 hφ rfl rfl (one_encTok _) h
 |false=>
  rw [hn] at h
  simp only [Bool.false_eq_true,if_false] at h
  simp only [Bool.false_eq_true,if_false,RR]
  refine new_frz rfl rfl rfl (by intro y hy;simp only [List.mem_cons,List.not_mem_nil,or_false] at hy;rcases hy with rfl|rfl<;>rfl) ?_
  have n5:¬(5:Int)=0:=by decide
  simp only [l0,l1,n5,(bldT 6 1 (bs l)).2.2,RR]
  refine c_impl_SymFault ?_
  cases hy:symOk (bs l) with
  |true=>
   rw [hy] at h
   simp only [if_true,RR]
   exact fin_cell2 hφ rfl rfl (one_encTok _) h
  |false=>
   rw [hy] at h
   simp only [Bool.false_eq_true,if_false,n5,RR]
   exact fin_cell2 hφ rfl rfl (one_encTok _) h
set_option maxHeartbeats 1000000 in
theorem c_impl_TokensOf {t:List UInt8} (h:R (.ret (.agg [iv (tokR t).2.1,iv ((tokR t).2.2:Nat),roT (tokR t).1])) σ):acall TP fn_impl_TokensOf [str (bs t)] σ R:=by
 refine s_impl_TokensOf_ok ?_
 unfold s_impl_TokensOf
 intro φ hφ
 unfold tokR at h
 simp only [size_bs,RR]
 have bt:∀a b:Int,bld [(.val (.int .i64 0)),(.val (.int .i64 0)),(.val (.slice none 0 0))] [(0,1),(1,1),(2,1)] [(0,iv a),(1,iv b)]=some (.agg [iv a,iv b,.val (.slice none 0 0)]):=fun _ _=>rfl
 have out:∀(τ:AH) (a b:Int),AH.Sub (σ.set φ ⟨0,3,[[iv 0,iv 0,.val (.slice none 0 0)]]⟩) τ→R (.ret (.agg [iv a,iv b,roT []])) σ→sto 3 (.ptr φ 0 0 0) (.agg [iv a,iv b,.val (.slice none 0 0)]) τ fun σ=>og (lodA 3 (.ptr φ 0 0 0) σ) fun r=>aret r σ R:=fun τ a b hs hh=>by
  refine fin_over (cs':=[iv a,iv b,roT []]) hφ hs rfl rfl (by intro x hx;simp at hx;rcases hx with rfl|rfl|rfl<;>rfl) rfl (fun j hj=>?_) hh
  match j,hj with
  |0,_=>exact .same _
  |1,_=>exact .same _
  |2,_=>exact .nil
 by_cases cl:400<t.length
 ·rw [if_pos cl] at h
  have g:(400:Int)<(t.length:Int):=by omega
  have eb:bld [(.val (.int .i64 0)),(.val (.int .i64 0)),(.val (.slice none 0 0))] [(0,1),(1,1),(2,1)] [(0,(.val (.int .i64 2)))]=some (.agg [iv 2,iv 0,.val (.slice none 0 0)]):=rfl
  simp only [g,eb,RR]
  exact out _ _ _ (.refl _) h
 rw [if_neg cl] at h
 have g:¬(400:Int)<(t.length:Int):=by omega
 simp only [g,RR]
 refine bsl0 ?_
 generalize hσ1:σ.set φ ⟨0,[(.val (.int .i64 0):AV),(.val (.int .i64 0)),(.val (.slice none 0 0))].length,[[(.val (.int .i64 0)),(.val (.int .i64 0)),(.val (.slice none 0 0))]]⟩=σ1
 change σ.set φ ⟨0,3,[[iv 0,iv 0,.val (.slice none 0 0)]]⟩=σ1 at hσ1
 rw [hσ1] at out
 generalize hE:toks t (t.length+1) (skp false t) []=E at h
 refine lp_by (fun n x τ=>∃(p f:Nat) (ts:List Tok) (u:AV),x=(str (bs t),.ptr φ 0 0 0,u,iv (p:Int),())∧Buf τ 3 u (ts.map encTok)∧AH.Sub σ1 τ∧(∀ψ,ψ∈famL u→σ1 ψ=none)∧toks t f (p+skp false (t.drop p)) ts=E∧ts.length≤120∧p≤t.length∧t.length+1≤f+p∧t.length - p=n) t.length
  ⟨0,t.length+1,[],.emp,rfl,.inl ⟨.inr rfl,rfl⟩,.refl σ1,(fun ψ c=>by cases c),by simpa using hE,by simp,by omega,by omega,rfl⟩ ?_
 rintro n x τ ⟨p,f,ts,u,rfl,hB,hs,hf,he,hn,hp,hfp,rfl⟩ R' hR'
 simp only [size_bs,RR]
 by_cases c:p<t.length
 case neg=>
  have g:¬(p:Int)<(t.length:Int):=by omega
  obtain rfl:p=t.length:=by omega
  have ee:E=(ts,0,0):=by
   rw [←he]
   cases f with
   |zero=>rfl
   |succ f=>rw [toks,List.drop_length];simp [skp]
  rw [ee] at h
  have be:bld [(.val (.int .i64 0)),(.val (.int .i64 0)),(.val (.slice none 0 0))] [(0,1),(1,1),(2,1)] [(2,u)]=some (.agg [iv 0,iv 0,u]):=by
   have ha:=acells_one (Bfj.one hB.bfj)
   simp [bld,afill,ha,spl]
  simp only [g,be,RR]
  subst hσ1
  refine fin_over (cs':=[iv 0,iv 0,roT ts]) hφ hs rfl rfl (by intro x hx;simp at hx;rcases hx with rfl|rfl<;>first|rfl|exact Bfj.one hB.bfj) rfl (fun j hj=>?_) h
  match j,hj with
  |0,_=>exact .same _
  |1,_=>exact .same _
  |2,_=>exact fz_row hB hf rfl (by intro c hc;obtain ⟨o,_,rfl⟩:=List.mem_map.1 hc;rfl) fun _ _ _ _=> .same _
 have g:(p:Int)<(t.length:Int):=by omega
 have dc:=List.drop_eq_getElem_cons c
 have cmp:=fun a b:Int=>(ibin_cmp8 a b).2.2.2.2.1
 have k32:=cmp (t[p].toNat:Nat) 32
 have k10:=cmp (t[p].toNat:Nat) 10
 have k59:=cmp (t[p].toNat:Nat) 59
 simp only [g,idxStr_bs c,k32,k10,k59,RR]
 have stepB:t[p].toNat=32∨t[p].toNat=10→R' (str (bs t),.ptr φ 0 0 0,u,iv ((p+1:Nat):Int),()) τ:=fun hc=>by
  have h59:¬t[p].toNat=59:=by omega
  rw [dc,skp,if_neg h59,if_pos hc] at he
  exact hR' _ _ (t.length - (p+1)) τ (by omega) (.refl _) ⟨p+1,f,ts,u,rfl,hB,hs,hf,by rw [show p+1+skp false (t.drop (p+1))=p+(skp false (t.drop (p+1))+1) by omega];exact he,hn,by omega,by omega,rfl⟩
 by_cases h32:t[p].toNat=32
 ·have g32:((t[p].toNat:Nat):Int)=32:=by omega
  simp only [g32,ibin_up c (show t.length≤9223372036854775807 by omega),RR]
  exact stepB (.inl h32)
 have g32:¬((t[p].toNat:Nat):Int)=32:=by omega
 by_cases h10:t[p].toNat=10
 ·have g10:((t[p].toNat:Nat):Int)=10:=by omega
  have g32':¬(10:Int)=32:=by omega
  simp only [g10,g32',ibin_up c (show t.length≤9223372036854775807 by omega),RR]
  exact stepB (.inr h10)
 have g10:¬((t[p].toNat:Nat):Int)=10:=by omega
 by_cases h59:t[p].toNat=59
 ·have g59:((t[p].toNat:Nat):Int)=59:=by omega
  have g32':¬(59:Int)=32:=by omega
  have g10':¬(59:Int)=10:=by omega
  simp only [g59,g32',g10',slc_from hp,RR]
  refine c_strings_Cut (p:=[10]) (by rw [List.length_drop];omega) ?_
  obtain ⟨q1,q2,q3⟩:=skp_cut h59 (t.drop (p+1))
  rw [←dc] at q1 q2 q3
  rw [q3] at he
  generalize Lib.cut (t.drop p) [10]=cu at q1 q2 he ⊢
  have a0:aext (.tup [str (bs cu.1),str (bs cu.2.1),bv cu.2.2]) 0=some (str (bs cu.1)):=rfl
  have a1:aext (.tup [str (bs cu.1),str (bs cu.2.1),bv cu.2.2]) 1=some (str (bs cu.2.1)):=rfl
  have a2:aext (.tup [str (bs cu.1),str (bs cu.2.1),bv cu.2.2]) 2=some (bv cu.2.2):=rfl
  rw [List.length_drop] at q2
  have ea:ibin .add (iv (p:Int)) (iv (cu.1.length:Int))=some (iv ((p+cu.1.length:Nat):Int)):=by rw [ibin_add (by omega) (by omega)];rfl
  simp only [a0,a1,a2,size_bs,ea,RR]
  refine hR' _ _ (t.length - (p+cu.1.length)) τ (by omega) (.refl _) ⟨p+cu.1.length,f,ts,u,rfl,hB,hs,hf,?_,hn,by omega,by omega,rfl⟩
  rw [List.drop_drop] at he
  rw [Nat.add_assoc];exact he
 have g59:¬((t[p].toNat:Nat):Int)=59:=by omega
 have sk0:skp false (t.drop p)=0:=by rw [dc,skp,if_neg h59,if_neg (by omega)]
 rw [sk0,Nat.add_zero] at he
 obtain ⟨f,rfl⟩:∃g,f=g+1:=⟨f - 1,by omega⟩
 rw [toks,dc] at he
 dsimp only at he
 have e0:bld [(.val (.int .i64 0)),(.val (.int .i64 0)),(.val (.string ⟨#[]⟩))] [(0,1),(1,1),(2,1)] []=some (.agg (encTok ⟨0,0,⟨#[]⟩⟩)):=rfl
 simp only [g32,g10,g59,k32,k10,k59,e0,RR]
 intro ψ hψ
 refine sto_own (es:=[[iv 0,iv 0,str ⟨#[]⟩]]) (cs:=encTok ⟨0,0,⟨#[]⟩⟩) (AH.set_same ..) (by simp) rfl rfl rfl (one_encTok _) ?_
 simp only [List.set_cons_zero,AH.set_set]
 refine jn_by (P:=fun x τ'=>∃(q:Nat) (tk:Tok) (b:Bool),x=(str (bs t),.ptr φ 0 0 0,u,iv (p:Int),iv (q:Int),.ptr ψ 0 0 0,bv b,())∧τ'=τ.set ψ ⟨0,3,[encTok tk]⟩∧1≤q∧p+q≤t.length∧E=(if b=false then ([],5,p) else if 120≤ts.length then ([],2,p) else toks t f (p+q+skp false (t.drop (p+q))) (ts++[tk]))) ?_ ?_
 ·rintro x τ' ⟨q,tk,b,rfl,rfl,q1,q2,ee⟩
  refine frz_cell hψ rfl ?_
  cases b with
  |false=>
   rw [if_pos rfl] at ee
   rw [ee] at h
   simp only [bt,RR]
   exact out _ _ _ hs h
  |true=>
   rw [if_neg (by decide)] at ee
   have hlen:lenS u=some (iv (ts.length:Int)):=by have:=buf_len hB;simpa using this
   simp only [hlen,RR]
   by_cases cm:120≤ts.length
   ·have gm:(ts.length:Int)=120:=by omega
    rw [if_pos cm] at ee
    rw [ee] at h
    simp only [gm,bt,RR]
    exact out _ _ _ hs h
   ·have gm:¬(ts.length:Int)=120:=by omega
    rw [if_neg cm] at ee
    simp only [gm,lodA_all (len_encTok tk),RR]
    refine push_rw (row:=encTok tk) hB afill1 (by omega) rfl (one_encTok tk) (by simp;omega) fun u' τ2 hB' hK hfam=>?_
    have ea:ibin .add (iv (p:Int)) (iv (q:Int))=some (iv ((p+q:Nat):Int)):=by rw [ibin_add (by omega) (by omega)];rfl
    simp only [ea,RR]
    exact hR' _ _ (t.length - (p+q)) τ2 (by omega) (.refl _) ⟨p+q,f,ts++[tk],u',rfl,by simpa using hB',hK.sub hs hf,(fun χ hχ=>(hfam χ hχ).elim (hf χ) fun d=>hs.none d),ee.symm,by simp;omega,by omega,by omega,rfl⟩
 ·intro k hk
  simp only [idxStr_bs c,RR]
  refine c_strings_IndexByte (l:=[40,41,39]) ?_
  rw [mark_at]
  have ml:=mark_le t[p]
  simp only [RR]
  by_cases cm:markB t[p]=0
  ·rw [if_neg (by simp [cm])] at he
   have gm:¬(0:Int)≤markB t[p] - 1:=by omega
   have eadd:sbin .add (str (bs (t.drop p))) (.val (.string ⟨#[32]⟩))=some (str (bs (t.drop p++[32]))):=by
    have:=sbin_add (bs (t.drop p)) (bs [32]) (by rw [size_bs,size_bs,List.length_drop];simp;omega)
    rw [bs_append] at this
    exact this
   simp only [gm,slc_from hp,eadd,RR]
   refine c_strings_IndexAny (p:=stopB) (by rw [List.length_append,List.length_drop];simp;omega) (by decide) (by decide) (by decide) ?_
   rw [wrd_any]
   have hw:=wrd_le (t.drop p)
   have hw1:1≤wrd (t.drop p):=by rw [dc,wrd_go h32 h10 h59 cm];omega
   rw [←dc] at he
   rw [List.length_drop] at hw
   generalize hW:wrd (t.drop p)=W at*
   have ea:ibin .add (iv (p:Int)) (iv (W:Int))=some (iv ((p+W:Nat):Int)):=by rw [ibin_add (by omega) (by omega)];rfl
   simp only [ea,RR]
   rw [slc_midI (a:=p) (b:=p+W) (by omega) (by omega),show p+W - p=W by omega]
   simp only [RR]
   refine c_impl_wordToken (by rw [List.length_take];omega) ?_
   generalize wordT ((t.drop p).take W)=wt at*
   have a0:aext (.tup [.agg (encTok wt.1),bv wt.2]) 0=some (.agg (encTok wt.1)):=rfl
   have a1:aext (.tup [.agg (encTok wt.1),bv wt.2]) 1=some (bv wt.2):=rfl
   simp only [a0,a1,RR]
   refine sto_own (es:=[encTok ⟨0,0,⟨#[]⟩⟩]) (cs:=encTok wt.1) (by rw [AH.set_same]) (by simp) rfl rfl rfl (one_encTok _) ?_
   simp only [List.set_cons_zero,AH.set_set]
   exact hk _ _ ⟨W,wt.1,wt.2,rfl,rfl,hw1,by omega,he.symm⟩
  ·rw [if_pos cm] at he
   have gm:(0:Int)≤markB t[p] - 1:=by omega
   have ea:ibin .add (.val (.int .i64 1)) (iv (markB t[p] - 1))=some (iv (markB t[p])):=by rw [ibin_add (by omega) (by omega)];congr 3;omega
   simp only [gm,ea,RR]
   refine sto_fld (es:=[encTok ⟨0,0,⟨#[]⟩⟩]) (cs:=encTok ⟨0,0,⟨#[]⟩⟩) (AH.set_same ..) rfl (show 0<3 by omega) rfl rfl ?_
   rw [AH.set_set]
   exact hk _ _ ⟨1,⟨markB t[p],0,⟨#[]⟩⟩,true,rfl,rfl,by omega,by omega,by rw [if_neg (by decide)];exact he.symm⟩
end Go.Proofs.YtbppopcpgcgkkaaGreatDoor.E
/- Forms that are expanded to cores: the steps of the reference's way. -/
namespace Go.Proofs.YtbppopcpgcgkkaaGreatDoor.E
open Go Go.RowKit
set_option maxRecDepth 100000
variable [L:Lam]
variable {σ τ τ':AH} {R:AEnd→AH→Prop}
section
variable {ds:List Dat}
def kdTo (ds:List Dat) (i x:Nat):List Nat:=(List.range i).filter fun j=>decide ((dat ds j).parent=(x:Int))
theorem kdTo_succ (ds:List Dat) (i x:Nat):kdTo ds (i+1) x=kdTo ds i x++(if (dat ds i).parent=(x:Int) then [i] else []):=by
 unfold kdTo
 rw [List.range_succ,List.filter_append]
 congr 1
 by_cases c:(dat ds i).parent=(x:Int)<;>simp [c]
theorem kdTo_le (ds:List Dat) (i x:Nat):(kdTo ds i x).length≤i:=by
 unfold kdTo
 exact Nat.le_trans (List.length_filter_le _ _) (by simp)
theorem c_spec_l3Parts {x:Nat} (hl:ds.length≤1000000) (h:R (.ret (roK (kidsD ds x))) σ):acall TP fn_spec_l3Parts [roD ds,iv (x:Int)] σ R:=by
 refine s_spec_l3Parts_ok ?_
 unfold s_spec_l3Parts
 refine bsl0 ?_
 refine lp_rel ds.length (fun i y τ=>∃u,y=(roD ds,iv (x:Int),u,iv (i:Int),())∧Buf τ 1 u (innK (kdTo ds i x))∧AH.Sub σ τ∧∀ψ,ψ∈famL u→σ ψ=none) ⟨.emp,rfl,.inl ⟨.inr rfl,rfl⟩,.refl σ,fun ψ c=>by cases c⟩ ?_
 rintro i _ τ hi ⟨u,rfl,hB,hs,hf⟩ R' hR'
 simp only [len_ro,RR]
 by_cases hlt:i<ds.length
 ·have g:(i:Int)<(ds.length:Int):=by omega
  have l1:∀τ,lod (.rop (encDat (dat ds i)) 1) τ=some (iv (dat ds i).parent):=fun _=>rfl
  simp only [g,idx_ro hlt len_encDat,dat_at hlt,l1,jn,RR]
  by_cases c:(dat ds i).parent=(x:Int)
  ·simp only [c,RR]
   refine push_row (row:=[iv (i:Int)]) hB rfl (by omega) rfl (fun y hy=>by obtain rfl:=List.mem_singleton.1 hy;rfl) (by have:=kdTo_le ds i x;simp;omega) fun u' τ' hB' hK hfam=>?_
   simp only [ibin_up hlt (by omega),RR]
   refine hR' _ _ _ hlt (.refl _) ⟨u',rfl,?_,hK.sub hs hf,fun ψ hψ=>(hfam ψ hψ).elim (hf ψ) fun d=>hs.none d⟩
   rw [kdTo_succ,if_pos c]
   simpa [innK] using hB'
  ·simp only [c,ibin_up hlt (by omega),RR]
   refine hR' _ _ _ hlt (.refl _) ⟨u,rfl,?_,hs,hf⟩
   rw [kdTo_succ,if_neg c,List.append_nil];exact hB
 ·have g:¬(i:Int)<(ds.length:Int):=by omega
  obtain rfl:i=ds.length:=by omega
  simp only [g,RR]
  exact aret_freeze hs (fz_row hB hf rfl (by intro c hc;obtain ⟨o,_,rfl⟩:=List.mem_map.1 hc;rfl) fun _ _ _ _=> .same _) h
theorem c_spec_l3Sub {x:Nat} (hd:DOk ds) (hx:x<ds.length) (h:R (.ret (roD (subD ds x))) σ):acall TP fn_spec_l3Sub [roD ds,iv (x:Int)] σ R:=by
 have hl:=hd.len
 refine s_spec_l3Sub_ok ?_
 unfold s_spec_l3Sub
 refine c_spec_l3Deep hx (by omega) (hd.pars _ hx) ?_
 simp only [RR]
 refine bsl0 ?_
 refine lp_by (fun n y τ=>∃(i:Nat) (u:AV) (es:List Dat),y=(roD ds,iv (x:Int),iv ((deepW (par ds) (x:Int):Nat):Int),u,iv (i:Int),())∧Buf τ 4 u (es.map encDat)∧AH.Sub σ τ∧(∀ψ,ψ∈famL u→σ ψ=none)∧ds.length - i=n∧i≤ds.length∧x≤i∧es.length+x=i∧es++subG ds x (ds.length - i) i=subD ds x) (ds.length - x)
  ⟨x,.emp,[],rfl,.inl ⟨.inr rfl,rfl⟩,.refl σ,(fun ψ c=>by cases c),rfl,by omega,Nat.le_refl _,by simp,rfl⟩ ?_
 rintro n y τ ⟨i,u,es,rfl,hB,hs,hf,rfl,hi,hxi,hes,e⟩ R' hR'
 have stop:subG ds x (ds.length - i) i=[]→aret u τ R:=fun he=>by
  rw [he,List.append_nil] at e
  rw [←e] at h
  exact aret_freeze hs (fz_row hB hf rfl (by intro c hc;obtain ⟨o,_,rfl⟩:=List.mem_map.1 hc;rfl) fun _ _ _ _=> .same _) h
 refine jn_by (P:=fun z τ'=>τ'=τ∧∃b,z=(roD ds,iv (x:Int),iv ((deepW (par ds) (x:Int):Nat):Int),u,iv (i:Int),bv b,())∧(b=true→i<ds.length∧(i=x∨deepN ds x<deepN ds i))∧(b=false→¬(i<ds.length∧(i=x∨deepN ds x<deepN ds i)))) ?_ ?_
 ·rintro z τ' ⟨rfl,b,rfl,h1,h0⟩
  cases b with
  |false=>
   simp only [RR]
   refine stop ?_
   cases hn:ds.length - i with
   |zero=>rfl
   |succ n=>rw [subG,if_neg (h0 rfl)]
  |true=>
   obtain ⟨hlt,hc⟩:=h1 rfl
   obtain ⟨n,hn⟩:∃n,ds.length - i=n+1:=⟨ds.length - i - 1,by omega⟩
   rw [hn,subG,if_pos ⟨hlt,hc⟩] at e
   have hpar: -1≤(dat ds i).parent∧(dat ds i).parent≤80:=by
    rcases Nat.eq_zero_or_pos i with k|k
    ·subst k;rw [hd.top];omega
    ·have:=hd.par i k hlt;omega
   simp only [idx_ro hlt len_encDat,dat_at hlt,lodA_all (len_encDat _),RR]
   intro φ hφ
   refine sto_own (es:=[[iv 0,iv 0,iv 0,str ⟨#[]⟩]]) (cs:=encDat (dat ds i)) (AH.set_same ..) (by simp) rfl rfl rfl (one_encDat _) ?_
   simp only [List.set_cons_zero,AH.set_set]
   have el:lod (.ptr φ 0 0 1) (τ'.set φ ⟨0,4,[encDat (dat ds i)]⟩)=some (iv (dat ds i).parent):=lod_at (AH.set_same ..) rfl rfl
   have es1:ibin .sub (iv (dat ds i).parent) (iv (x:Int))=some (iv ((dat ds i).parent - x)):=ibin_sub (by omega) (by omega)
   simp only [el,es1,RR]
   refine sto_fld (es:=[encDat (dat ds i)]) (cs:=encDat (dat ds i)) (AH.set_same ..) rfl (show 1<4 by omega) rfl rfl ?_
   rw [AH.set_set]
   have x1:∀(d:Dat) (a:Int),[encDat d].set 0 ((encDat d).set 1 (iv a))=[encDat {d with parent:=a}]:=fun d a=>rfl
   rw [x1]
   refine jn_by (P:=fun z τ2=>z=(roD ds,iv (x:Int),iv ((deepW (par ds) (x:Int):Nat):Int),u,iv (i:Int),.ptr φ 0 0 0,())∧τ2=τ'.set φ ⟨0,4,[encDat {dat ds i with parent:=if i=x then -1 else (dat ds i).parent - x}]⟩) ?_ ?_
   ·rintro z τ2 ⟨rfl,rfl⟩
    refine frz_cell hφ rfl ?_
    simp only [lodA_all (len_encDat _),RR]
    refine push_row (row:=encDat {dat ds i with parent:=if i=x then -1 else (dat ds i).parent - x}) hB rfl (by omega) rfl (one_encDat _) (by simp;omega) fun u' τ3 hB' hK hfam=>?_
    simp only [ibin_up hlt (by omega),RR]
    refine hR' _ _ (ds.length - (i+1)) τ3 (by omega) (.refl _) ⟨i+1,u',es++[{dat ds i with parent:=if i=x then -1 else (dat ds i).parent - x}],rfl,by simpa using hB',hK.sub hs hf,(fun ψ hψ=>(hfam ψ hψ).elim (hf ψ) fun d=>hs.none d),rfl,hlt,by omega,by simp;omega,?_⟩
    rw [show ds.length - (i+1)=n by omega,List.append_assoc]
    exact e
   ·intro k hk
    by_cases c:i=x
    ·have g:(i:Int)=(x:Int):=by omega
     simp only [g,RR]
     refine sto_fld (es:=[encDat {dat ds i with parent:=(dat ds i).parent - x}]) (cs:=encDat {dat ds i with parent:=(dat ds i).parent - x}) (AH.set_same ..) rfl (show 1<4 by omega) rfl rfl ?_
     rw [AH.set_set]
     refine hk _ _ ⟨by rw [c]<;>rfl,?_⟩
     rw [if_pos c];rfl
    ·have g:¬(i:Int)=(x:Int):=by omega
     simp only [g,RR]
     refine hk _ _ ⟨rfl,?_⟩
     rw [if_neg c]
 ·intro k hk
  by_cases hlt:i<ds.length
  ·have g:(i:Int)<(ds.length:Int):=by omega
   by_cases c:i=x
   ·have g2:(i:Int)=(x:Int):=by omega
    have g3:(x:Int)<(ds.length:Int):=by omega
    simp only [len_ro,g2,g3,RR]
    exact hk _ _ ⟨rfl,true,by rw [c]<;>rfl,(fun _=>⟨hlt,.inl c⟩),fun x=>by cases x⟩
   ·have g2:¬(i:Int)=(x:Int):=by omega
    simp only [len_ro,g,g2,RR]
    refine c_spec_l3Deep hlt (by omega) (hd.pars _ hlt) ?_
    simp only [RR]
    have hdd:decide (((deepW (par ds) (x:Int):Nat):Int)<((deepW (par ds) (i:Int):Nat):Int))=decide (deepN ds x<deepN ds i):=by unfold deepN;congr 1;apply propext;omega
    rw [hdd]
    refine hk _ _ ⟨rfl,_,rfl,(fun hb=>⟨hlt,.inr (by simpa using hb)⟩),fun hb=>?_⟩
    rintro ⟨_,k|k⟩
    ·exact c k
    ·simp [k] at hb
  ·have g:¬(i:Int)<(ds.length:Int):=by omega
   simp only [len_ro,g,RR]
   exact hk _ _ ⟨rfl,false,rfl,(fun x=>by cases x),fun _ c=>hlt c.1⟩
def encFr (p:List ByteArray × Int):List AV:=[roS p.1,iv p.2]
def fdE (ds:List Dat) (C:List Cor) (F:Frs):List Fd:=[.fix (roD ds),.lst 6 (C.map encCor),.lst 2 (F.map encFr)]
variable {φm:Nat} {C:List Cor} {F:Frs}
def encCorN (c:Cor) (a:AV):List AV:=[iv c.kind,iv c.parent,iv c.a,iv c.b,str c.name,a]
theorem nil_cor {f:FuncId} (c:Cor) {a:AV} {row:List AV} {K:AEnd→AH→Prop} (hr:row=encCorN c nilS) (hd:c.data=[]) (h:acall TP f [a,.agg (encCor c)] τ K):acall TP f [a,.agg row] τ K:=by
 subst hr
 refine acall_frz (args':=[a,.agg (encCor c)]) (.refl τ) rfl (fun i hi=>?_) h
 match i,hi with
 |0,_=>exact .same _
 |1,_=>
  refine .agg rfl fun j hj=>?_
  match j,hj with
  |0,_=>exact .same _
  |1,_=>exact .same _
  |2,_=>exact .same _
  |3,_=>exact .same _
  |4,_=>exact .same _
  |5,_=>
   have:(encCor c).getD 5 .any=roD []:=by show roD c.data=_;rw [hd]
   rw [this];exact .nil
theorem c_spec_l4Put {c:Cor} (h:MSt σ τ φm (fdE ds C F)) (hn:C.length≤1000) (h1:∀τ',MSt σ τ' φm (fdE ds (C++[c]) F)→R (.ret (iv (C.length:Int))) τ'):acall TP fn_spec_l4Put [.ptr φm 0 0 0,.agg (encCor c)] τ R:=by
 refine s_spec_l4Put_ok ?_
 unfold s_spec_l4Put
 refine box_frz rfl ?_
 obtain ⟨v,e1,b1⟩:=h.lst (i:=1) rfl
 simp only [e1,lodA_all (len_encCor _),RR]
 rw [lit1 (sz:=6) (row:=encCor c) rfl rfl (by omega)]
 simp only [RR]
 refine h.app (i:=1) rfl e1 (row:=encCor c) rfl rfl (one_encCor _) (by simp;omega) fun v' τ1 k1=>?_
 simp only [RR,true_and]
 refine k1 _ fun τ2 S2=>?_
 have ef:(fdE ds C F).set 1 (.lst 6 (C.map encCor++[encCor c]))=fdE ds (C++[c]) F:=by simp [fdE]
 rw [ef] at S2
 obtain ⟨v2,e2,b2⟩:=S2.lst (i:=1) rfl
 have l2:=bfj_len b2
 have hl:(C++[c]).length=C.length+1:=by simp
 have es:ibin .sub (iv (((C++[c]).length:Nat):Int)) (.val (.int .i64 1))=some (iv (C.length:Int)):=by
  rw [sub_one (by omega) (by omega),hl];rfl
 simp only [e2,l2,es,RR,true_and]
 exact ret_here (h1 τ2 S2)
theorem c_spec_l4Bind {ns:List ByteArray} {f:Int} (h:MSt σ τ φm (fdE ds C F)) (hn:F.length≤1000) (h1:∀τ',MSt σ τ' φm (fdE ds C (F++[(ns,f)]))→R (.ret (iv (F.length:Int))) τ'):acall TP fn_spec_l4Bind [.ptr φm 0 0 0,roS ns,iv f] τ R:=by
 refine s_spec_l4Bind_ok ?_
 unfold s_spec_l4Bind
 obtain ⟨v,e1,b1⟩:=h.lst (i:=2) rfl
 have eb:bld [(.val (.slice none 0 0)),(.val (.int .i64 0))] [(0,1),(1,1)] [(0,roS ns),(1,iv f)]=some (.agg (encFr (ns,f))):=rfl
 simp only [e1,eb,RR]
 refine bsl1 (row:=encFr (ns,f)) rfl (by omega) fun ψ hψ=>?_
 have hs:AH.Sub τ (τ.set ψ ⟨0,2,[encFr (ns,f)]⟩):= .set (.refl τ) _ hψ
 refine (h.grow hs).app (i:=2) rfl (lod_mono hs e1) (row:=encFr (ns,f)) ael1 rfl (by intro y hy;simp only [encFr,List.mem_cons,List.not_mem_nil,or_false] at hy;rcases hy with rfl|rfl<;>rfl) (by simp;omega) fun v' τ1 k1=>?_
 refine k1 _ fun τ2 S2=>?_
 have ef:(fdE ds C F).set 2 (.lst 2 (F.map encFr++[encFr (ns,f)]))=fdE ds C (F++[(ns,f)]):=by simp [fdE]
 rw [ef] at S2
 obtain ⟨v2,e2,b2⟩:=S2.lst (i:=2) rfl
 have l2:=bfj_len b2
 have hl:(F++[(ns,f)]).length=F.length+1:=by simp
 have es:ibin .sub (iv (((F++[(ns,f)]).length:Nat):Int)) (.val (.int .i64 1))=some (iv (F.length:Int)):=by
  rw [sub_one (by omega) (by omega),hl];rfl
 simp only [e2,l2,es,RR]
 exact ret_here (h1 τ2 S2)
def fndV (o:Option (Nat × Nat)):AV:=match o with
 |none=> .tup [iv 0,iv 0,bv false]
 |some p=> .tup [iv (p.1:Int),iv (p.2:Int),bv true]
def shF (k:Nat) (o:Option (Nat × Nat)):Option (Nat × Nat):=o.map fun p=>(p.1+k,p.2)
theorem posL_drop (s:ByteArray) (ns:List ByteArray) (j:Nat) (h:j<ns.length):posL (ns.drop j) s=if ns[j]=s then some 0 else (posL (ns.drop (j+1)) s).map (·+1):=by
 rw [List.drop_eq_getElem_cons h,posL]
theorem c_spec_l4Find {f:Int} {sc:Sco} {s:ByteArray} (h:MSt σ τ φm (fdE ds C F)) (hn:F.length≤1000) (hsm:∀p,p∈F→p.1.length≤1000) (hc:Chain F f sc) (h1:R (.ret (fndV (findE sc s))) τ):acall TP fn_spec_l4Find [.ptr φm 0 0 0,iv f,str s] τ R:=by
 refine s_spec_l4Find_ok ?_
 unfold s_spec_l4Find
 have hf0:=hc.lt
 refine lp_by (fun n x τ'=>τ'=τ∧∃(g:Int) (sc':Sco) (k:Nat),x=(.ptr φm 0 0 0,iv g,str s,iv (k:Int),())∧(g+1).toNat=n∧Chain F g sc'∧k+(g+1).toNat≤2000∧shF k (findE sc' s)=findE sc s) (f+1).toNat ⟨rfl,f,sc,0,rfl,rfl,hc,by omega,by cases findE sc s<;>rfl⟩ ?_
 rintro n x τ' ⟨rfl,g,sc',k,rfl,rfl,hg,hk,e⟩ R' hR'
 cases hg with
 |nil=>
  have g0:¬(0:Int)≤ -1:=by omega
  simp only [g0,RR]
  simp only [findE,shF,Option.map_none] at e
  rw [←e] at h1
  exact ret_here h1
 |@cons i ns out sc2 q1 q2 q3=>
  have g0:(0:Int)≤(i:Int):=by omega
  have hi:=(List.getElem?_eq_some_iff.1 q1).1
  have hiv:=(List.getElem?_eq_some_iff.1 q1).2
  obtain ⟨v,e1,b1⟩:=h.lst (i:=2) (sz:=2) (es:=F.map encFr) rfl
  obtain ⟨φt,st,t1,t2⟩:=b1.at (i:=i) (by simpa using hi)
  have tn:=t2 0 (roS ns) (by rw [List.getElem_map,hiv];rfl)
  have to:=t2 1 (iv out) (by rw [List.getElem_map,hiv];rfl)
  have hns:=hsm _ (by rw [←hiv];exact List.getElem_mem hi:(ns,out)∈F)
  dsimp only at hns
  simp only [g0,e1,t1,tn,RR]
  refine lp_by (fun n x τ2=>τ2=τ'∧∃j:Nat,x=(.ptr φm 0 0 0,iv (i:Int),str s,iv (k:Int),roS ns,iv (j:Int),())∧ns.length - j=n∧j≤ns.length∧(posL (ns.drop j) s).map (·+j)=posL ns s) ns.length ⟨rfl,0,rfl,by omega,by omega,by simp⟩ ?_
  rintro n x τ2 ⟨rfl,j,rfl,rfl,hj,ej⟩ R2 hR2
  simp only [lenSS,RR]
  by_cases c:j<ns.length
  ·have gj:(j:Int)<(ns.length:Int):=by omega
   rw [posL_drop s ns j c] at ej
   simp only [gj,idx_S c,lod_1,sbin_eql',RR]
   by_cases c2:ns[j]=s
   ·rw [if_pos c2] at ej
    simp only [Option.map_some,Nat.zero_add] at ej
    rw [findE,←ej] at e
    simp only [shF,Option.map_some,Nat.zero_add] at e
    rw [←e] at h1
    have cd:decide (ns[j]=s)=true:=by simp [c2]
    simp only [cd,RR]
    exact ret_here h1
   ·rw [if_neg c2] at ej
    have cd:decide (ns[j]=s)=false:=by simp [c2]
    simp only [cd,ibin_up c (by omega),RR]
    refine hR2 _ _ (ns.length - (j+1)) τ2 (by omega) (.refl _) ⟨rfl,j+1,rfl,rfl,c,?_⟩
    rw [←ej,Option.map_map]
    congr 1
    funext a
    show a+(j+1)=a+1+j
    omega
  ·have gj:¬(j:Int)<(ns.length:Int):=by omega
   obtain rfl:j=ns.length:=by omega
   rw [List.drop_length,posL] at ej
   simp only [Option.map_none] at ej
   rw [findE,←ej] at e
   dsimp only at e
   have ek:ibin .add (iv (k:Int)) (.val (.int .i64 1))=some (iv ((k+1:Nat):Int)):=by rw [ibin_add (by omega) (by omega)];rfl
   simp only [gj,ek,e1,t1,to,RR]
   have:=q3.lt
   refine hR' _ _ (out+1).toNat τ2 (by omega) (.refl _) ⟨rfl,out,sc2,k+1,rfl,rfl,q3,by omega,?_⟩
   rw [←e]
   unfold shF
   rw [Option.map_map]
   congr 1
   funext p
   show (p.1+(k+1),p.2)=(p.1+1+k,p.2)
   congr 1;omega
structure RdN (τ:AH) (u:AV) (ns:List ByteArray):Prop where
 len:lenS u=some (iv (ns.length:Int))
 at_:∀j (h:j<ns.length),∃p,idx 1 u (iv (j:Int)) τ=some p∧lod p τ=some (str ns[j])
theorem RdN.nil:RdN τ nilS []:=⟨rfl,fun j h=>by simp at h⟩
theorem RdN.buf {u:AV} {ns:List ByteArray} (h:Buf τ 1 u (ns.map fun s=>[str s])):RdN τ u ns:=by
 have hb:=h.bfj
 refine ⟨by have:=hb.len;rwa [List.length_map] at this,fun j hj=>?_⟩
 obtain ⟨φt,st,t1,t2⟩:=hb.at (i:=j) (by simpa using hj)
 exact ⟨_,t1,t2 0 (str ns[j]) (by rw [List.getElem_map];rfl)⟩
def parV' (ds:List Dat) (x:Nat) (ns:List ByteArray):AV:=if badP ds x ns then .tup [str ⟨#[]⟩,iv 1] else .tup [str (dat ds x).name,iv 0]
theorem inL_drop (s:ByteArray) (ns:List ByteArray) (j:Nat) (h:j<ns.length):inL (ns.drop j) s=(decide (s=ns[j])||inL (ns.drop (j+1)) s):=by
 rw [List.drop_eq_getElem_cons h];rfl
theorem c_spec_l4Param {x:Nat} {u:AV} {ns:List ByteArray} (h:MSt σ τ φm (fdE ds C F)) (hx:x<ds.length) (hl:ns.length≤1000) (hu:RdN τ u ns) (h1:R (.ret (parV' ds x ns)) τ):acall TP fn_spec_l4Param [.ptr φm 0 0 0,iv (x:Int),u] τ R:=by
 refine s_spec_l4Param_ok ?_
 unfold s_spec_l4Param
 have e0:lod (.ptr φm 0 0 0) τ=some (roD ds):=h.fix rfl
 have l0:∀τ,lod (.rop (encDat (dat ds x)) 0) τ=some (iv (dat ds x).kind):=fun _=>rfl
 have l3:∀τ,lod (.rop (encDat (dat ds x)) 3) τ=some (str (dat ds x).name):=fun _=>rfl
 simp only [e0,idx_ro hx len_encDat,dat_at hx,RR]
 unfold parV' badP at h1
 refine jn_by (P:=fun z τ'=>τ'=τ∧z=(u,.rop (encDat (dat ds x)) 0,bv (decide ((dat ds x).kind≠3)||kwB (dat ds x).name),())) ?_ ?_
 ·rintro z τ' ⟨rfl,rfl⟩
  cases hb:(decide ((dat ds x).kind≠3)||kwB (dat ds x).name) with
  |true=>
   rw [hb] at h1
   simp only [Bool.true_or,if_true] at h1
   simp only [RR]
   exact ret_here h1
  |false=>
   rw [hb,Bool.false_or] at h1
   simp only [RR]
   refine lp_by (fun n y τ2=>τ2=τ'∧∃j:Nat,y=(u,.rop (encDat (dat ds x)) 0,iv (j:Int),())∧ns.length - j=n∧j≤ns.length∧inL (ns.drop j) (dat ds x).name=inL ns (dat ds x).name) ns.length ⟨rfl,0,rfl,by omega,by omega,by simp⟩ ?_
   rintro n y τ2 ⟨rfl,j,rfl,rfl,hj,ej⟩ R2 hR2
   simp only [hu.len,RR]
   by_cases c:j<ns.length
   ·have gj:(j:Int)<(ns.length:Int):=by omega
    rw [inL_drop _ ns j c] at ej
    obtain ⟨p,p1,p2⟩:=hu.at_ j c
    simp only [gj,p1,p2,l3,sbin_eql',RR]
    by_cases c2:ns[j]=(dat ds x).name
    ·have cd:decide (ns[j]=(dat ds x).name)=true:=by simp [c2]
     rw [show decide ((dat ds x).name=ns[j])=true by simp [c2],Bool.true_or] at ej
     rw [←ej] at h1
     simp only [if_true] at h1
     simp only [cd,RR]
     exact ret_here h1
    ·have cd:decide (ns[j]=(dat ds x).name)=false:=by simp [c2]
     rw [show decide ((dat ds x).name=ns[j])=false by simp;exact fun e=>c2 e.symm,Bool.false_or] at ej
     simp only [cd,ibin_up c (by omega),RR]
     exact hR2 _ _ (ns.length - (j+1)) τ2 (by omega) (.refl _) ⟨rfl,j+1,rfl,rfl,c,ej⟩
   ·have gj:¬(j:Int)<(ns.length:Int):=by omega
    obtain rfl:j=ns.length:=by omega
    rw [List.drop_length] at ej
    rw [←ej] at h1
    simp only [gj,l3,RR]
    exact ret_here (by simpa [inL] using h1)
 ·intro k hk
  by_cases c:(dat ds x).kind=3
  ·simp only [l0,l3,c,RR]
   refine c_spec_IsKeyword ?_
   simp only [RR]
   exact hk _ _ ⟨rfl,by simp [c];rfl⟩
  ·simp only [l0,l3,c,RR]
   exact hk _ _ ⟨rfl,by simp [c];rfl⟩
end
end Go.Proofs.YtbppopcpgcgkkaaGreatDoor.E
/- Forms that are expanded to cores: the reference's way, all of it. -/
namespace Go.Proofs.YtbppopcpgcgkkaaGreatDoor.E
open Go Go.RowKit
set_option maxRecDepth 100000
variable [L:Lam]
variable {σ σ1 τ τ':AH} {R:AEnd→AH→Prop}
section
variable {φm sz sz2:Nat} {fd:List Fd} {u b:AV} {es fs:List (List AV)}
theorem del_sub {σ1:AH} {φ:Nat} (hs:AH.Sub σ σ1) (h:σ φ=none):AH.Sub σ (σ1.del φ):=fun ψ F hF=>by
 have hne:ψ≠φ:=by rintro rfl;rw [h] at hF;cases hF
 rw [AH.del_ne _ hne];exact hs _ _ hF
theorem Buf.up {σ2:AH} (h:Buf σ1 sz b fs) (hk:∀ψ,ψ∈famL b→σ2 ψ=σ1 ψ):Buf σ2 sz b fs:=by
 rcases h with h|⟨φ,st,rfl,hF⟩
 ·exact .inl h
 ·exact .inr ⟨φ,st,rfl,by rw [hk φ (by simp [famL])];exact hF⟩
theorem Buf.live {ψ:Nat} (h:Buf σ1 sz b fs) (hm:ψ∈famL b):∃F,σ1 ψ=some F:=by
 rcases h with ⟨rfl|rfl,rfl⟩|⟨φ,st,rfl,hF⟩
 ·cases hm
 ·cases hm
 ·obtain rfl:ψ=φ:=by simpa [famL] using hm
  exact ⟨_,hF⟩
theorem MSt.push2 {z row:List AV} {x:AV} {k:AV→AH→Prop} (h:MSt σ1 τ φm fd) (hs:AH.Sub σ σ1) (hB:Buf σ1 sz u es) (hf:∀ψ,ψ∈famL u→σ ψ=none) (hb:Buf σ1 sz2 b fs) (hbf:∀ψ,ψ∈famL b→σ ψ=none) (hd:∀ψ,ψ∈famL u→ψ∉famL b)
  (he:afillS sz [z] [(0,x)]=some [row]) (hz:sz≤1000) (hr:row.length=sz) (ho:∀y,y∈row→y.one=true) (hn:es.length+1≤4294967296)
  (hk:∀u' σ' τ',MSt σ' τ' φm fd→AH.Sub σ σ'→Buf σ' sz u' (es++[row])→(∀ψ,ψ∈famL u'→σ ψ=none)→Buf σ' sz2 b fs→(∀ψ,ψ∈famL u'→ψ∉famL b)→k u' τ'):bsl sz z 1 [(0,x)] τ fun v τ=>E.app sz u v τ k:=by
 refine bsl1 he (by omega) fun ψ0 hψ0=>?_
 have hg:=h.grow (τ':=τ.set ψ0 ⟨0,sz,[row]⟩) (.set (.refl τ) _ hψ0)
 have go:∀σ0:AH,AH.Sub σ0 σ1→AH.Sub σ σ0→(∀ψ,ψ∈famL u→σ0 ψ=none)→(∀ψ,ψ∈famL b→σ0 ψ=σ1 ψ)→E.app sz u (.own ψ0 0 0 1) (τ.set ψ0 ⟨0,sz,[row]⟩) k:=fun σ0 h0 h1 h2 h3=>by
  refine hg.app2 h0 hB h2 ael1 (by intro c hc;obtain rfl:=List.mem_singleton.1 hc;exact hr) (by intro c hc;obtain rfl:=List.mem_singleton.1 hc;exact ho) (by simpa using hn) fun u' σ' τ2 k1 k2 k3 k4=>?_
  refine hk u' σ' τ2 k1 (h1.trans k2) k3 (fun ψ hψ=>h1.none (k4 ψ hψ)) (hb.up fun ψ hψ=>?_) fun ψ hψ c=>?_
  ·obtain ⟨F,hF⟩:=hb.live hψ
   rw [hF,k2 ψ F (by rw [h3 ψ hψ,hF])]
  ·obtain ⟨F,hF⟩:=hb.live c
   have:=k4 ψ hψ
   rw [h3 ψ c,hF] at this;cases this
 have hB':=hB
 rcases hB' with ⟨rfl|rfl,rfl⟩|⟨φ,st,rfl,hF⟩
 ·exact go σ1 (.refl _) hs (fun ψ c=>by cases c) fun _ _=>rfl
 ·exact go σ1 (.refl _) hs (fun ψ c=>by cases c) fun _ _=>rfl
 ·refine go (σ1.del φ) (.del _ _) (del_sub hs (hf φ (by simp [famL]))) (fun ψ c=>?_) fun ψ c=>?_
  ·obtain rfl:ψ=φ:=by simpa [famL] using c
   exact AH.del_same ..
  ·exact AH.del_ne _ (by rintro rfl;exact hd ψ (by simp [famL]) c)
theorem MSt.give (h:MSt σ1 τ φm fd) (hs:AH.Sub σ σ1) (hB:Buf σ1 sz u es) (hf:∀ψ,ψ∈famL u→σ ψ=none) (hz:∀c,c∈es→c.length=sz) (hb:Buf σ1 sz2 b fs) (hd:∀ψ,ψ∈famL u→ψ∉famL b):
  ∃σ2 τ2,MSt σ2 τ2 φm fd∧AH.Sub σ σ2∧AH.Sub τ2 τ∧Fz τ2 τ u (.ro es)∧Buf σ2 sz2 b fs:=by
 have hB':=hB
 rcases hB' with ⟨rfl|rfl,rfl⟩|⟨φ,st,rfl,hF⟩
 ·exact ⟨σ1,τ,h,hs,.refl _,.nil,hb⟩
 ·exact ⟨σ1,τ,h,hs,.refl _,.emp,hb⟩
 ·refine ⟨σ1.del φ,τ.del φ,h.del2 (by rw [hF];simp),del_sub hs (hf φ (by simp [famL])),.del _ _,?_,hb.up fun ψ hψ=>AH.del_ne _ (by rintro rfl;exact hd ψ (by simp [famL]) hψ)⟩
  refine .own (h.sub _ _ hF) (AH.del_same ..) rfl (by simp) rfl (fun i hi=>?_) fun i j hi hj=>?_
  ·rw [show es.getD i []=es[i] by simp [List.getD,List.getElem?_eq_getElem hi]]
   exact hz _ (List.getElem_mem hi)
  ·rw [Nat.zero_add];exact .same _
end
section
variable {ds:List Dat} {φm f:Nat} {C:List Cor} {F:Frs}
theorem slc_K1 {ks:List Nat} (h:1≤ks.length):slc 1 (roK ks) (some (.val (.int .i64 1))) none none σ=some (roK (ks.drop 1)):=by
 have e1:abd (some (.val (.int .i64 1))) 0=some 1:=rfl
 have e2:abd none (ks.map fun k:Nat=>[iv (k:Int)]).length=some (ks.map fun k:Nat=>[iv (k:Int)]).length:=rfl
 simp only [slc,e1,e2]
 rw [if_pos ⟨by simpa using h,Nat.le_refl _,Nat.le_refl _,by simp,by rw [List.all_eq_true];intro c hc;obtain ⟨x,_,rfl⟩:=List.mem_map.1 hc;rfl⟩]
 rw [List.take_length,←List.map_drop]
def SmF (F:Frs):Prop:=∀p,p∈F→p.1.length≤3
def EndE (σ:AH) (φm:Nat) (ds:List Dat) (E:Ex) (F:Frs) (w:Nat) (R:AEnd→AH→Prop):Prop:=∀τ' C' F',MSt σ τ' φm (fdE ds C' F')→(E.2=0→C'=E.1∧∃X,F'=F++X∧X.length≤w∧SmF X)→R (.ret (iv E.2)) τ'
theorem EndE.bad {e:Int} {D:List Cor} {w:Nat} (h:EndE σ φm ds (D,e) F w R) (he:e≠0) (hs:AH.Sub σ σ1) (S:MSt σ1 τ φm (fdE ds C F)):R (.ret (iv e)) τ:=h τ C F (S.drop hs) fun h0=>absurd h0 he
theorem EndE.ok {D:List Cor} {w:Nat} (h:EndE σ φm ds (D,0) F w R) (S:MSt σ τ φm (fdE ds D F)):R (.ret (iv 0)) τ:=h τ D F S fun _=>⟨rfl,[],by simp,by simp,fun p hp=>by cases hp⟩
theorem EndE.behind {E:Ex} {F1:Frs} {w w':Nat} (h:EndE σ φm ds E F w R) (hs:AH.Sub σ σ1) (hF:∃X,F1=F++X∧X.length+w'≤w∧SmF X):EndE σ1 φm ds E F1 w' R:=by
 intro τ' C' F' S hE
 refine h τ' C' F' (S.drop hs) fun h0=>?_
 obtain ⟨h1,Y,h2,h3,h4⟩:=hE h0
 obtain ⟨X,rfl,h5,h6⟩:=hF
 refine ⟨h1,X++Y,by rw [h2,List.append_assoc],by simp;omega,fun p hp=>?_⟩
 rcases List.mem_append.1 hp with c|c
 ·exact h6 p c
 ·exact h4 p c
theorem EndE.onr {E:Ex} {w:Nat} (h:EndE σ φm ds E F w R):EndE σ φm ds E F w (onr (fun v σ=>aret v σ R) (fun v σ=>apan v σ R)):=fun τ' C' F' S hE=>by
 simp only [RR]
 exact ret_here (h τ' C' F' S hE)
theorem SmF.app {F X:Frs} (h:SmF F) (g:SmF X):SmF (F++X):=fun p hp=>by
 rcases List.mem_append.1 hp with c|c
 ·exact h p c
 ·exact g p c
theorem SmF.le {F:Frs} (h:SmF F):∀p,p∈F→p.1.length≤1000:=fun p hp=>Nat.le_trans (h p hp) (by omega)
def ExpC (ds:List Dat) (f φm:Nat):Prop:=∀(σ:AH) (x:Nat) (p fr:Int) (sc:Sco) (C:List Cor) (F:Frs) (τ:AH) (R:AEnd→AH→Prop),x<ds.length→ds.length≤f+x→MSt σ τ φm (fdE ds C F)→Chain F fr sc→SmF F→C.length+2*nv ds x≤400→F.length+nv ds x≤400→
 EndE σ φm ds (expE ds f x p sc C) F (nv ds x) R→acall TP fn_spec_l4Expand [.ptr φm 0 0 0,iv (x:Int),iv p,iv fr] τ R
theorem nv_pos (x:Nat):1≤nv ds x:=vis_pos _ _ _
theorem nvK_len:∀ks:List Nat,ks.length≤nvK ds ks:=by
 intro ks
 induction ks with
 |nil=>simp
 |cons k r ih=>rw [nvK_cons,List.length_cons];have:=nv_pos (ds:=ds) k;omega
theorem c_spec_l4All (hd:DOk ds) (hE:ExpC ds f φm) {ks:List Nat} {p fr:Int} {sc:Sco} (hks:∀k,k∈ks→k<ds.length∧ds.length≤f+k) (h:MSt σ τ φm (fdE ds C F)) (hc:Chain F fr sc) (hF:SmF F) (hC:C.length+2*nvK ds ks≤400) (hF2:F.length+nvK ds ks≤400)
  (h1:EndE σ φm ds (allE (fun k C'=>expE ds f k p sc C') ks C) F (nvK ds ks) R):acall TP fn_spec_l4All [.ptr φm 0 0 0,roK ks,iv p,iv fr] τ R:=by
 refine s_spec_l4All_ok ?_
 unfold s_spec_l4All
 have hln:=nvK_len (ds:=ds) ks
 refine lp_by (fun n x τ'=>∃(j:Nat) (C1:List Cor) (X:Frs),x=(.ptr φm 0 0 0,roK ks,iv p,iv fr,iv (j:Int),())∧MSt σ τ' φm (fdE ds C1 (F++X))∧ks.length - j=n∧j≤ks.length∧SmF X∧X.length≤nvK ds (ks.take j)∧C1.length≤C.length+2*nvK ds (ks.take j)∧
  allE (fun k C'=>expE ds f k p sc C') (ks.drop j) C1=allE (fun k C'=>expE ds f k p sc C') ks C) ks.length ⟨0,C,[],rfl,by simpa using h,by omega,by omega,(fun p hp=>by cases hp),by simp,by simp,rfl⟩ ?_
 rintro n x τ' ⟨j,C1,X,rfl,S,rfl,hj,hX,hXl,hCl,e⟩ R' hR'
 simp only [lenK,RR]
 by_cases c:j<ks.length
 ·have g:(j:Int)<(ks.length:Int):=by omega
  have hm:=hks _ (getD_mem c)
  have ev:=nvK_mem (ds:=ds) c
  have ej:ks[j]=ks.getD j 0:=by simp [List.getD,c]
  rw [List.drop_eq_getElem_cons c,allE,ej] at e
  simp only [g,idx_K c,lod_1,RR]
  refine hE σ _ p fr sc C1 (F++X) τ' _ hm.1 hm.2 S (hc.app X) (hF.app hX) (by omega) (by rw [List.length_append];omega) fun τ2 C' F' S2 hE2=>?_
  have hle:=exp_less hd f (ks.getD j 0) p sc C1 hm.1
  simp only [RR]
  by_cases c2:(expE ds f (ks.getD j 0) p sc C1).2=0
  ·rw [if_neg (by simpa using c2)] at e
   obtain ⟨rfl,Y,rfl,hYl,hY⟩:=hE2 c2
   simp only [c2,ibin_up c (by omega),RR]
   rw [List.append_assoc] at S2
   have et:nvK ds (ks.take (j+1))=nvK ds (ks.take j)+nv ds (ks.getD j 0):=by
    rw [List.take_succ_eq_append_getElem c,nvK_app,ej];simp [nvK]
   exact hR' _ _ (ks.length - (j+1)) τ2 (by omega) (.refl _) ⟨j+1,_,X++Y,rfl,S2,rfl,c,hX.app hY,by rw [List.length_append];omega,by omega,e⟩
  ·rw [if_pos (by simpa using c2)] at e
   rw [←e] at h1
   simp only [c2,RR]
   exact ret_here (h1 τ2 C' F' S2 fun h0=>absurd h0 c2)
 ·have g:¬(j:Int)<(ks.length:Int):=by omega
  obtain rfl:j=ks.length:=by omega
  rw [List.drop_length,allE] at e
  rw [←e] at h1
  rw [List.take_length] at hXl
  simp only [g,RR]
  exact ret_here (h1 τ' C1 _ S fun _=>⟨rfl,X,rfl,hXl,hX⟩)
theorem bldC {k p a:Int}:bld [(.val (.int .i64 0)),(.val (.int .i64 0)),(.val (.int .i64 0)),(.val (.int .i64 0)),(.val (.string ⟨#[]⟩)),(.val (.slice none 0 0))] [(0,1),(1,1),(2,1),(3,1),(4,1),(5,1)] [(0,iv k),(1,iv p),(2,iv a)]=some (.agg [iv k,iv p,iv a,iv 0,str ⟨#[]⟩,nilS]):=rfl
theorem bldC0 {k p:Int}:bld [(.val (.int .i64 0)),(.val (.int .i64 0)),(.val (.int .i64 0)),(.val (.int .i64 0)),(.val (.string ⟨#[]⟩)),(.val (.slice none 0 0))] [(0,1),(1,1),(2,1),(3,1),(4,1),(5,1)] [(0,iv k),(1,iv p)]=some (.agg [iv k,iv p,iv 0,iv 0,str ⟨#[]⟩,nilS]):=rfl
theorem bldCn {k p:Int} {s:ByteArray}:bld [(.val (.int .i64 0)),(.val (.int .i64 0)),(.val (.int .i64 0)),(.val (.int .i64 0)),(.val (.string ⟨#[]⟩)),(.val (.slice none 0 0))] [(0,1),(1,1),(2,1),(3,1),(4,1),(5,1)] [(0,iv k),(1,iv p),(4,str s)]=some (.agg [iv k,iv p,iv 0,iv 0,str s,nilS]):=rfl
theorem bldCd {p:Int} {d:List Dat}:bld [(.val (.int .i64 0)),(.val (.int .i64 0)),(.val (.int .i64 0)),(.val (.int .i64 0)),(.val (.string ⟨#[]⟩)),(.val (.slice none 0 0))] [(0,1),(1,1),(2,1),(3,1),(4,1),(5,1)] [(0,iv 1),(1,iv p),(5,roD d)]=some (.agg (encCor (konC p d))):=rfl
theorem bldCl {p a b:Int}:bld [(.val (.int .i64 0)),(.val (.int .i64 0)),(.val (.int .i64 0)),(.val (.int .i64 0)),(.val (.string ⟨#[]⟩)),(.val (.slice none 0 0))] [(0,1),(1,1),(2,1),(3,1),(4,1),(5,1)] [(0,iv 2),(1,iv p),(2,iv a),(3,iv b)]=some (.agg [iv 2,iv p,iv a,iv b,str ⟨#[]⟩,nilS]):=rfl
theorem aext_par {x:Nat} {ns:List ByteArray}:aext (parV' ds x ns) 0=some (if badP ds x ns then str ⟨#[]⟩ else str (dat ds x).name)∧aext (parV' ds x ns) 1=some (iv (if badP ds x ns then 1 else 0)):=by
 unfold parV'
 cases badP ds x ns<;>exact ⟨rfl,rfl⟩
section
variable {ks:List Nat} {p fr:Int} {sc:Sco}
theorem c_spec_l4Assign (hd:DOk ds) (hE:ExpC ds f φm) {kind:Int} (hk78:kind=7∨kind=8) (hks:∀k,k∈ks→k<ds.length∧ds.length≤f+k) (h:MSt σ τ φm (fdE ds C F)) (hc:Chain F fr sc) (hF:SmF F) (hC:C.length+2*nvK ds ks≤400) (hF2:F.length+nvK ds ks≤400)
  (h1:EndE σ φm ds (asgE ds (expE ds f) ks p sc C kind) F (nvK ds ks) R):acall TP fn_spec_l4Assign [.ptr φm 0 0 0,roK ks,iv p,iv fr,iv kind] τ R:=by
 refine s_spec_l4Assign_ok ?_
 unfold s_spec_l4Assign
 unfold asgE at h1
 simp only [lenK,RR]
 by_cases c3:ks.length=3
 ·have g3:(ks.length:Int)=3:=by omega
  by_cases c8:kind=8∧p≠ -1
  ·rw [if_pos (.inr c8)] at h1
   obtain ⟨c8a,c8b⟩:=c8
   simp only [g3,c8a,c8b,ne_eq,not_false_iff,RR]
   exact ret_here (h1.bad (by decide) (.refl _) h)
  ·rw [if_neg (by rintro (k|k);exact k c3;exact c8 k)] at h1
   have hm1:=hks _ (getD_mem (ks:=ks) (j:=1) (by omega))
   have hm2:=hks _ (getD_mem (ks:=ks) (j:=2) (by omega))
   have x1:∀τ,idx 1 (roK ks) (.val (.int .i64 1)) τ=some (.rop [iv ((ks.getD 1 0:Nat):Int)] 0):=fun τ=>idx_K (j:=1) (by omega)
   have x2:∀τ,idx 1 (roK ks) (.val (.int .i64 2)) τ=some (.rop [iv ((ks.getD 2 0:Nat):Int)] 0):=fun τ=>idx_K (j:=2) (by omega)
   have rest:acall TP fn_spec_l4Param [.ptr φm 0 0 0,iv ((ks.getD 1 0:Nat):Int),nilS] τ (onr (fun v32 σ=>
     og (aext v32 0) fun v33=>
     og (aext v32 1) fun v34=>
     og (ibin .neq v34 (.val (.int .i64 0))) fun v36=>
     apick v36 (
      aret v34 σ R) (
      acall TP fn_spec_l4Find [.ptr φm 0 0 0,iv fr,v33] σ (onr (fun v42 σ=>
      og (aext v42 0) fun v43=>
      og (aext v42 1) fun v44=>
      og (aext v42 2) fun v45=>
      apick v45 (
       aret (.val (.int .i64 1)) σ R) (
       og (idx 1 (roK ks) (.val (.int .i64 2)) σ) fun v49=>
       og (lod v49 σ) fun v50=>
       og (bld [(.val (.int .i64 0)),(.val (.int .i64 0)),(.val (.int .i64 0)),(.val (.int .i64 0)),(.val (.string ⟨#[]⟩)),(.val (.slice none 0 0))] [(0,1),(1,1),(2,1),(3,1),(4,1),(5,1)] [(0,iv kind),(1,iv p),(4,v33)]) fun v55=>
       acall TP fn_spec_l4Put [.ptr φm 0 0 0,v55] σ (onr (fun v56 σ=>
       (lod v49 σ=some v50∧idx 1 (roK ks) (.val (.int .i64 2)) σ=some v49∧True)∧
       acall TP fn_spec_l4Expand [.ptr φm 0 0 0,v50,v56,iv fr] σ (onr (fun v58 σ=>
       (True)∧
       aret v58 σ R) (fun v σ=>apan v σ R))) (fun v σ=>apan v σ R)))) (fun v σ=>apan v σ R)))) (fun v σ=>apan v σ R)):=by
    refine c_spec_l4Param h hm1.1 (by simp) RdN.nil ?_
    simp only [aext_par.1,aext_par.2,RR]
    cases hb:badP ds (ks.getD 1 0) [] with
    |true=>
     rw [if_pos hb] at h1
     simp only [if_true,Int.reduceEq,RR]
     exact ret_here (h1.bad (by decide) (.refl _) h)
    |false=>
     rw [if_neg (by rw [hb];decide)] at h1
     simp only [Bool.false_eq_true,if_false,RR]
     refine c_spec_l4Find h (by omega) hF.le hc ?_
     cases hf:findE sc (dat ds (ks.getD 1 0)).name with
     |some q=>
      rw [hf] at h1
      simp only [Option.isSome_some,if_true] at h1
      have a0:aext (fndV (some q)) 0=some (iv (q.1:Int)):=rfl
      have a1:aext (fndV (some q)) 1=some (iv (q.2:Int)):=rfl
      have a2:aext (fndV (some q)) 2=some (bv true):=rfl
      simp only [a0,a1,a2,RR]
      exact ret_here (h1.bad (by decide) (.refl _) h)
     |none=>
      rw [hf] at h1
      simp only [Option.isSome_none,Bool.false_eq_true,if_false] at h1
      have a0:aext (fndV none) 0=some (iv 0):=rfl
      have a1:aext (fndV none) 1=some (iv 0):=rfl
      have a2:aext (fndV none) 2=some (bv false):=rfl
      simp only [a0,a1,a2,x2,lod_1,bldCn,RR]
      refine nil_cor (nmdC kind p (dat ds (ks.getD 1 0)).name) rfl rfl ?_
      refine c_spec_l4Put h (by omega) fun τ1 S1=>?_
      have o2:=nvK_one (ds:=ds) (ks:=ks) (j:=2) (by omega)
      have o1:=nvK_mem (ds:=ds) (ks:=ks) (j:=1) (by omega)
      have o3:=nvK_one (ds:=ds) (ks:=ks.drop 2) (j:=0) (by rw [List.length_drop];omega)
      have e2:(ks.drop 2).getD 0 0=ks.getD 2 0:=by simp [List.getD]
      rw [e2] at o3
      simp only [Nat.reduceAdd] at o1
      have np:=nv_pos (ds:=ds) (ks.getD 1 0)
      simp only [RR,true_and,and_true]
      refine hE σ _ _ fr sc _ F τ1 _ hm2.1 hm2.2 S1 hc hF (by rw [List.length_append,List.length_singleton];omega) (by omega) ?_
      exact h1.onr.behind (.refl _) ⟨[],by simp,by rw [List.length_nil];omega,fun p hp=>by cases hp⟩
   rcases hk78 with rfl|rfl
   ·simp only [g3,x1,lod_1,Int.reduceEq,RR] at rest ⊢
    exact rest
   ·have cp:p= -1:=by
     by_cases c:p= -1
     ·exact c
     ·exact absurd ⟨rfl,c⟩ c8
    simp only [g3,x1,lod_1,cp,RR] at rest ⊢
    exact rest
 ·rw [if_pos (.inl c3)] at h1
  have g3:¬(ks.length:Int)=3:=by omega
  simp only [g3,RR]
  exact ret_here (h1.bad (by decide) (.refl _) h)
end
end
end Go.Proofs.YtbppopcpgcgkkaaGreatDoor.E
/- Forms that are expanded to cores: the reference's way, the end of it. -/
namespace Go.Proofs.YtbppopcpgcgkkaaGreatDoor.E
open Go Go.RowKit
set_option maxRecDepth 100000
variable [L:Lam]
variable {σ σ1 τ τ':AH} {R:AEnd→AH→Prop}
section
variable {ds:List Dat} {φm f:Nat} {C:List Cor} {F:Frs} {ks:List Nat} {p fr:Int} {sc:Sco}
theorem kids_len (x:Nat):(kidsD ds x).length≤ds.length:=by
 unfold kidsD
 exact Nat.le_trans (List.length_filter_le _ _) (by simp)
theorem aft1 {s:ByteArray}:afillS 1 [[.val (.string ⟨#[]⟩)]] [(0,str s)]=some [[str s]]:=rfl
theorem aftI {i:Int}:afillS 1 [[.val (.int .i64 0)]] [(0,iv i)]=some [[iv i]]:=rfl
theorem emp_buf {sz:Nat}:Buf σ sz .emp []:= .inl ⟨.inr rfl,rfl⟩
theorem one_strL {s:ByteArray}:∀y,y∈[str s]→y.one=true:=fun y hy=>by obtain rfl:=List.mem_singleton.1 hy;rfl
theorem one_ivL {i:Int}:∀y,y∈[iv i]→y.one=true:=fun y hy=>by obtain rfl:=List.mem_singleton.1 hy;rfl
theorem c_spec_l4Lambda (hd:DOk ds) (hE:ExpC ds f φm) (hks:∀k,k∈ks→k<ds.length∧ds.length≤f+k) (h:MSt σ τ φm (fdE ds C F)) (hc:Chain F fr sc) (hF:SmF F) (hC:C.length+2*nvK ds ks≤400) (hF2:F.length+nvK ds ks≤400)
  (h1:EndE σ φm ds (lamE ds (expE ds f) ks p sc C) F (nvK ds ks) R):acall TP fn_spec_l4Lambda [.ptr φm 0 0 0,roK ks,iv p,iv fr] τ R:=by
 refine s_spec_l4Lambda_ok ?_
 unfold s_spec_l4Lambda
 unfold lamE at h1
 have hdl:=hd.len
 simp only [lenK,RR]
 by_cases c3:ks.length=3
 ·have g3:(ks.length:Int)=3:=by omega
  have hm1:=hks _ (getD_mem (ks:=ks) (j:=1) (by omega))
  have hm2:=hks _ (getD_mem (ks:=ks) (j:=2) (by omega))
  have x1:∀τ,idx 1 (roK ks) (.val (.int .i64 1)) τ=some (.rop [iv ((ks.getD 1 0:Nat):Int)] 0):=fun τ=>idx_K (j:=1) (by omega)
  have x2:∀τ,idx 1 (roK ks) (.val (.int .i64 2)) τ=some (.rop [iv ((ks.getD 2 0:Nat):Int)] 0):=fun τ=>idx_K (j:=2) (by omega)
  have o2:=nvK_one (ds:=ds) (ks:=ks) (j:=2) (by omega)
  have o1:=nvK_mem (ds:=ds) (ks:=ks) (j:=1) (by omega)
  have o3:=nvK_one (ds:=ds) (ks:=ks.drop 2) (j:=0) (by rw [List.length_drop];omega)
  have e2:(ks.drop 2).getD 0 0=ks.getD 2 0:=by simp [List.getD]
  rw [e2] at o3
  simp only [Nat.reduceAdd] at o1
  have np:=nv_pos (ds:=ds) (ks.getD 1 0)
  have e0:lod (.ptr φm 0 0 0) τ=some (roD ds):=h.fix rfl
  have l0:∀τ,lod (.rop (encDat (dat ds (ks.getD 1 0))) 0) τ=some (iv (dat ds (ks.getD 1 0)).kind):=fun _=>rfl
  by_cases c4:(dat ds (ks.getD 1 0)).kind=4
  ·rw [if_neg (by rintro (k|k);exact k c3;exact k c4)] at h1
   simp only [g3,x1,lod_1,e0,idx_ro hm1.1 len_encDat,dat_at hm1.1,l0,c4,RR]
   refine c_spec_l3Parts (by omega) ?_
   simp only [RR,true_and]
   refine bsl0 ?_
   have hkl:=kids_len (ds:=ds) (ks.getD 1 0)
   have hkm:∀k,k∈kidsD ds (ks.getD 1 0)→k<ds.length:=fun k hk=>(hd.kid hk).2
   generalize kidsD ds (ks.getD 1 0)=lst at h1 hkl hkm ⊢
   refine lp_by (fun n x τ'=>∃(j:Nat) (u:AV) (ns:List ByteArray) (σ1:AH),x=(.ptr φm 0 0 0,roK ks,iv p,iv fr,roK lst,u,iv (j:Int),())∧MSt σ1 τ' φm (fdE ds C F)∧AH.Sub σ σ1∧Buf σ1 1 u (ns.map fun s=>[str s])∧(∀ψ,ψ∈famL u→σ ψ=none)∧lst.length - j=n∧j≤lst.length∧ns.length=j∧namesE ds (lst.drop j) ns=namesE ds lst []) lst.length
    ⟨0,.emp,[],σ,rfl,h,.refl σ,emp_buf,(fun ψ c=>by cases c),by omega,by omega,rfl,rfl⟩ ?_
   rintro n x τ' ⟨j,u,ns,σ1,rfl,S,hs,hB,hf,rfl,hj,hnl,e⟩ R' hR'
   simp only [lenK,RR]
   by_cases c:j<lst.length
   ·have g:(j:Int)<(lst.length:Int):=by omega
    have ej:lst[j]=lst.getD j 0:=by simp [List.getD,c]
    rw [List.drop_eq_getElem_cons c,namesE,ej] at e
    simp only [g,idx_K c,lod_1,RR]
    refine c_spec_l4Param S (hkm _ (getD_mem c)) (by omega) (RdN.buf (hB.up fun ψ hψ=>?_)) ?_
    ·obtain ⟨G,hG⟩:=hB.live hψ
     rw [hG,S.sub _ _ hG]
    simp only [aext_par.1,aext_par.2,RR]
    cases hb:badP ds (lst.getD j 0) ns with
    |true=>
     rw [if_pos hb] at e
     rw [←e] at h1
     simp only [if_true,Int.reduceEq,RR]
     exact ret_here (h1.bad (by decide) hs S)
    |false=>
     rw [if_neg (by rw [hb];decide)] at e
     simp only [Bool.false_eq_true,if_false,RR]
     refine S.push2 (sz2:=1) (b:= .emp) (fs:=[]) hs hB hf emp_buf (fun ψ c=>by cases c) (fun ψ _ c=>by cases c) aft1 (by omega) rfl one_strL (by simp;omega) fun u' σ2 τ2 S2 hs2 hB2 hf2 _ _=>?_
     simp only [ibin_up c (by omega),RR]
     exact hR' _ _ (lst.length - (j+1)) τ2 (by omega) (.refl _) ⟨j+1,u',ns++[(dat ds (lst.getD j 0)).name],σ2,rfl,S2,hs2,by simpa using hB2,hf2,rfl,c,by simp;omega,e⟩
   ·have g:¬(j:Int)<(lst.length:Int):=by omega
    obtain rfl:j=lst.length:=by omega
    rw [List.drop_length,namesE] at e
    rw [←e] at h1
    dsimp only at h1
    have hlen:lenS u=some (iv (ns.length:Int)):=by have:=buf_len hB;simpa using this
    simp only [g,hlen,RR]
    by_cases c5:3<ns.length
    ·have g5:(3:Int)<(ns.length:Int):=by omega
     rw [if_pos c5] at h1
     simp only [g5,RR]
     exact ret_here (h1.bad (by decide) hs S)
    ·have g5:¬(3:Int)<(ns.length:Int):=by omega
     rw [if_neg c5] at h1
     simp only [g5,bldC,RR]
     refine nil_cor (nodC 5 p ns.length) rfl rfl ?_
     refine c_spec_l4Put S (by omega) fun τ2 S2=>?_
     simp only [x2,lod_1,RR,true_and,and_true]
     obtain ⟨σ3,τ3,S3,hs3,hst,hfz,_⟩:=S2.give (sz2:=1) (b:= .emp) (fs:=[]) hs hB hf (by intro c hc;obtain ⟨x,_,rfl⟩:=List.mem_map.1 hc;rfl) emp_buf (fun ψ _ c=>by cases c)
     refine acall_frz (args':=[.ptr φm 0 0 0,roS ns,iv fr]) hst rfl (fun i hi=>?_) ?_
     ·match i,hi with
      |0,_=>exact .same _
      |1,_=>exact hfz
      |2,_=>exact .same _
     refine c_spec_l4Bind (S3.drop hs3) (by omega) fun τ4 S4=>?_
     simp only [RR,true_and,and_true]
     refine hE σ _ _ _ (ns::sc) _ _ τ4 _ hm2.1 hm2.2 S4 (hc.new ns) (hF.app fun p hp=>?_) (by rw [List.length_append,List.length_singleton];omega) (by rw [List.length_append,List.length_singleton];omega) ?_
     ·obtain rfl:=List.mem_singleton.1 hp;show ns.length≤3;omega
     exact h1.onr.behind (.refl _) ⟨[(ns,fr)],rfl,by rw [List.length_singleton];omega,fun p hp=>by obtain rfl:=List.mem_singleton.1 hp;show ns.length≤3;omega⟩
  ·rw [if_pos (.inr c4)] at h1
   simp only [g3,x1,lod_1,e0,idx_ro hm1.1 len_encDat,dat_at hm1.1,l0,c4,RR]
   exact ret_here (h1.bad (by decide) (.refl _) h)
 ·rw [if_pos (.inl c3)] at h1
  have g3:¬(ks.length:Int)=3:=by omega
  simp only [g3,RR]
  exact ret_here (h1.bad (by decide) (.refl _) h)
end
end Go.Proofs.YtbppopcpgcgkkaaGreatDoor.E
/- Forms that are expanded to cores: let, the forms, all of it. -/
namespace Go.Proofs.YtbppopcpgcgkkaaGreatDoor.E
open Go Go.RowKit
set_option maxRecDepth 100000
variable [L:Lam]
variable {σ σ1 τ τ':AH} {R:AEnd→AH→Prop}
section
variable {ds:List Dat} {φm f:Nat} {C:List Cor} {F:Frs} {ks:List Nat} {p fr:Int} {sc:Sco}
theorem c_spec_l4Let (hd:DOk ds) (hE:ExpC ds f φm) (hks:∀k,k∈ks→k<ds.length∧ds.length≤f+k) (h:MSt σ τ φm (fdE ds C F)) (hc:Chain F fr sc) (hF:SmF F) (hC:C.length+2*nvK ds ks+2≤400) (hF2:F.length+nvK ds ks≤400)
  (h1:EndE σ φm ds (letE ds (expE ds f) ks p sc C) F (nvK ds ks) R):acall TP fn_spec_l4Let [.ptr φm 0 0 0,roK ks,iv p,iv fr] τ R:=by
 refine s_spec_l4Let_ok ?_
 unfold s_spec_l4Let
 unfold letE at h1
 have hdl:=hd.len
 simp only [lenK,RR]
 by_cases c3:ks.length=3
 ·have g3:(ks.length:Int)=3:=by omega
  have hm1:=hks _ (getD_mem (ks:=ks) (j:=1) (by omega))
  have hm2:=hks _ (getD_mem (ks:=ks) (j:=2) (by omega))
  have x1:∀τ,idx 1 (roK ks) (.val (.int .i64 1)) τ=some (.rop [iv ((ks.getD 1 0:Nat):Int)] 0):=fun τ=>idx_K (j:=1) (by omega)
  have x2:∀τ,idx 1 (roK ks) (.val (.int .i64 2)) τ=some (.rop [iv ((ks.getD 2 0:Nat):Int)] 0):=fun τ=>idx_K (j:=2) (by omega)
  have o1:=nvK_mem (ds:=ds) (ks:=ks) (j:=1) (by omega)
  have o3:=nvK_one (ds:=ds) (ks:=ks.drop 2) (j:=0) (by rw [List.length_drop];omega)
  have e2:(ks.drop 2).getD 0 0=ks.getD 2 0:=by simp [List.getD]
  rw [e2] at o3
  simp only [Nat.reduceAdd] at o1
  have he1:=nv_eq hd hm1.1
  have e0:lod (.ptr φm 0 0 0) τ=some (roD ds):=h.fix rfl
  have l0:∀τ,lod (.rop (encDat (dat ds (ks.getD 1 0))) 0) τ=some (iv (dat ds (ks.getD 1 0)).kind):=fun _=>rfl
  by_cases c4:(dat ds (ks.getD 1 0)).kind=4
  ·rw [if_neg (by rintro (k|k);exact k c3;exact k c4)] at h1
   simp only [g3,x1,lod_1,e0,idx_ro hm1.1 len_encDat,dat_at hm1.1,l0,c4,RR]
   refine c_spec_l3Parts (by omega) ?_
   simp only [RR,true_and]
   refine bsl0 (bsl0 ?_)
   have hkl:=kids_len (ds:=ds) (ks.getD 1 0)
   have hkm:∀k,k∈kidsD ds (ks.getD 1 0)→k<ds.length∧ks.getD 1 0<k:=fun k hk=>⟨(hd.kid hk).2,(hd.kid hk).1⟩
   generalize kidsD ds (ks.getD 1 0)=lst at h1 hkl hkm he1 ⊢
   refine lp_by (fun n x τ'=>∃(j:Nat) (u v:AV) (ns:List ByteArray) (vs:List Nat) (σ1:AH),x=(.ptr φm 0 0 0,roK ks,iv p,iv fr,roK lst,u,v,iv (j:Int),())∧MSt σ1 τ' φm (fdE ds C F)∧AH.Sub σ σ1∧Buf σ1 1 u (ns.map fun s=>[str s])∧(∀ψ,ψ∈famL u→σ ψ=none)∧Buf σ1 1 v (vs.map fun k:Nat=>[iv (k:Int)])∧(∀ψ,ψ∈famL v→σ ψ=none)∧(∀ψ,ψ∈famL u→ψ∉famL v)∧
     lst.length - j=n∧j≤lst.length∧ns.length=j∧vs.length=j∧letsE ds (lst.drop j) ns vs=letsE ds lst [] []) lst.length
    ⟨0,.emp,.emp,[],[],σ,rfl,h,.refl σ,emp_buf,(fun ψ c=>by cases c),emp_buf,(fun ψ c=>by cases c),(fun ψ c=>by cases c),by omega,by omega,rfl,rfl,rfl⟩ ?_
   rintro n x τ' ⟨j,u,v,ns,vs,σ1,rfl,S,hs,hB,hf,hBv,hfv,hdj,rfl,hj,hnl,hvl,e⟩ R' hR'
   simp only [lenK,RR]
   by_cases c:j<lst.length
   ·have g:(j:Int)<(lst.length:Int):=by omega
    have ej:lst[j]=lst.getD j 0:=by simp [List.getD,c]
    have e0':lod (.ptr φm 0 0 0) τ'=some (roD ds):=S.fix rfl
    rw [List.drop_eq_getElem_cons c,letsE,ej] at e
    have hk:=hkm _ (getD_mem c)
    simp only [g,idx_K c,lod_1,e0',RR]
    refine c_spec_l3Parts (by omega) ?_
    simp only [RR,true_and,lenK]
    by_cases c2:(kidsD ds (lst.getD j 0)).length=2
    ·have g2:((kidsD ds (lst.getD j 0)).length:Int)=2:=by omega
     rw [if_neg (by simpa using c2)] at e
     have y0:∀τ,idx 1 (roK (kidsD ds (lst.getD j 0))) (.val (.int .i64 0)) τ=some (.rop [iv (((kidsD ds (lst.getD j 0)).getD 0 0:Nat):Int)] 0):=fun τ=>idx_K (j:=0) (by omega)
     have y1:∀τ,idx 1 (roK (kidsD ds (lst.getD j 0))) (.val (.int .i64 1)) τ=some (.rop [iv (((kidsD ds (lst.getD j 0)).getD 1 0:Nat):Int)] 0):=fun τ=>idx_K (j:=1) (by omega)
     have hk0:=(hd.kid (getD_mem (ks:=kidsD ds (lst.getD j 0)) (j:=0) (by omega))).2
     simp only [g2,y0,y1,lod_1,RR]
     refine c_spec_l4Param S hk0 (by omega) (RdN.buf (hB.up fun ψ hψ=>?_)) ?_
     ·obtain ⟨G,hG⟩:=hB.live hψ
      rw [hG,S.sub _ _ hG]
     simp only [aext_par.1,aext_par.2,RR]
     cases hb:badP ds ((kidsD ds (lst.getD j 0)).getD 0 0) ns with
     |true=>
      rw [if_pos hb] at e
      rw [←e] at h1
      simp only [if_true,Int.reduceEq,RR]
      exact ret_here (h1.bad (by decide) hs S)
     |false=>
      rw [if_neg (by rw [hb];decide)] at e
      simp only [Bool.false_eq_true,if_false,RR]
      refine S.push2 (sz2:=1) hs hB hf hBv hfv hdj aft1 (by omega) rfl one_strL (by simp;omega) fun u' σ2 τ2 S2 hs2 hB2 hf2 hBv2 hdj2=>?_
      refine S2.push2 (sz2:=1) hs2 hBv2 hfv hB2 hf2 (fun ψ a b=>hdj2 ψ b a) aftI (by omega) rfl one_ivL (by simp;omega) fun v' σ3 τ3 S3 hs3 hBv3 hfv3 hB3 hdj3=>?_
      simp only [ibin_up c (by omega),RR]
      exact hR' _ _ (lst.length - (j+1)) τ3 (by omega) (.refl _) ⟨j+1,u',v',ns++[(dat ds ((kidsD ds (lst.getD j 0)).getD 0 0)).name],vs++[(kidsD ds (lst.getD j 0)).getD 1 0],σ3,rfl,S3,hs3,by simpa using hB3,hf2,by simpa using hBv3,hfv3,(fun ψ a b=>hdj3 ψ b a),rfl,c,by simp;omega,by simp;omega,e⟩
    ·have g2:¬((kidsD ds (lst.getD j 0)).length:Int)=2:=by omega
     rw [if_pos (by simpa using c2)] at e
     rw [←e] at h1
     simp only [g2,RR]
     exact ret_here (h1.bad (by decide) hs S)
   ·have g:¬(j:Int)<(lst.length:Int):=by omega
    obtain rfl:j=lst.length:=by omega
    rw [List.drop_length,letsE] at e
    have ll:=lets_nv hd _ _ _ _ _ (fun k hk=>(hkm k hk).1) e.symm
    have e00:nvK ds []=0:=rfl
    rw [←e] at h1
    dsimp only at h1
    have hlen:lenS u=some (iv (ns.length:Int)):=by have:=buf_len hB;simpa using this
    simp only [g,hlen,RR]
    by_cases c5:3<ns.length
    ·have g5:(3:Int)<(ns.length:Int):=by omega
     rw [if_pos c5] at h1
     simp only [g5,RR]
     exact ret_here (h1.bad (by decide) hs S)
    ·have g5:¬(3:Int)<(ns.length:Int):=by omega
     rw [if_neg c5] at h1
     simp only [g5,bldC0,RR]
     refine nil_cor (nodC 9 p 0) rfl rfl ?_
     refine c_spec_l4Put S (by omega) fun τ2 S2=>?_
     simp only [hlen,bldC,RR]
     refine nil_cor (nodC 5 (C.length:Int) ns.length) rfl rfl ?_
     refine c_spec_l4Put S2 (by simp;omega) fun τ3 S3=>?_
     have hl1:(C++[nodC 9 p 0]).length=C.length+1:=by simp
     rw [hl1]
     simp only [x2,lod_1,RR,true_and,and_true]
     obtain ⟨σ4,τ4,S4,hs4,hst,hfz,hBv4⟩:=S3.give (sz2:=1) hs hB hf (by intro c hc;obtain ⟨x,_,rfl⟩:=List.mem_map.1 hc;rfl) hBv hdj
     refine acall_frz (args':=[.ptr φm 0 0 0,roS ns,iv fr]) hst rfl (fun i hi=>?_) ?_
     ·match i,hi with
      |0,_=>exact .same _
      |1,_=>exact hfz
      |2,_=>exact .same _
     refine c_spec_l4Bind S4 (by omega) fun τ5 S5=>?_
     simp only [RR,true_and,and_true]
     refine hE σ4 _ _ _ (ns::sc) _ _ τ5 _ hm2.1 hm2.2 S5 (hc.new ns) (hF.app fun p hp=>?_) (by rw [List.length_append,List.length_append,List.length_singleton,List.length_singleton];omega) (by rw [List.length_append,List.length_singleton];omega) fun τ6 C' F' S6 hE6=>?_
     ·obtain rfl:=List.mem_singleton.1 hp;show ns.length≤3;omega
     have hle:=exp_less hd f (ks.getD 2 0) ((C.length+1:Nat):Int) (ns::sc) (C++[nodC 9 p 0]++[nodC 5 (C.length:Int) ns.length]) hm2.1
     rw [List.length_append,List.length_append,List.length_singleton,List.length_singleton] at hle
     generalize expE ds f (ks.getD 2 0) ((C.length+1:Nat):Int) (ns::sc) (C++[nodC 9 p 0]++[nodC 5 (C.length:Int) ns.length])=r at h1 hE6 hle ⊢
     simp only [RR,true_and]
     by_cases c6:r.2=0
     ·rw [if_neg (by simpa using c6)] at h1
      obtain ⟨rfl,X,rfl,hXl,hX⟩:=hE6 c6
      simp only [c6,RR]
      obtain ⟨σ7,τ7,S7,hs7,hst7,hfz7,_⟩:=S6.give (sz2:=1) (b:= .emp) (fs:=[]) hs4 hBv4 hfv (by intro c hc;obtain ⟨x,_,rfl⟩:=List.mem_map.1 hc;rfl) emp_buf (fun ψ _ c=>by cases c)
      refine acall_frz (args':=[.ptr φm 0 0 0,roK vs,iv (C.length:Int),iv fr]) hst7 rfl (fun i hi=>?_) ?_
      ·match i,hi with
       |0,_=>exact .same _
       |1,_=>exact hfz7
       |2,_=>exact .same _
       |3,_=>exact .same _
      have hFa:F++[(ns,fr)]++X=F++((ns,fr)::X):=by simp
      rw [hFa] at S7
      refine c_spec_l4All hd hE (fun k hk=>?_) (S7.drop hs7) (hc.app _) (hF.app fun p hp=>?_) (by omega) (by rw [List.length_append,List.length_cons];omega) ?_
      ·rcases ll.2 k hk with q|⟨q,w,q2,q3⟩
       ·cases q
       ·have:=hkm w q2
        exact ⟨q,by omega⟩
      ·rcases List.mem_cons.1 hp with rfl|hp
       ·show ns.length≤3;omega
       ·exact hX p hp
      ·refine h1.onr.behind (.refl _) ⟨(ns,fr)::X,rfl,by rw [List.length_cons];omega,fun p hp=>?_⟩
       rcases List.mem_cons.1 hp with rfl|hp
       ·show ns.length≤3;omega
       ·exact hX p hp
     ·rw [if_pos (by simpa using c6)] at h1
      simp only [c6,RR]
      exact ret_here (h1 τ6 C' F' (S6.drop hs4) fun h0=>absurd h0 c6)
  ·rw [if_pos (.inr c4)] at h1
   simp only [g3,x1,lod_1,e0,idx_ro hm1.1 len_encDat,dat_at hm1.1,l0,c4,RR]
   exact ret_here (h1.bad (by decide) (.refl _) h)
 ·rw [if_pos (.inl c3)] at h1
  have g3:¬(ks.length:Int)=3:=by omega
  simp only [g3,RR]
  exact ret_here (h1.bad (by decide) (.refl _) h)
end
end Go.Proofs.YtbppopcpgcgkkaaGreatDoor.E
/- Forms that are expanded to cores: the forms, data, all of it. -/
namespace Go.Proofs.YtbppopcpgcgkkaaGreatDoor.E
open Go Go.RowKit
set_option maxRecDepth 100000
variable [L:Lam]
variable {σ σ1 τ τ':AH} {R:AEnd→AH→Prop}
theorem dand_t {a:Int} {b:Bool} (h:a=3):decide (a=3∧b=true)=b:=by subst h;cases b<;>rfl
theorem dand_f {a:Int} {b:Bool} (h:¬a=3):decide (a=3∧b=true)=false:=by simp [h]
section
variable {ds:List Dat} {φm f:Nat} {C:List Cor} {F:Frs} {ks:List Nat} {p fr:Int} {sc:Sco}
theorem c_spec_l4Form (hd:DOk ds) (hE:ExpC ds f φm) {w:ByteArray} (hks:∀k,k∈ks→k<ds.length∧ds.length≤f+k) (h:MSt σ τ φm (fdE ds C F)) (hc:Chain F fr sc) (hF:SmF F) (hC:C.length+2*nvK ds ks+2≤400) (hF2:F.length+nvK ds ks≤400)
   (h1:EndE σ φm ds (formE ds (expE ds f) w ks p sc C) F (nvK ds ks) R):acall TP fn_spec_l4Form [.ptr φm 0 0 0,str w,roK ks,iv p,iv fr] τ R:=by
 refine s_spec_l4Form_ok ?_
 unfold s_spec_l4Form
 unfold formE at h1
 have hdl:=hd.len
 have hnl:=nvK_len (ds:=ds) ks
 have e0:lod (.ptr φm 0 0 0) τ=some (roD ds):=h.fix rfl
 simp only [sbin_eql',RR]
 by_cases c1:w=⟨#[113,117,111,116,101]⟩
 · rw [if_pos c1] at h1
   simp only [c1,lenK,RR]
   by_cases c:ks.length=2
   · rw [if_neg (by simpa using c)] at h1
     have g:(ks.length:Int)=2:=by omega
     have hm1:=hks _ (getD_mem (ks:=ks) (j:=1) (by omega))
     have x1:∀τ,idx 1 (roK ks) (.val (.int .i64 1)) τ=some (.rop [iv ((ks.getD 1 0:Nat):Int)] 0):=fun τ=>idx_K (j:=1) (by omega)
     simp only [g,e0,x1,lod_1,RR]
     refine c_spec_l3Sub hd hm1.1 ?_
     simp only [bldCd,RR,true_and]
     refine c_spec_l4Put h (by omega) fun τ1 S1=>?_
     simp only [RR,true_and]
     exact ret_here (h1.ok S1)
   · rw [if_pos (by simpa using c)] at h1
     have g:¬(ks.length:Int)=2:=by omega
     simp only [g,RR]
     exact ret_here (h1.bad (by decide) (.refl _) h)
 rw [if_neg c1] at h1
 have go:∀k,1≤ks.length→EndE σ φm ds (allE (fun k C'=>expE ds f k (C.length:Int) sc C') (ks.drop 1) (C++[nodC k p 0])) F (nvK ds ks) R→acall TP fn_spec_l4Put [.ptr φm 0 0 0,.agg [iv k,iv p,iv 0,iv 0,str ⟨#[]⟩,nilS]] τ (onr (fun v40 σ=>
       acall TP fn_spec_l4All [.ptr φm 0 0 0,roK (ks.drop 1),v40,iv fr] σ (onr (fun v42 σ=>
       aret v42 σ R) (fun v σ=>apan v σ R))) (fun v σ=>apan v σ R)):=fun k hn h1=>by
   refine nil_cor (nodC k p 0) rfl rfl ?_
   refine c_spec_l4Put h (by omega) fun τ1 S1=>?_
   have hdr:=nvK_drop (ds:=ds) ks 1
   simp only [RR]
   exact c_spec_l4All hd hE (fun k hk=>hks k (List.mem_of_mem_drop hk)) S1 hc hF (by rw [List.length_append,List.length_singleton];omega) (by omega) (h1.onr.behind (.refl _) ⟨[],by simp,by rw [List.length_nil];omega,fun p hp=>by cases hp⟩)
 by_cases c2:w=⟨#[105,102]⟩
 · rw [if_pos c2] at h1
   have d1:¬(⟨#[105,102]⟩:ByteArray)=⟨#[113,117,111,116,101]⟩:=by rw [←c2];exact c1
   simp only [c2,d1,lenK,RR]
   by_cases c:ks.length=4
   · rw [if_neg (by simpa using c)] at h1
     have g:(ks.length:Int)=4:=by omega
     have hh:=go 4 (by omega) h1
     simp only [g,slc_K1 (show 1≤ks.length by omega),bldC0,RR,true_and,and_true] at hh ⊢
     exact hh
   · rw [if_pos (by simpa using c)] at h1
     have g:¬(ks.length:Int)=4:=by omega
     simp only [g,RR]
     exact ret_here (h1.bad (by decide) (.refl _) h)
 rw [if_neg c2] at h1
 by_cases c3:w=⟨#[98,101,103,105,110]⟩
 · rw [if_pos c3] at h1
   have d1:¬(⟨#[98,101,103,105,110]⟩:ByteArray)=⟨#[113,117,111,116,101]⟩:=by rw [←c3];exact c1
   have d2:¬(⟨#[98,101,103,105,110]⟩:ByteArray)=⟨#[105,102]⟩:=by rw [←c3];exact c2
   simp only [c3,d1,d2,lenK,RR]
   by_cases c:ks.length<2
   · rw [if_pos c] at h1
     have g:(ks.length:Int)<2:=by omega
     simp only [g,RR]
     exact ret_here (h1.bad (by decide) (.refl _) h)
   · rw [if_neg c] at h1
     have g:¬(ks.length:Int)<2:=by omega
     have hh:=go 6 (by omega) h1
     simp only [g,slc_K1 (show 1≤ks.length by omega),bldC0,RR,true_and,and_true] at hh ⊢
     exact hh
 rw [if_neg c3] at h1
 by_cases c4:w=⟨#[108,97,109,98,100,97]⟩
 · rw [if_pos c4] at h1
   simp only [c1,c2,c3,c4,RR]
   have d1:¬(⟨#[108,97,109,98,100,97]⟩:ByteArray)=⟨#[113,117,111,116,101]⟩:=by rw [←c4];exact c1
   have d2:¬(⟨#[108,97,109,98,100,97]⟩:ByteArray)=⟨#[105,102]⟩:=by rw [←c4];exact c2
   have d3:¬(⟨#[108,97,109,98,100,97]⟩:ByteArray)=⟨#[98,101,103,105,110]⟩:=by rw [←c4];exact c3
   simp only [d1,d2,d3,RR]
   exact c_spec_l4Lambda hd hE hks h hc hF (by omega) hF2 h1.onr
 rw [if_neg c4] at h1
 by_cases c5:w=⟨#[108,101,116]⟩
 · rw [if_pos c5] at h1
   have d1:¬(⟨#[108,101,116]⟩:ByteArray)=⟨#[113,117,111,116,101]⟩:=by rw [←c5];exact c1
   have d2:¬(⟨#[108,101,116]⟩:ByteArray)=⟨#[105,102]⟩:=by rw [←c5];exact c2
   have d3:¬(⟨#[108,101,116]⟩:ByteArray)=⟨#[98,101,103,105,110]⟩:=by rw [←c5];exact c3
   have d4:¬(⟨#[108,101,116]⟩:ByteArray)=⟨#[108,97,109,98,100,97]⟩:=by rw [←c5];exact c4
   simp only [c5,d1,d2,d3,d4,RR]
   exact c_spec_l4Let hd hE hks h hc hF hC hF2 h1.onr
 rw [if_neg c5] at h1
 by_cases c6:w=⟨#[100,101,102,105,110,101]⟩
 · rw [if_pos c6] at h1
   have d1:¬(⟨#[100,101,102,105,110,101]⟩:ByteArray)=⟨#[113,117,111,116,101]⟩:=by rw [←c6];exact c1
   have d2:¬(⟨#[100,101,102,105,110,101]⟩:ByteArray)=⟨#[105,102]⟩:=by rw [←c6];exact c2
   have d3:¬(⟨#[100,101,102,105,110,101]⟩:ByteArray)=⟨#[98,101,103,105,110]⟩:=by rw [←c6];exact c3
   have d4:¬(⟨#[100,101,102,105,110,101]⟩:ByteArray)=⟨#[108,97,109,98,100,97]⟩:=by rw [←c6];exact c4
   have d5:¬(⟨#[100,101,102,105,110,101]⟩:ByteArray)=⟨#[108,101,116]⟩:=by rw [←c6];exact c5
   simp only [c6,d1,d2,d3,d4,d5,RR]
   exact c_spec_l4Assign hd hE (.inr rfl) hks h hc hF (by omega) hF2 h1.onr
 rw [if_neg c6] at h1
 simp only [c1,c2,c3,c4,c5,c6,RR]
 exact c_spec_l4Assign hd hE (.inl rfl) hks h hc hF (by omega) hF2 h1.onr
set_option maxHeartbeats 400000 in
theorem exp_all (hd:DOk ds):∀f,ExpC ds f φm:=by
 intro f
 induction f with
 |zero=>intro σ x p fr sc C F τ R hx hf;omega
 |succ f ih=>
  intro σ x p fr sc C F τ R hx hfx h hc hF hC hF2 h1
  have hdl:=hd.len
  have hkd:=hd.kind x hx
  have hnv:=nv_eq hd hx
  have hks:∀k,k∈kidsD ds x→k<ds.length∧ds.length≤f+k:=fun k hk=>by have:=hd.kid hk;omega
  have e0:∀{τ C F},MSt σ τ φm (fdE ds C F)→lod (.ptr φm 0 0 0) τ=some (roD ds):=fun h=>h.fix rfl
  have l0:∀τ y,lod (.rop (encDat (dat ds y)) 0) τ=some (iv (dat ds y).kind):=fun _ _=>rfl
  have l3:∀τ y,lod (.rop (encDat (dat ds y)) 3) τ=some (str (dat ds y).name):=fun _ _=>rfl
  refine s_spec_l4Expand_ok ?_
  unfold s_spec_l4Expand
  simp only [e0 h,idx_ro hx len_encDat,dat_at hx,l0,RR]
  rw [expE] at h1
  refine jn_by (P:=fun z τ'=>τ'=τ∧z=(.ptr φm 0 0 0,iv (x:Int),iv p,iv fr,.rop (encDat (dat ds x)) 0,iv (dat ds x).kind,bv (decide ((dat ds x).kind=1)||decide ((dat ds x).kind=2)),())) ?_ ?_
  ·rintro z τ' ⟨rfl,rfl⟩
   by_cases c12:(dat ds x).kind=1∨(dat ds x).kind=2
   ·rw [if_pos c12] at h1
    have g:(decide ((dat ds x).kind=1)||decide ((dat ds x).kind=2))=true:=by simpa using c12
    simp only [g,e0 h,RR]
    refine c_spec_l3Sub hd hx ?_
    simp only [bldCd,RR]
    refine c_spec_l4Put h (by omega) fun τ1 S1=>?_
    simp only [RR]
    exact ret_here (h1.ok S1)
   rw [if_neg c12] at h1
   have g:(decide ((dat ds x).kind=1)||decide ((dat ds x).kind=2))=false:=by simpa using c12
   by_cases c3:(dat ds x).kind=3
   ·rw [if_pos c3] at h1
    have g2:(decide ((3:Int)=1)||decide ((3:Int)=2))=false:=rfl
    simp only [c3,g2,l3,RR]
    refine c_spec_IsKeyword ?_
    cases hk:kwB (dat ds x).name with
    |true=>
     rw [if_pos hk] at h1
     simp only [RR]
     exact ret_here (h1.bad (by decide) (.refl _) h)
    |false=>
     rw [if_neg (by rw [hk];decide)] at h1
     simp only [RR]
     refine c_spec_l4Find h (by omega) hF.le hc ?_
     cases hf:findE sc (dat ds x).name with
     |some q=>
      rw [hf] at h1
      dsimp only at h1
      have a0:aext (fndV (some q)) 0=some (iv (q.1:Int)):=rfl
      have a1:aext (fndV (some q)) 1=some (iv (q.2:Int)):=rfl
      have a2:aext (fndV (some q)) 2=some (bv true):=rfl
      simp only [a0,a1,a2,bldCl,RR]
      refine nil_cor (locC p q.1 q.2) rfl rfl ?_
      refine c_spec_l4Put h (by omega) fun τ1 S1=>?_
      simp only [RR]
      exact ret_here (h1.ok S1)
     |none=>
      rw [hf] at h1
      dsimp only at h1
      have a0:aext (fndV none) 0=some (iv 0):=rfl
      have a1:aext (fndV none) 1=some (iv 0):=rfl
      have a2:aext (fndV none) 2=some (bv false):=rfl
      simp only [a0,a1,a2,bldCn,RR]
      refine nil_cor (nmdC 3 p (dat ds x).name) rfl rfl ?_
      refine c_spec_l4Put h (by omega) fun τ1 S1=>?_
      simp only [RR]
      exact ret_here (h1.ok S1)
   rw [if_neg c3] at h1
   simp only [g,c3,e0 h,RR]
   refine c_spec_l3Parts (by omega) ?_
   simp only [lenK,RR]
   by_cases c0:(kidsD ds x).length=0
   ·rw [if_pos c0] at h1
    have g0:((kidsD ds x).length:Int)=0:=by omega
    simp only [g0,RR]
    exact ret_here (h1.bad (by decide) (.refl _) h)
   rw [if_neg c0] at h1
   have g0:¬((kidsD ds x).length:Int)=0:=by omega
   have hk0:=hks _ (getD_mem (ks:=kidsD ds x) (j:=0) (by omega))
   have x0:∀τ,idx 1 (roK (kidsD ds x)) (.val (.int .i64 0)) τ=some (.rop [iv (((kidsD ds x).getD 0 0:Nat):Int)] 0):=fun τ=>idx_K (j:=0) (by omega)
   simp only [g0,x0,lod_1,e0 h,idx_ro hk0.1 len_encDat,dat_at hk0.1,l0,l3,RR]
   refine jn_by (P:=fun z τ2=>τ2=τ'∧z=(.ptr φm 0 0 0,iv p,iv fr,roK (kidsD ds x),.rop (encDat (dat ds ((kidsD ds x).getD 0 0))) 0,bv (decide ((dat ds ((kidsD ds x).getD 0 0)).kind=3∧kwB (dat ds ((kidsD ds x).getD 0 0)).name=true)),())) ?_ ?_
   ·rintro z τ2 ⟨rfl,rfl⟩
    by_cases cf:(dat ds ((kidsD ds x).getD 0 0)).kind=3∧kwB (dat ds ((kidsD ds x).getD 0 0)).name=true
    ·rw [if_pos cf] at h1
     have gf:decide ((dat ds ((kidsD ds x).getD 0 0)).kind=3∧kwB (dat ds ((kidsD ds x).getD 0 0)).name=true)=true:=by simpa using cf
     simp only [gf,l3,RR]
     exact c_spec_l4Form hd ih hks h hc hF (by omega) (by omega) (h1.onr.behind (.refl _) ⟨[],by simp,by rw [List.length_nil];omega,fun p hp=>by cases hp⟩)
    ·rw [if_neg cf] at h1
     have gf:decide ((dat ds ((kidsD ds x).getD 0 0)).kind=3∧kwB (dat ds ((kidsD ds x).getD 0 0)).name=true)=false:=by simpa using cf
     simp only [gf,lenK,RR]
     by_cases c4:4<(kidsD ds x).length
     ·rw [if_pos c4] at h1
      have g4:(4:Int)<((kidsD ds x).length:Int):=by omega
      simp only [g4,RR]
      exact ret_here (h1.bad (by decide) (.refl _) h)
     ·rw [if_neg c4] at h1
      have g4:¬(4:Int)<((kidsD ds x).length:Int):=by omega
      simp only [g4,bldC0,RR]
      refine nil_cor (nodC 9 p 0) rfl rfl ?_
      refine c_spec_l4Put h (by omega) fun τ3 S3=>?_
      simp only [RR]
      exact c_spec_l4All hd ih hks S3 hc hF (by rw [List.length_append,List.length_singleton];omega) (by omega) (h1.onr.behind (.refl _) ⟨[],by simp,by rw [List.length_nil];omega,fun p hp=>by cases hp⟩)
   ·intro k hk
    by_cases c:(dat ds ((kidsD ds x).getD 0 0)).kind=3
    ·simp only [c,RR]
     refine c_spec_IsKeyword ?_
     simp only [RR]
     exact hk _ _ ⟨rfl,by rw [dand_t c]<;>rfl⟩
    ·simp only [c,RR]
     exact hk _ _ ⟨rfl,by rw [dand_f c]<;>rfl⟩
  ·intro k hk
   by_cases c1:(dat ds x).kind=1
   ·have:(decide ((dat ds x).kind=1)||decide ((dat ds x).kind=2))=true:=by simp [c1]
    rw [this] at hk
    simp only [c1,RR] at hk ⊢
    exact hk _ _ ⟨rfl,rfl⟩
   ·have:(decide ((dat ds x).kind=1)||decide ((dat ds x).kind=2))=decide ((dat ds x).kind=2):=by simp [c1]
    rw [this] at hk
    simp only [c1,RR]
    exact hk _ _ ⟨rfl,rfl⟩
end
theorem bldCR (c:Int) (es:List (List AV)):bld [(.val (.int .i64 0)),(.val (.slice none 0 0))] [(0,1),(1,1)] [(0,iv c)]=some (.agg [iv c,nilS])∧bld [(.val (.int .i64 0)),(.val (.slice none 0 0))] [(0,1),(1,1)] [(1,.ro es)]=some (.agg [iv 0,.ro es]):=⟨rfl,rfl⟩
theorem c_spec_ExpandData {ds:List Dat} (hs:sD ds) (h:R (.ret (.agg [iv (expR ds).2,roC (expR ds).1])) σ):acall TP fn_spec_ExpandData [roD ds] σ R:=by
 refine s_spec_ExpandData_ok ?_
 unfold s_spec_ExpandData
 intro φ hφ
 refine c_spec_l3Fault hs ?_
 have bad:∀c:Int,R (.ret (.agg [iv c,roC []])) σ→sto 2 (.ptr φ 0 0 0) (.agg [iv c,nilS]) (σ.set φ ⟨0,2,[[iv 0,nilS]]⟩) fun σ=>og (lodA 2 (.ptr φ 0 0 0) σ) fun r=>aret r σ R:=fun c h=>by
  refine fin_cellZ (cs':=[iv c,roC []]) hφ rfl rfl (by intro x hx;simp at hx;rcases hx with rfl|rfl<;>rfl) rfl (fun j hj=>?_) h
  match j,hj with
  |0,_=>exact .same _
  |1,_=>exact .nil
 unfold expR at h
 simp only [RR]
 by_cases c:dataF ds=0
 ·rw [if_neg (by simpa using c)] at h
  have hd:=DOk.of c
  have hdl:=hd.len
  have eb:bld [(.val (.slice none 0 0)),(.val (.slice none 0 0)),(.val (.slice none 0 0))] [(0,1),(1,1),(2,1)] [(0,roD ds)]=some (.agg [roD ds,nilS,nilS]):=rfl
  simp only [c,eb,RR]
  intro φm hφm
  refine sto_own (es:=[[nilS,nilS,nilS]]) (cs:=[roD ds,nilS,nilS]) (AH.set_same ..) (by simp) rfl rfl rfl (by intro y hy;simp only [List.mem_cons,List.not_mem_nil,or_false] at hy;rcases hy with rfl|rfl|rfl<;>rfl) ?_
  simp only [List.set_cons_zero,AH.set_set]
  have S0:MSt (σ.set φ ⟨0,2,[[iv 0,nilS]]⟩) ((σ.set φ ⟨0,2,[[iv 0,nilS]]⟩).set φm ⟨0,(fdE ds [] []).length,[[roD ds,nilS,nilS]]⟩) φm (fdE ds [] []):=by
   refine MSt.new hφm rfl (fun i f hf=>?_) (by intro v hv;simp only [List.mem_cons,List.not_mem_nil,or_false] at hv;rcases hv with rfl|rfl|rfl<;>rfl)
   match i,hf with
   |0,hf=>obtain rfl:=Option.some.inj hf;exact ⟨rfl,rfl,rfl⟩
   |1,hf=>obtain rfl:=Option.some.inj hf;exact .nil
   |2,hf=>obtain rfl:=Option.some.inj hf;exact .nil
  have hb:=nv_bound hd (x:=0) (by omega)
  refine exp_all hd ds.length _ 0 (-1) (-1) [] [] [] _ _ (by omega) (by omega) S0 .nil (fun p hp=>by cases hp) (by simp;omega) (by simp;omega) fun τ' C' F' S hE=>?_
  have hle:=exp_less hd ds.length 0 (-1) [] [] (by omega)
  generalize expE ds ds.length 0 (-1) [] []=E at h hE hle ⊢
  simp only [RR]
  obtain ⟨vs,q1,q2,q3,q4,q5⟩:=S.ex
  have hfz:∃cs',Fz (σ.set φ ⟨0,2,[[iv 0,nilS]]⟩) τ' (.ptr φm 0 0 0) (.rop [roD ds,roC C',cs'] 0):=by
   obtain ⟨v1,e1,b1⟩:=S.lst (i:=1) rfl
   obtain ⟨v2,e2,b2⟩:=S.lst (i:=2) rfl
   have e0:lod (.ptr φm 0 0 0) τ'=some (roD ds):=S.fix rfl
   have z1:=S.fzl (i:=1) rfl e1 (by intro c hc;obtain ⟨x,_,rfl⟩:=List.mem_map.1 hc;rfl)
   have z2:=S.fzl (i:=2) rfl e2 (by intro c hc;obtain ⟨x,_,rfl⟩:=List.mem_map.1 hc;rfl)
   have hl:vs.length=3:=q2
   obtain ⟨a0,a1,a2,rfl⟩:∃a0 a1 a2,vs=[a0,a1,a2]:=by
    match vs,hl with
    |[a0,a1,a2],_=>exact ⟨a0,a1,a2,rfl⟩
   have y0:lod (.ptr φm 0 0 0) τ'=some a0:=lod_at q1 rfl rfl
   have y1:lod (.ptr φm 0 0 1) τ'=some a1:=lod_at q1 rfl rfl
   have y2:lod (.ptr φm 0 0 2) τ'=some a2:=lod_at q1 rfl rfl
   rw [y0] at e0;rw [y1] at e1;rw [y2] at e2
   obtain rfl:=Option.some.inj e0
   obtain rfl:=Option.some.inj e1
   obtain rfl:=Option.some.inj e2
   refine ⟨.ro (F'.map encFr),.ptr q1 S.fr rfl (by simp) rfl rfl fun j hj=>?_⟩
   match j,hj with
   |0,_=>exact .same _
   |1,_=>exact z1
   |2,_=>exact z2
  obtain ⟨cs',hfz⟩:=hfz
  refine ⟨_,_,S.sub,hfz,?_⟩
  have l1:∀τ,lod (.rop [roD ds,roC C',cs'] 1) τ=some (roC C'):=fun _=>rfl
  by_cases c2:E.2=0
  ·rw [if_neg (by simpa using c2)] at h
   obtain ⟨rfl,_⟩:=hE c2
   simp only [c2,l1,len_ro,RR]
   by_cases c3:160<E.1.length
   ·rw [if_pos c3] at h
    have g3:(160:Int)<(E.1.length:Int):=by omega
    simp only [g3,(bldCR 2 []).1,RR]
    exact bad 2 h
   ·rw [if_neg c3] at h
    have g3:¬(160:Int)<(E.1.length:Int):=by omega
    simp only [g3,(bldCR 0 (E.1.map encCor)).2,RR]
    exact fin_cell hφ rfl rfl (by intro x hx;simp at hx;rcases hx with rfl|rfl<;>rfl) h
  ·rw [if_pos (by simpa using c2)] at h
   simp only [c2,(bldCR E.2 []).1,RR]
   exact bad _ h
 ·rw [if_pos (by simpa using c)] at h
  simp only [c,(bldCR (dataF ds) []).1,RR]
  exact bad _ h
end Go.Proofs.YtbppopcpgcgkkaaGreatDoor.E

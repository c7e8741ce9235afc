import Derived.Test.YtggnjjalfnhiiaaGreatDoorPM17
import Derived.Test.YtggnjjalfnhiiaaGreatDoorProg
/- Settings; code of a line by a setting: what is shared. -/
set_option linter.unusedSectionVars false
set_option linter.unusedSimpArgs false
set_option linter.unusedVariables false
namespace Go.Proofs.YtggnjjalfnhiiaaGreatDoor.E
open Go Go.RowKit
set_option maxRecDepth 100000
variable [L:Lam]
variable {σ τ τ':AH} {R:AEnd→AH→Prop}
def encF (s t:Int) (p q:Bool):List AV:=[iv s,iv t,bv p,bv q]
theorem QvR (s t:Int) (p q:Bool):∀y,y∈encF s t p q→y.one=true:=by
 intro y hy
 simp only [encF,List.mem_cons,List.not_mem_nil,or_false] at hy
 rcases hy with rfl|rfl|rfl|rfl<;>rfl
theorem RF (s t:Int) (p q:Bool):(∀σ,lod (.rop (encF s t p q) 0) σ=some (iv s))∧(∀σ,lod (.rop (encF s t p q) 1) σ=some (iv t))∧(∀σ,lod (.rop (encF s t p q) 2) σ=some (bv p))∧(∀σ,lod (.rop (encF s t p q) 3) σ=some (bv q)):=
 ⟨fun _=>rfl,fun _=>rfl,fun _=>rfl,fun _=>rfl⟩
def cfgF (s t:Int):Int:=if inB 1 64 s&&inB 0 15 t then 0 else 3
theorem Qkq {s t:Int} {p q:Bool} (h:R (.ret (iv (cfgF s t))) σ):acall TP Qcy [.agg (encF s t p q)] σ R:=by
 refine Qg4 ?_
 unfold Qde x34;dsimp only [den,dE,di,tupL,lTup,dwat,Qe,List.map,Option.map,den0,den1,den2,den3,den4]
 unfold cfgF at h
 simp only [jn]
 refine UX rfl ?_
 simp only [RR,RF]
 refine QlR ?_
 unfold Qiw x60;dsimp only [den,dE,di,tupL,lTup,dwat,Qe,List.map,Option.map,den0,den1,den2,den3,den4]
 refine UK ?_
 simp only [RR]
 refine Qa ?_
 cases c:inB 1 64 s
 ·rw [c] at h
  simp only [RR]
  exact Qa h
 ·rw [c] at h
  simp only [RR,RF]
  refine Qle ?_
  cases c2:inB 0 15 t
  ·rw [c2] at h
   simp only [RR]
   exact Qa h
  ·rw [c2] at h
   simp only [RR]
   exact Qa h
theorem QnT {s t:Int} {p q:Bool} (h:R (.ret (iv (cfgF s t))) σ):acall TP Qet [.rop (encF s t p q) 0] σ R:=by
 refine Qjt ?_
 unfold QfH x32;dsimp only [den,dE,di,tupL,lTup,dwat,Qe,List.map,Option.map,den0,den1,den2,den3,den4]
 unfold cfgF at h
 simp only [jn,RR,RF]
 refine QkK ?_
 unfold Qg5 x55;dsimp only [den,dE,di,tupL,lTup,dwat,Qe,List.map,Option.map,den0,den1,den2,den3,den4]
 refine UU ?_
 simp only [RR]
 refine Qa ?_
 cases c:inB 1 64 s
 ·rw [c] at h
  simp only [RR]
  exact Qa h
 ·rw [c] at h
  simp only [RR,RF]
  refine Qjw ?_
  unfold QfJ x56;dsimp only [den,dE,di,tupL,lTup,dwat,Qe,List.map,Option.map,den0,den1,den2,den3,den4]
  refine UU ?_
  simp only [RR]
  refine Qa ?_
  cases c2:inB 0 15 t
  ·rw [c2] at h
   simp only [RR]
   exact Qa h
  ·rw [c2] at h
   simp only [RR]
   exact Qa h
theorem Qr5 {s t:Int} (h:cfgF s t=0):1≤s∧s≤64∧0≤t∧t≤15:=by
 unfold cfgF at h
 split at h
 ·rename_i c
  rw [Bool.and_eq_true] at c
  have:=Us.1 c.1
  have:=Us.1 c.2
  omega
 ·cases h
theorem Qcx {s t:Int} {p q:Bool} (h:R (.ret (.agg (encF s t p q))) σ):acall TP Qes [.agg (encF s t p q)] σ R:=by
 refine Qjr ?_
 unfold QfF x13;dsimp only [den,dE,di,tupL,lTup,dwat,Qe,List.map,Option.map,den0,den1,den2,den3,den4]
 refine Qsr rfl fun φ2 φ3 hne h2 h3=>?_
 simp only [RR,RF]
 refine Qh2 (by decide) rfl ?_
 refine Qh2 (by decide) rfl ?_
 refine Qh2 (by decide) rfl ?_
 refine Qh2 (by decide) rfl ?_
 exact QuU hne h2 h3 rfl rfl (QvR s t p q) h
theorem Qua (tab:Int) (T:Nat→Bool):∀(n k:Nat) (os:List OpD),os.length≤n→(UN tab T k os).length≤os.length:=by
 intro n
 induction n with
 |zero=>intro k os h;cases os with|nil=>exact Nat.le_refl _|cons=>simp at h
 |succ n ih=>
  intro k os h
  match os,h with
  |[],_=>exact Nat.le_refl _
  |[p],_=>exact Nat.le_refl _
  |p::q::r,h=>
   simp only [UN]
   split
   ·have:=ih (k+2) r (by simp at h;omega)
    simp;omega
   ·have:=ih (k+1) (q::r) (by simp at h ⊢;omega)
    simp at this ⊢;omega
theorem QvS {N:Nat} (tab:Int) (T:Nat→Bool):∀(n k:Nat) (os:List OpD),os.length≤n→(∀o,o∈os→o.name.size≤N∧bD N o.data)→∀o,o∈UN tab T k os→o.name.size≤N∧bD N o.data:=by
 intro n
 induction n with
 |zero=>intro k os h;cases os with|nil=>intro _ o ho;cases ho|cons=>simp at h
 |succ n ih=>
  intro k os h hb o ho
  match os,h,hb,ho with
  |[],_,_,ho=>cases ho
  |[p],_,hb,ho=>exact hb o ho
  |p::q::r,h,hb,ho=>
   simp only [UN] at ho
   split at ho
   ·rename_i o' h1 h2
    rcases List.mem_cons.1 ho with rfl|ho
    ·obtain ⟨e1,e2⟩:=Qo9 h2
     have:=hb p (by simp)
     rw [e1,e2]
     refine ⟨Nat.zero_le _,?_⟩
     split
     ·exact this.2
     ·exact ⟨Nat.zero_le _,fun d hd=>by cases hd⟩
    ·exact ih (k+2) r (by simp at h;omega) (fun o ho=>hb o (by simp [ho])) o ho
   ·rcases List.mem_cons.1 ho with rfl|ho
    ·exact hb _ (by simp)
    ·exact ih (k+1) (q::r) (by simp at h ⊢;omega) (fun o ho=>hb o (List.mem_cons_of_mem _ ho)) o ho
theorem QsP (xs:List Int) (o:OpD):(UM xs o).name=o.name:=by unfold UM;(repeat' split)<;>rfl
theorem Qz2 {bs:List Blk} {tab:Int} (h:bC 1048576 bs):bC 1048576 (bs.map (fusB tab)):=by
 refine ⟨by rw [List.length_map];exact h.1,fun b hb=>?_⟩
 obtain ⟨b0,hb0,rfl⟩:=List.mem_map.1 hb
 obtain ⟨h1,h2⟩:=h.2 b0 hb0
 have hl:(fusB tab b0).ops.length≤b0.ops.length:=by
  simp only [fusB,fusO,List.length_map]
  exact Qua tab _ _ 0 _ (Nat.le_refl _)
 refine ⟨by omega,fun o ho=>?_⟩
 obtain ⟨q,hq,rfl⟩:=List.mem_map.1 ho
 rw [QsP,Qnu]
 exact QvS tab _ _ 0 _ (Nat.le_refl _) h2 q hq
theorem QyR {bs:List Blk} (h:bC 1048576 bs):bC 1048576 (bs.map Qd7):=by
 refine ⟨by rw [List.length_map];exact h.1,fun b hb=>?_⟩
 obtain ⟨b0,hb0,rfl⟩:=List.mem_map.1 hb
 obtain ⟨h1,h2⟩:=h.2 b0 hb0
 refine ⟨by show (Qbw b0.ops).length≤_;rw [Qkh];exact h1,fun o ho=>?_⟩
 obtain ⟨q,hq,rfl⟩:=List.mem_map.1 ho
 have hq2:=h2 q hq
 unfold QkG
 split
 ·exact ⟨Nat.zero_le _,Nat.zero_le _,fun d hd=>by cases hd⟩
 ·unfold J2
  split
  ·exact hq2
  ·exact hq2
def mkX (t:List UInt8) (p:Bool):List Blk:=if p then (plB t).map Qd7 else plB t
def mcB (t:List UInt8) (p:Bool) (tab:Int):List Blk:=if plC t=0 then (mkX t p).map (fusB tab) else []
theorem QnU {t:List UInt8} (h:plC t=0):FwC (plB t):=by
 have hc:(Qy t).2=0:=by
  unfold plC at h
  split at h
  ·rename_i c;exact absurd h c
  ·rename_i c;simpa using c
 have hf:fits (fin0 (Qy t).1):=by
  unfold plC at h
  rw [if_neg (by simpa using hc)] at h
  split at h
  ·rename_i c;exact Qid.1 c
  ·cases h
 have eB:plB t=toBk (fin0 (Qy t).1):=by unfold plB;rw [if_pos h]
 rw [eB]
 obtain ⟨hw, -⟩:=Qih hc
 exact QzX hf (Qve rfl hw fun i _ _=>by have:=Qt9 (t:=t) i;exact ⟨⟨this.1,this.2.1⟩,this.2.2.1,this.2.2.2⟩)
theorem Qub {t:List UInt8} (h:plC t=0) (p:Bool):FOk (mkX t p):=by
 unfold mkX
 split
 ·exact (QnU h).peep
 ·exact (QnU h).fok
theorem QqW {t:List UInt8} (hl:t.length≤1048576) (p:Bool):bC 1048576 (mkX t p):=by
 unfold mkX
 split
 ·exact QyR (QnP hl)
 ·exact QnP hl
theorem Qz3 {t:List UInt8} (hl:t.length≤1048576) (p:Bool) (tab:Int):bC 1048576 (mcB t p tab):=by
 unfold mcB
 split
 ·exact Qz2 (QqW hl p)
 ·exact ⟨Nat.zero_le _,fun b hb=>by cases hb⟩
theorem QqX {x:AV} {xs z:List AV} {k:AV→AV→AH→Prop} (hx:JD x=some xs) (h:∀φ,σ φ=none→k (.rop xs 0) (.ptr φ 0 0 0) (σ.set φ ⟨0,z.length,[z]⟩)):abox x σ fun v1 σ=>new z σ fun v2 σ=>frz v1 σ fun f1 σ=>k f1 v2 σ:=by
 unfold abox;rw [hx]
 intro φ1 h1 φ2 h2
 rw [AH.set_none] at h2
 rw [AH.set_comm _ _ _ (Ne.symm h2.1)]
 exact QI (AH.set_none.2 ⟨Ne.symm h2.1,h1⟩) rfl (h φ2 h2.2)
section
variable [K:Knows QS]
theorem QnV {t:List UInt8} {s tb:Int} {p q:Bool} (hl:t.length≤1048576) (h0:0≤tb) (h1:tb≤15) (h:∀v B τ,cont B=mcB t p tb→NewB σ τ v B→R (.ret (.tup [v,iv (plC t)])) τ):acall TP Qeu [str (bs t),.agg (encF s tb p q)] σ R:=by
 refine Qju ?_
 unfold QfI x35;dsimp only [den,dE,di,tupL,lTup,dwat,Qe,List.map,Option.map,den0,den1,den2,den3,den4]
 refine UX rfl ?_
 refine Qmw hl fun v B τ hcB hN=>?_
 have y0:aext (.tup [v,iv (plC t)]) 0=some v:=rfl
 have y1:aext (.tup [v,iv (plC t)]) 1=some (iv (plC t)):=rfl
 simp only [y0,y1,RR]
 by_cases c:plC t=0
 case neg=>
  simp only [c,RR]
  exact Qa (h nilS [] τ (by unfold mcB;rw [if_neg c];rfl) (Qij hN.sub))
 simp only [c,RR]
 rw [c] at h
 refine UC (P:=fun z τ'=>∃v' B',z=(.rop (encF s tb p q) 0,v',())∧cont B'=mkX t p∧NewB σ τ' v' B') ?_ ?_
 ·rintro z τ' ⟨v',B',rfl,hcB',hN'⟩
  simp only [RR,RF]
  refine Ur (args':=[roBk (mkX t p),iv tb]) hN'.sub rfl (fun i hi=>?_) ?_
  ·match i,hi with
   |0,_=>have:=hN'.fz';rw [hcB'] at this;exact this
   |1,_=>exact .same _
  refine Qpv (QqW hl p) h0 h1 (Qub c p) fun v2 B2 τ2 hc2 hN2=>?_
  simp only [RR]
  exact Qa (h v2 B2 τ2 (by unfold mcB;rw [if_pos c];exact hc2) hN2)
 ·intro k hk
  simp only [RR,RF]
  cases p with
  |false=>
   simp only [RR]
   exact hk _ _ ⟨v,B,rfl,hcB,hN⟩
  |true=>
   simp only [RR]
   refine Ur (args':=[roBk (plB t)]) hN.sub rfl (fun i hi=>?_) ?_
   ·match i,hi with
    |0,_=>have:=hN.fz';rw [hcB] at this;exact this
   refine Qpx (QnP hl) (QnU c) fun v2 B2 τ2 hc2 hN2=>?_
   simp only [RR]
   exact hk _ _ ⟨v2,B2,rfl,hc2,hN2⟩
def mkc (t:List UInt8) (s tb:Int):Int:=if cfgF s tb=0 then plC t else cfgF s tb
def mkb (t:List UInt8) (s tb:Int) (p:Bool):List Blk:=if cfgF s tb=0 then mcB t p tb else []
theorem Qgi {t:List UInt8} {s tb:Int} {p q:Bool} (hl:t.length≤1048576) (h:∀v B τ,cont B=mkb t s tb p→NewB σ τ v B→R (.ret (.agg [iv (mkc t s tb),v])) τ):acall TP QbB [str (bs t),.agg (encF s tb p q)] σ R:=by
 refine Qjs ?_
 unfold QfG x14;dsimp only [den,dE,di,tupL,lTup,dwat,Qe,List.map,Option.map,den0,den1,den2,den3,den4]
 refine QqX rfl fun φ hφ=>?_
 simp only [Qs (cs:=encF s tb p q) (n:=4) rfl,RR]
 refine Qkq ?_
 unfold mkc mkb at h
 by_cases c:cfgF s tb=0
 case neg=>
  rw [if_neg c,if_neg c] at h
  have eb:bld [(.val (.int .i64 0)),(.val (.slice none 0 0))] [(0,1),(1,1)] [(0,iv (cfgF s tb))]=some (.agg [iv (cfgF s tb),nilS]):=rfl
  simp only [c,eb,RR]
  exact QbG hφ rfl rfl (one2 rfl rfl) (h nilS [] σ rfl (Qij (.refl σ)))
 rw [if_pos c,if_pos c] at h
 obtain ⟨-, -,h0,h1⟩:=Qr5 c
 simp only [c,Qs (cs:=encF s tb p q) (n:=4) rfl,RR]
 have hs1:AH.Sub σ (σ.set φ ⟨0,[(AV.val (.int .i64 0)),(AV.val (.slice none 0 0))].length,[[(AV.val (.int .i64 0)),(AV.val (.slice none 0 0))]]⟩):= .set (.refl σ) _ hφ
 have hF1:=AH.set_same σ φ (⟨0,2,[[(AV.val (.int .i64 0)),(AV.val (.slice none 0 0))]]⟩:Fam)
 refine QnV hl h0 h1 fun v B τ hcB hN=>?_
 have y0:aext (.tup [v,iv (plC t)]) 0=some v:=rfl
 have y1:aext (.tup [v,iv (plC t)]) 1=some (iv (plC t)):=rfl
 have eb:=QrI (n:=plC t) hN.own.1
 simp only [y0,y1,eb,RR]
 have hφB:φ∉Jd v B:=fun c=>by have:=hN.fr φ c;rw [AH.set_same] at this;cases this
 refine Qt6 (hN.sub _ _ hF1) rfl rfl (one2 rfl hN.one) (Qa ?_)
 exact h v B _ hcB ⟨hN.own.keep fun ψ hψ=>AH.set_ne' (by rintro rfl;exact hφB hψ),hN.nd,fun ψ hψ=>hs1.none (hN.fr ψ hψ),fun ψ G hG=>by
  rw [AH.set_ne' (by rintro rfl;rw [hφ] at hG;cases hG)]
  exact hN.sub _ _ (hs1 _ _ hG)⟩
end
theorem QsQ {bs:List Blk} (hb:bC 1048576 bs) (hF:FwC bs) (h:R (.ret (roBk (bs.map Qd7))) σ):acall TP QaA [roBk bs] σ R:=by
 refine Qjd (Qlf (σ:=σ) (R:=fun e τ=>∃v B,e= .ret v∧cont B=bs.map Qd7∧NewB σ τ v B) hb hF fun v B τ h1 h2=>⟨v,B,rfl,h1,h2⟩) ?_
 rintro e τ ⟨v,B,rfl,hc,hN⟩
 have:=hN.fz'
 rw [hc] at this
 exact ⟨_,rfl,_,σ,QaR hN.sub this,h⟩
theorem QsR {bs:List Blk} {tab:Int} (hb:bC 1048576 bs) (h0:0≤tab) (h1:tab≤15) (hF:FOk bs) (h:R (.ret (roBk (bs.map (fusB tab)))) σ):acall TP QaB [roBk bs,iv tab] σ R:=by
 refine Qjd (Qld (σ:=σ) (R:=fun e τ=>∃v B,e= .ret v∧cont B=bs.map (fusB tab)∧NewB σ τ v B) hb h0 h1 hF fun v B τ h1 h2=>⟨v,B,rfl,h1,h2⟩) ?_
 rintro e τ ⟨v,B,rfl,hc,hN⟩
 have:=hN.fz'
 rw [hc] at this
 exact ⟨_,rfl,_,σ,QaR hN.sub this,h⟩
theorem QoJ {t:List UInt8} {s tb:Int} {p q:Bool} (hl:t.length≤1048576) (h0:0≤tb) (h1:tb≤15) (h:R (.ret (.tup [roBk (mcB t p tb),iv (plC t)])) σ):acall TP Qfp [str (bs t),.rop (encF s tb p q) 0] σ R:=by
 refine QkJ ?_
 unfold Qg3 x33;dsimp only [den,dE,di,tupL,lTup,dwat,Qe,List.map,Option.map,den0,den1,den2,den3,den4]
 refine QnQ hl ?_
 have y0:aext (.tup [roBk (plB t),iv (plC t)]) 0=some (roBk (plB t)):=rfl
 have y1:aext (.tup [roBk (plB t),iv (plC t)]) 1=some (iv (plC t)):=rfl
 have a0:anil (.rop (encF s tb p q) 0)=some (.rop (encF s tb p q) 0):=rfl
 simp only [y0,y1,RR]
 by_cases c:plC t=0
 case neg=>
  have e:mcB t p tb=[]:=by unfold mcB;rw [if_neg c]
  rw [e] at h
  simp only [c,RR]
  refine QU (a':= .tup [roBk [],iv (plC t)]) (.refl _) (.tup rfl fun j hj=>?_) h
  match j,hj with
  |0,_=>exact .nil
  |1,_=>exact .same _
 have e:mcB t p tb=(mkX t p).map (fusB tb):=by unfold mcB;rw [if_pos c]
 rw [e,c] at h
 simp only [c,RR]
 refine UC (P:=fun z τ'=>σ=τ'∧z=(.rop (encF s tb p q) 0,roBk (mkX t p),())) ?_ ?_
 ·rintro z τ' ⟨rfl,rfl⟩
  simp only [a0,RR,RF]
  refine QsR (QqW hl p) h0 h1 (Qub c p) ?_
  simp only [RR]
  exact Qa h
 ·intro k hk
  simp only [a0,RR,RF]
  cases p with
  |false=>
   simp only [RR]
   exact hk _ _ ⟨rfl,rfl⟩
  |true=>
   simp only [RR]
   refine QsQ (QnP hl) (QnU c) ?_
   simp only [RR]
   exact hk _ _ ⟨rfl,rfl⟩
theorem QnW {t:List UInt8} {s tb:Int} {p q:Bool} (hl:t.length≤1048576) (h:R (.ret (.agg [iv (mkc t s tb),roBk (mkb t s tb p)])) σ):acall TP Qer [str (bs t),.agg (encF s tb p q)] σ R:=by
 refine Qjq ?_
 unfold QfE x12;dsimp only [den,dE,di,tupL,lTup,dwat,Qe,List.map,Option.map,den0,den1,den2,den3,den4]
 refine QqX rfl fun φ hφ=>?_
 refine QnT ?_
 unfold mkc mkb at h
 by_cases c:cfgF s tb=0
 case neg=>
  rw [if_neg c,if_neg c] at h
  have eb:bld [(.val (.int .i64 0)),(.val (.slice none 0 0))] [(0,1),(1,1)] [(0,iv (cfgF s tb))]=some (.agg [iv (cfgF s tb),nilS]):=rfl
  have hF1:=AH.set_same σ φ (⟨0,2,[[(AV.val (.int .i64 0)),(AV.val (.slice none 0 0))]]⟩:Fam)
  simp only [c,eb,RR]
  refine Qt6 hF1 rfl rfl (one2 rfl rfl) (Qvs ?_ (Fz.agg2 (.same _) .nil) h)
  rw [AH.set_set]
  exact .set (.refl σ) _ hφ
 rw [if_pos c,if_pos c] at h
 obtain ⟨-, -,h0,h1⟩:=Qr5 c
 simp only [c,RR]
 refine QoJ hl h0 h1 ?_
 have y0:aext (.tup [roBk (mcB t p tb),iv (plC t)]) 0=some (roBk (mcB t p tb)):=rfl
 have y1:aext (.tup [roBk (mcB t p tb),iv (plC t)]) 1=some (iv (plC t)):=rfl
 have eb:bld [(.val (.int .i64 0)),(.val (.slice none 0 0))] [(0,1),(1,1)] [(0,iv (plC t)),(1,roBk (mcB t p tb))]=some (.agg [iv (plC t),roBk (mcB t p tb)]):=rfl
 simp only [y0,y1,eb,RR]
 exact QbG hφ rfl rfl (one2 rfl rfl) h
theorem Qz4 {t:List UInt8} (hl:t.length≤1048576) (s tb:Int) (p:Bool):bC 1048576 (mkb t s tb p):=by
 unfold mkb
 split
 ·exact Qz3 hl p tb
 ·exact ⟨Nat.zero_le _,fun b hb=>by cases hb⟩
section
variable [K:Knows QS]
theorem Qgu {t:List UInt8} {s tb:Int} {p q:Bool} {R:AEnd→AH→Prop} (h:∀σ,R (.ret (bv true)) σ):acall TP UD [str (bs t),.agg (encF s tb p q)] ah0 R:=by
 have hret:∀σ,aret (bv true) σ R:=fun σ=>Qa (h σ)
 refine Qd0 ?_
 unfold Qbj x4;dsimp only [den,dE,di,tupL,lTup,dwat,Qe,List.map,Option.map,den0,den1,den2,den3,den4]
 refine UX rfl ?_
 simp only [Qo,RR]
 refine Jz (fun _=>hret _) (fun c=>?_)
 have hl:t.length≤1048576:=by have:=of_decide_eq_false c;omega
 have hU:=Qz4 hl s tb p
 have lF:∀τ,lodA 4 (.rop (encF s tb p q) 0) τ=some (.agg (encF s tb p q)):=fun _=>Qs (cs:=encF s tb p q) (n:=4) rfl
 try simp only [lF,RR]
 refine Qcx ?_
 try simp only [RR]
 refine QnW hl ?_
 refine Jn rfl rfl rfl (one2 rfl rfl) ?_
 try simp only [lF,RR]
 refine Qcx ?_
 try simp only [RR]
 refine Qgi hl fun v B τ1 hB hNB=>?_
 refine Jn rfl rfl rfl (one2 rfl hNB.one) ?_
 simp only [Qs (cs:=[_,_]) (n:=2) rfl,RR]
 have call:∀{τ:AH} {K:AEnd→AH→Prop},(∀v B τ',cont B=mkb t s tb p→NewB τ τ' v B→K (.ret (.agg [iv (mkc t s tb),v])) τ')→acall TP QbB [str (bs t),.agg (encF s tb p q)] τ K:=fun h=>Qgi hl h
 generalize mkc t s tb=C at*
 generalize mkb t s tb p=U at*
 have heq:∀(τ:AH) (v:AV) (B:List BI) (K:AEnd→AH→Prop),BlksH τ v B→cont B=U→K (.ret (bv true)) τ→acall TP Um [.agg [iv C,v],.agg [iv C,roBk U]] τ K:=fun τ v B K h1 h2 h3=>by
  have:=Qla (c:=C) (K:=K) h1 (h2▸hU) h3
  rwa [h2] at this
 refine heq _ _ _ _ hNB.own hB ?_
 simp only [Qs (cs:=[_,_]) (n:=2) rfl,RR]
 have hk2:=QvP hU
 have hl2:=QcM U 1
 refine Qgs hNB.own hNB.nd (by decide) (hB▸hk2) fun τ3 hB3 _=>?_
 simp only [Qs (cs:=[_,_]) (n:=2) rfl,RR]
 have hcm:cont (mkBk 1 B)=Jp 1 U:=by rw [QtD,hB]
 refine Qo5 hB3 hcm (by decide) hk2 ?_
 have g2:¬QC 1 U<0:=by omega
 simp only [g2,hB,JK,lF,RR]
 refine Qcx ?_
 try simp only [RR]
 refine call fun v' B' τ4 hB' hNB'=>?_
 refine Jn rfl rfl rfl (one2 rfl hNB'.one) ?_
 simp only [Qs (cs:=[_,_]) (n:=2) rfl,RR]
 refine heq _ _ _ _ hNB'.own hB' ?_
 simp only [Qs (cs:=[_,_]) (n:=2) rfl,RR]
 have hB4:BlksH τ4 v (mkBk 1 B):=(Kp.of_sub (F:=[]) hNB'.sub).blks hB3 fun _ _ c=>by cases c
 refine Qo5 hB4 hcm (by decide) hk2 ?_
 simp only [g2,JK,RR]
 exact hret _
theorem Qfg {x:ByteArray} {s tb:Int} {p q:Bool} {R:AEnd→AH→Prop} (h:∀σ,R (.ret (bv true)) σ):acall TP UD [str x,.agg (encF s tb p q)] ah0 R:=by
 have:=Qgu (t:=by8 x) (s:=s) (tb:=tb) (p:=p) (q:=q) h
 rwa [Qqh] at this
end
end Go.Proofs.YtggnjjalfnhiiaaGreatDoor.E
/- How an argument reads as a setting. -/
set_option maxRecDepth 100000
namespace Go.Proofs.YtggnjjalfnhiiaaGreatDoor.E
open Go Go.RowKit
attribute [local instance] lam0
theorem QyS {m:Nat} {cs:List AV} (h:Sh Tryz.prog (m+2) 33 cs):∃(s t:Int) (p q:Bool),cs=encF s t p q:=by
 obtain ⟨h1,h2⟩:=Qsg Tryz.underlying33 h
 rw [show Tryz.prog.cellsOf 33=4 from by decide+kernel] at h1
 obtain ⟨a,b,c,e,rfl⟩:∃a b c e,cs=[a,b,c,e]:=by match cs,h1 with|[a,b,c,e],_=>exact ⟨_,_,_,_,rfl⟩
 have g0:Sh Tryz.prog (m+1) 2 (([a,b,c,e].drop 0).take (Tryz.prog.cellsOf 2)):=h2 _ (.head _)
 rw [show Tryz.prog.cellsOf 2=1 from by decide+kernel] at g0
 have k0:Sh Tryz.prog (m+1) 2 [a]:=g0
 obtain ⟨n0,e0,_⟩:=Qrw Tryz.underlying2 k0
 cases e0
 have g1:Sh Tryz.prog (m+1) 2 (([_,b,c,e].drop 1).take (Tryz.prog.cellsOf 2)):=h2 _ (.tail _ (.head _))
 rw [show Tryz.prog.cellsOf 2=1 from by decide+kernel] at g1
 have k1:Sh Tryz.prog (m+1) 2 [b]:=g1
 obtain ⟨n1,e1,_⟩:=Qrw Tryz.underlying2 k1
 cases e1
 have g2:Sh Tryz.prog (m+1) 4 (([_,_,c,e].drop 2).take (Tryz.prog.cellsOf 4)):=h2 _ (.tail _ (.tail _ (.head _)))
 rw [show Tryz.prog.cellsOf 4=1 from by decide+kernel] at g2
 have k2:Sh Tryz.prog (m+1) 4 [c]:=g2
 obtain ⟨p,e2⟩:=Qqb Tryz.underlying4 k2
 cases e2
 have g3:Sh Tryz.prog (m+1) 4 (([_,_,_,e].drop 3).take (Tryz.prog.cellsOf 4)):=h2 _ (.tail _ (.tail _ (.tail _ (.head _))))
 rw [show Tryz.prog.cellsOf 4=1 from by decide+kernel] at g3
 have k3:Sh Tryz.prog (m+1) 4 [e]:=g3
 obtain ⟨q,e3⟩:=Qqb Tryz.underlying4 k3
 cases e3
 exact ⟨n0,n1,p,q,rfl⟩
end Go.Proofs.YtggnjjalfnhiiaaGreatDoor.E

import Derived.Test.YtggnjjalfnhiiaaGreatDoorPG4
/- The engine, part 20: operations in another order. -/
set_option linter.unusedSectionVars false
namespace Go.Proofs.YtggnjjalfnhiiaaGreatDoor.E
open Go Go.RowKit
section
variable [Lam]
theorem U8 {ev ev':Operand→AV} (ps:List (Nat × Operand)) (h:∀x∈ps.map (·.2),ev x=ev' x):(ps.map fun p=>(p.1,ev p.2))=ps.map fun p=>(p.1,ev' p.2):=
 List.map_congr_left fun p hp=>by rw[h p.2 (List.mem_map.mpr ⟨p,hp,rfl⟩)]
theorem QnE {T:Tab} {o:Op} {ev ev':Operand→AV} {σ:AH} (h:∀x∈o.operands,ev x=ev' x):bval T o ev σ=bval T o ev' σ:=by
 cases o<;>simp only[Op.operands] at h<;>simp only[bval]
 case build t ps=>rw[U8 ps.toList fun x hx=>h x (by simpa using hx)]
 case call c=>
  cases hc:c.callee with
  |builtin b=>
   simp only[];have hh:∀x∈c.args.toList,ev x=ev' x:=fun x hx=>h x (by simp[Call.operands,hc];simpa using hx)
   split<;>(rename_i e;first|rfl|(rw[e] at hh;simp at hh;simp only[hh]))
  |_=>rfl
 case slice t x lo hi mx=>cases lo<;>cases hi<;>cases mx<;>simp_all
 all_goals (first|rfl|(simp_all;done))
theorem Qus {P:Program} {T:Tab} {o:Op} {ev ev':Operand→AV} {σ:AH} {K:AEnd→AH→Prop} (h:∀x∈o.operands,ev x=ev' x):bop P T o ev σ K=bop P T o ev' σ K:=by
 cases o<;>simp only[Op.operands] at h<;>simp only[bop,aop]
 case build t ps=>rw[U8 ps.toList fun x hx=>h x (by simpa using hx)]
 case buildSlice t n ps=>rw[U8 ps.toList fun x hx=>h x (by simpa using hx)]
 case makeFunc fn fs cs=>
  rw[List.map_congr_left fun x hx=>h x (by simp;exact .inl (by simpa using hx)),List.map_congr_left (l:=cs.toList) fun x hx=>h x (by simp;exact .inr (by simpa using hx))]
 case call c=>
  cases hc:c.callee with
  |builtin b=>
   simp only[];have hh:∀x∈c.args.toList,ev x=ev' x:=fun x hx=>h x (by simp[Call.operands,hc];simpa using hx)
   split<;>(rename_i e;first|rfl|(rw[e] at hh;simp at hh;simp only[hh]))
  |value f=>
   simp only[];rw[h f (by simp[Call.operands,hc]),List.map_congr_left fun x hx=>h x (by simp[Call.operands,hc];exact .inr (by simpa using hx))]
  |invoke r m=>rfl
 case slice t x lo hi mx=>cases lo<;>cases hi<;>cases mx<;>simp_all
 all_goals (first|rfl|(simp_all;done))
theorem Qsp {T:Tab} {o:Op} {ev ev':Operand→AV} {σ:AH} (h:∀x∈o.operands,ev x=ev' x):JL T o ev σ=JL T o ev' σ:=by
 unfold JL;split
 ·rename_i t n ps;simp only[Op.operands] at h;rw[U8 ps.toList fun x hx=>h x (by simpa using hx)]
 ·rename_i s d x;simp only[Op.operands] at h;rw[h x (by simp),show bval T (.convert s d x) ev σ=bval T (.convert s d x) ev' σ from QnE h]
 ·exact QnE h
theorem QpZ {t:List AV} {dst:Option Tmp} {v:AV} {x:Operand} (h:∀d,dst=some d→x≠ .tmp d):QB (aput t dst v) x=QB t x:=by
 cases dst with
 |none=>rfl
 |some d=>
  cases x with
  |tmp s=>
   have hne:d≠s:=fun e=>h d rfl (e▸rfl)
   simp[QB,aput,List.getD,List.getElem?_set_ne hne]
  |_=>rfl
theorem QbX (t:List AV) {x y:Option Tmp} (v u:AV) (h:∀d,x=some d→y≠some d):aput (aput t x v) y u=aput (aput t y u) x v:=by
 cases x with
 |none=>rfl
 |some d=>
  cases y with
  |none=>rfl
  |some e=>
   have hne:d≠e:=fun he=>h d rfl (he▸rfl)
   simp only[aput];exact List.set_comm v u hne
section
variable {T:Tab} {ops:Array Oper} {o:Oper} {t:List AV} {dst:Option Tmp} {v:AV}
theorem QiV {d:Tmp} (h:d∉o.looksAt ops):∀x∈o.op.operands,x≠ .tmp d:=by
 intro x hx e;subst e;exact h (List.mem_append_left _ (List.mem_filterMap.2 ⟨.tmp d,by simpa using hx,rfl⟩))
theorem Qut {σ:AH} (h:∀d,dst=some d→d∉o.looksAt ops):JL T o.op (QB (aput t dst v)) σ=JL T o.op (QB t) σ:=
 Qsp fun x hx=>QpZ fun d hd=>QiV (h d hd) x hx
theorem Qo4 {P:Program} {σ:AH} {K:AEnd→AH→Prop} (h:∀d,dst=some d→d∉o.looksAt ops):bop P T o.op (QB (aput t dst v)) σ K=bop P T o.op (QB t) σ K:=
 Qus fun x hx=>QpZ fun d hd=>QiV (h d hd) x hx
end
def gdec (ops:Array Oper) (o:Oper) (t:List AV):Option Bool:=match o.guard with
 |none=>some true
 |some (j,want)=>match Qcf ops j with
  |some s=>match t.getD s .any with
   | .val (.bool b)=>some (b==want)
   | .tup []=>match QbW ops j with|true=>some false|false=>none
   |_=>none
  |none=>none
theorem bgd_iff {ops:Array Oper} {o:Oper} {t:List AV} {run skip:List AV→Prop}:bgd ops o t run skip↔(gdec ops o t=some true∧run t)∨(gdec ops o t=some false∧skip t):=by
 unfold bgd gdec;cases hg:o.guard with
 |none=>simp
 |some gw=>
  obtain ⟨j,want⟩:=gw;simp only[];cases hs:Qcf ops j with
  |none=>simp
  |some s=>
   simp only[];generalize hx:t.getD s .any=x;unfold gpick;split
   ·rw[Q9 hx];cases want<;>simp
   ·rw[Q9 hx];cases want<;>simp
   ·rw[Q9 hx];cases QbW ops j<;>simp
   ·rename_i h1 h2 h3;split
    ·rename_i b;cases b
     ·exact absurd rfl h2
     ·exact absurd rfl h1
    ·exact absurd rfl h3
    ·simp
theorem gvo_gdec {ops:Array Oper} {o:Oper} {t:List AV} {x:Option AV}:gvo ops o t x=match gdec ops o t with|some true=>x|some false=>some (.tup [])|none=>none:=by
 unfold gvo gdec;cases hg:o.guard with
 |none=>rfl
 |some gw=>
  obtain ⟨j,want⟩:=gw;simp only[];cases hs:Qcf ops j with
  |none=>rfl
  |some s=>
   simp only[];generalize hx:t.getD s .any=y;unfold gval;split
   ·cases want<;>rfl
   ·cases want<;>rfl
   ·cases QbW ops j<;>rfl
   ·rename_i h1 h2 h3;cases y with
    |val v=>cases v with
     |bool b=>
      cases b
      ·exact absurd rfl h2
      ·exact absurd rfl h1
     |_=>rfl
    |tup l=>cases l with
     |nil=>exact absurd rfl h3
     |cons=>rfl
    |_=>rfl
theorem Qms {ops:Array Oper} {o:Oper} {t:List AV} {dst:Option Tmp} {v:AV} (h:∀d,dst=some d→d∉o.looksAt ops):gdec ops o (aput t dst v)=gdec ops o t:=by
 cases dst with
 |none=>rfl
 |some d=>
  unfold gdec;cases hg:o.guard with
  |none=>rfl
  |some gw=>
   obtain ⟨j,want⟩:=gw;simp only[];cases hs:Qcf ops j with
   |none=>rfl
   |some s=>
    have hne:d≠s:=by
     intro e;subst e;refine h d rfl (List.mem_append_right _ ?_);have:(ops[j]?).bind (·.dst)=some d:=hs
     simp[hg,this]
    have:(aput t (some d) v).getD s .any=t.getD s .any:=by simp[aput,List.getD,List.getElem?_set_ne hne]
    simp only[this]
theorem QbJ {P:Program} {T:Tab} {o:Op} {ev:Operand→AV} {σ:AH} {K K':AEnd→AH→Prop} (hl:Qbi o=false) (hk:∀e σ',K e σ'→K' e σ') (h:bop P T o ev σ K):bop P T o ev σ K':=by
 have ogm:∀{x:Option AV},og x (fun v=>K (.ret v) σ)→og x (fun v=>K' (.ret v) σ):=fun h=>JR (fun _ h=>h) (fun _=>hk _ _) h
 cases o<;>first|(cases hl;done)|skip
 case alloc t=>
  simp only[bop] at h ⊢;split at h
  ·exact fun φ hφ=>hk _ _ (h φ hφ)
  ·exact h
 case box e x=>
  simp only[bop,abox] at h ⊢;split at h
  ·exact fun φ hφ=>hk _ _ (h φ hφ)
  ·exact h
 case buildSlice t n ps=>
  simp only[bop] at h ⊢;split at h
  ·unfold bsl at h ⊢;split at h
   ·refine ⟨h.1,?_⟩;have h2:=h.2;split at h2
    ·rename_i c;rw[if_pos c];exact hk _ _ h2
    ·rename_i c;rw[if_neg c];exact fun φ hφ=>hk _ _ (h2 φ hφ)
   ·exact h
  ·exact h
 case store t a x=>
  simp only[bop] at h ⊢;split at h
  ·unfold sto at h ⊢;split at h
   ·obtain ⟨h1,h2,F,h3,h4,h5,h6,h7⟩:=h;exact ⟨h1,h2,F,h3,h4,h5,h6,hk _ _ h7⟩
   ·exact h
  ·exact h
 case makeInterface t x=>exact ogm h
 case makeFunc fn fs cs=>exact hk _ _ h
 case typeAssert x xt t ok=>exact ogm h
 case panic x=>
  simp only[bop,aop,QnB] at h ⊢;split at h
  ·exact hk _ _ h
  ·exact h
 case makeSlice t l c=>
  simp only[bop,aop,Qc3] at h ⊢;split at h
  ·split at h
   ·split at h
    ·obtain ⟨h1,h2,h3,h4,h5⟩:=h;exact ⟨h1,h2,h3,h4,fun φ hφ=>hk _ _ (h5 φ hφ)⟩
    ·exact h
   ·exact h
  ·exact h
 case call c=>
  simp only[bop] at h ⊢;split at h
  ·unfold Uo at h ⊢;split at h
   ·exact acall.mono h hk
   ·exact ayield.mono h hk
   ·exact h
  ·split at h
   ·rename_i hc _ _ hx;split at h
    ·split at h<;>first|exact ogm h|exact h
    ·exact h
   ·split at h
    ·unfold app at h ⊢;split at h
     ·obtain ⟨g,h⟩:=h;refine ⟨g,?_⟩;split at h
      ·split at h
       ·obtain ⟨h1,h2,h3,h4,h5,h6⟩:=h;exact ⟨h1,h2,h3,h4,h5,hk _ _ h6⟩
       ·exact h
      ·exact ⟨h.1,fun e=>hk _ _ (h.2.1 e),fun e φ hφ=>hk _ _ (h.2.2 e φ hφ)⟩
      ·exact ⟨h.1,fun e=>hk _ _ (h.2.1 e),fun e φ hφ=>hk _ _ (h.2.2 e φ hφ)⟩
      ·exact h
     ·exact h
    ·exact h
   ·exact ogm h
   ·exact ogm h
   ·exact ogm h
   ·exact h
  ·exact h
 all_goals exact h.elim
def bops (P:Program) (T:Tab) (ops:Array Oper) (ms:List (Nat × Nat)):Nat→List Oper→List AV→AH→(List AV→AH→Prop)→(AV→List AV→AH→Prop)→Prop
 |_,[],t,σ,K,_=>K t σ
 |i,o::rest,t,σ,K,Kp=>match Qbi o.op,o.guard with
  |true,some _=>og (gvo ops o (fgm ms i t) (bval T o.op (QB (fgm ms i t)) σ)) fun v=>bops P T ops ms (i+1) rest (aput (fgm ms i t) o.dst v) σ K Kp
  |_,_=>bgd ops o (fgm ms i t)
   (fun t=>bop P T o.op (QB t) σ (onr (fun v σ'=>bops P T ops ms (i+1) rest (aput t o.dst v) σ' K Kp) (fun v σ'=>Kp v t σ')))
   (fun t=>bops P T ops ms (i+1) rest (aput t o.dst (.tup [])) σ K Kp)
theorem Qp0 {P:Program} {T:Tab} {ops:Array Oper} {ms:List (Nat × Nat)} {i:Nat} {o:Oper} {rest:List Oper} {t:List AV} {σ:AH} {K:List AV→AH→Prop} {Kp:AV→List AV→AH→Prop} (h:bops P T ops ms i (o::rest) t σ K Kp):
  bgd ops o (fgm ms i t)
   (fun t=>bop P T o.op (QB t) σ (onr (fun v σ'=>bops P T ops ms (i+1) rest (aput t o.dst v) σ' K Kp) (fun v σ'=>Kp v t σ')))
   (fun t=>bops P T ops ms (i+1) rest (aput t o.dst (.tup [])) σ K Kp):=by
 simp only[bops] at h;split at h
 ·obtain ⟨v,hv,hk⟩:=Ud h;rw[gvo_gdec] at hv;rw[bgd_iff];split at hv
  ·rename_i hg;exact .inl ⟨hg,Qev hv hk⟩
  ·rename_i hg;obtain rfl:=Option.some.inj hv;exact .inr ⟨hg,hk⟩
  ·cases hv
 ·exact h
theorem QsK {P:Program} {T:Tab} (hT:TabOk P T) {ops:Array Oper} (ms:List (Nat × Nat)) (rest:List Oper):∀(i:Nat) (t:List AV) (σ:AH) (K:List AV→AH→Prop) (Kp:AV→List AV→AH→Prop),bops P T ops ms i rest t σ K Kp→
  ∀(D:List Deferred) r m κ w (a:Act),Rel κ σ w→EnvR κ t a.tmps→a.defers=D→∀(Q:Exit→Act→World→Prop),
   (∀κ' t' σ' (a':Act) w',K t' σ'→Stp κ σ w κ' σ' w'→EnvR κ' t' a'.tmps→a'.defers=D→Q .normal a' w')→
   (∀κ' v u t' σ' (a':Act) w',Kp v t' σ'→Stp κ σ w κ' σ' w'→VR κ' v u→EnvR κ' t' a'.tmps→a'.defers=D→Q (.panic [{v:=u,recovered:=false}]) a' w')→
   wpListIn (FR r) m P ops Q rest a w:=by
 induction rest with
 |nil=>
  intro i t σ K Kp h D r m κ w a hr he hd Q h1 _;exact h1 κ t σ a w h (.refl hr) he hd
 |cons o rest ih=>
  intro i t σ K Kp h D r m κ w a hr he hd Q h1 h2;have he:=he.fgm ms i;unfold wpListIn;have h:=Qp0 h;generalize fgm ms i t=t at h he;rcases QnD he h with ⟨hw,h⟩|⟨hw,h⟩
  ·rw[if_pos hw];refine QaS hT (Qci h) r m κ w a hr he _ _ ?_ ?_
   ·intro κ' x v σ' w' hk hs hv;refine ih (i+1) (aput t o.dst x) σ' K Kp hk D r m κ' w' (a.put o.dst v) hs.rel ((he.mono hs.ext).put o.dst hv) (by rw[Ur,hd]) Q ?_ ?_
    ·intro κ2 t2 σ2 a2 w2 g1 g2 g3 g4;exact h1 κ2 t2 σ2 a2 w2 g1 (hs.trans g2) g3 g4
    ·intro κ2 v2 u2 t2 σ2 a2 w2 g1 g2 g3 g4 g5;exact h2 κ2 v2 u2 t2 σ2 a2 w2 g1 (hs.trans g2) g3 g4 g5
   ·intro κ' x v σ' w' hk hs hv;exact h2 κ' x v t σ' a w' hk hs hv (he.mono hs.ext) hd
  ·rw[if_neg (by rw[hw];decide)];exact ⟨fun _ _=>trivial,ih (i+1) (aput t o.dst (.tup [])) σ K Kp h D r m κ w (a.put o.dst undef) hr (he.put o.dst (QgW κ)) (by rw[Ur,hd]) Q h1 h2⟩
end
section
variable [Lam]
theorem QjT {P:Program} {T:Tab} (hT:TabOk P T) {o:Oper} {t:List AV} {σ:AH} {K:AEnd→AH→Prop} {v:AV} (h:JL T o.op (QB t) σ=some v) (hk:K (.ret v) σ):sop P o t σ K:=by
 unfold JL at h;split at h
 ·rename_i ty n ps ho;split at h
  case h_2=>cases h
  rename_i te hte;unfold bslR at h;split at h
  case h_2=>cases h
  rename_i es hes;split at h
  case isFalse=>cases h
  rename_i hc;obtain rfl:=Option.some.inj h;by_cases hn0:n=0
  ·rw[if_pos hn0] at hk;have hb:bop P T o.op (QB t) σ K:=by
    rw[ho];simp only[bop,hte];unfold bsl;rw[hes];exact ⟨hc.1,by rw[if_pos hn0];exact hk⟩
   intro r m κ w a hr he next Qx h1 h2
   exact QaS hT (Qci hb) r m κ w a hr he next Qx h1 h2
  rw[if_neg hn0] at hk;have hb:bop P T o.op (QB t) σ (fun e σ'=>∃φ,e= .ret (.own φ 0 0 n)∧σ φ=none∧σ'=σ.set φ ⟨0,te.size,es⟩):=by
   rw[ho];simp only[bop,hte];unfold bsl;rw[hes];exact ⟨hc.1,by rw[if_neg hn0];exact fun φ hφ=>⟨φ,rfl,hφ,rfl⟩⟩
  intro r m κ w a hr he next Qx h1 h2
  refine QaS hT (Qci hb) r m κ w a hr he next Qx ?_ ?_
  ·rintro κ' x u σ' w' ⟨φ,hx,hφ,rfl⟩ hs hv;cases hx;have hlen:es.length=n:=by
    have:∀(ps:List (Nat × AV)) (es es':List (List AV)),JD te.size es ps=some es'→es'.length=es.length:=by
     intro ps
     induction ps with
     |nil=>intro es es' h;obtain rfl:=Option.some.inj h;rfl
     |cons p ps ih=>
      intro es es' h;unfold JD at h;split at h
      ·split at h
       ·have:=ih _ _ h;simpa using this
       ·cases h
      ·cases h
    have:=this _ _ _ hes;simpa using this
   have hfz:Fz σ (σ.set φ ⟨0,te.size,es⟩) (.own φ 0 0 n) (.ro es):=by
    refine .own (AH.set_same ..) hφ rfl (by simp[hlen]) hlen (fun i hi=>?_) (fun i j hi hj=>?_)
    ·have hi:i<es.length:=by omega
     have:es.getD i []=es[i]:=by simp[List.getD,hi]
     rw[this];exact hc.2 _ (List.getElem_mem hi)
    ·rw[Nat.zero_add];exact .same _
   obtain ⟨κ2,s2,v2⟩:=QaT (AH.Sub.set (.refl σ) _ hφ) hfz κ' w' u hs.rel hv;exact h1 κ2 _ u σ w' hk (hs.trans s2) v2
  ·rintro κ' x u σ' w' ⟨φ,hx,_⟩ _ _;cases hx
 ·rename_i s d x ho;split at h
  ·rename_i hb;have:bop P T o.op (QB t) σ K:=by
    rw[ho];simp only[bop,aop];unfold b2s at h;split at h
    case h_2=>cases h
    rename_i es hx;obtain ⟨bs,hbs,rfl⟩:=Option.map_eq_some_iff.mp h;unfold QgX at hb;split at hb
    case h_2=>cases hb
    rename_i ts td h1 h2;split at hb
    case h_2=>cases hb
    rename_i e h3 h4;split at hb
    case h_2=>cases hb
    rename_i te h5;split at hb
    case h_2=>cases hb
    rename_i h6;unfold Qd4;simp only[h1,h2,h3,h4,hx,QL,h5,h6,hbs];exact ⟨Nat.eq_of_beq_eq_true hb,(fun s e=>(by cases e)),hk⟩
   exact QaS hT (Qci this)
  ·exact QaS hT (Qci (Qev (o:=o.op) (by rw[ho];exact h) hk))
 ·exact QaS hT (Qci (Qev h hk))
def wat1 (T:Tab) (ops:Array Oper) (x:Nat) (t:List AV) (σ:AH):Prop:=match ops[x]? with
 |some o=>match o.dst with
  |some d=>gvo ops o t (JL T o.op (QB t) σ)=some (t.getD d .any)
  |none=>False
 |none=>False
def wat (T:Tab) (ops:Array Oper):List Nat→List AV→AH→Prop
 |[],_,_=>True
 |x::r,t,σ=>wat1 T ops x t σ∧wat T ops r t σ
theorem Qk7 {T:Tab} {ops:Array Oper} {t:List AV} {σ:AH} (l:List Nat):wat T ops l t σ↔∀x∈l,wat1 T ops x t σ:=by
 induction l with
 |nil=>simp[wat]
 |cons x l ih=>simp[wat,ih]
def Qaj (ops:Array Oper) (x:Nat):Bool:=match ops[x]? with|some o=>Qc4 o.op|none=>false
def Qo5 (o:Op):Bool:=match o with| .alloc _=>true|_=>false
def Qd6 (ops:Array Oper) (i:Nat):Bool:=match ops[i]? with|some o=>Qo5 o.op|none=>false
def Qo6 (o:Op):Bool:=match o with
 | .call c=>match c.callee with| .value _=>true|_=>false
 |_=>false
def wl (ops:Array Oper) (ancs:List Nat) (dn:List Nat) (i:Nat):List Nat:=dn.filter fun x=>Qaj ops x&& !(ancs.getD i 0).testBit x&& !Qd6 ops i
def cw (P:Program) (T:Tab) (ops:Array Oper) (ancs:List Nat):List Nat→List Nat→List AV→AH→(List AV→AH→Prop)→(AV→AH→Prop)→Prop
 |[],_,t,σ,K,_=>K t σ
 |i::l,dn,t,σ,K,Kp=>match ops[i]? with
  |none=>False
  |some o=>match Jl o.op with
   |true=>og (gvo ops o t (JL T o.op (QB t) σ)) fun v=>cw P T ops ancs l (i::dn) (aput t o.dst v) σ K Kp
   |false=>bgd ops o t
    (fun t=>bop P T o.op (QB t) σ (onr (fun v σ'=>wat T ops (wl ops ancs dn i) (aput t o.dst v) σ'∧cw P T ops ancs l (i::dn) (aput t o.dst v) σ' K Kp) (fun v σ'=>Kp v σ')))
    (fun t=>cw P T ops ancs l (i::dn) (aput t o.dst (.tup [])) σ K Kp)
def sv (T:Tab) (ops:Array Oper) (o:Oper) (t:List AV) (σ:AH):Option AV:=match gdec ops o t with
 |some true=>JL T o.op (QB t) σ
 |some false=>some (.tup [])
 |none=>none
section
variable {P:Program} {T:Tab} {ops:Array Oper} {ancs:List Nat} {t:List AV} {σ:AH} {K:List AV→AH→Prop} {Kp:AV→AH→Prop}
theorem Qew {o:Oper}:sv T ops o t σ=gvo ops o t (JL T o.op (QB t) σ):=gvo_gdec.symm
theorem J9 {i:Nat} {o:Oper} {l dn:List Nat} (hi:ops[i]? =some o) (hs:Jl o.op=true):
  cw P T ops ancs (i::l) dn t σ K Kp↔∃v,sv T ops o t σ=some v∧cw P T ops ancs l (i::dn) (aput t o.dst v) σ K Kp:=by
 simp only[cw,hi,hs,←Qew];constructor
 ·intro h;exact Ud h
 ·rintro ⟨v,h1,h2⟩;rw[h1];exact h2
theorem QbY {i:Nat} {o:Oper} {l dn:List Nat} (hi:ops[i]? =some o) (hs:Jl o.op=false):
  cw P T ops ancs (i::l) dn t σ K Kp↔
   (gdec ops o t=some true∧bop P T o.op (QB t) σ (onr (fun v σ'=>wat T ops (wl ops ancs dn i) (aput t o.dst v) σ'∧cw P T ops ancs l (i::dn) (aput t o.dst v) σ' K Kp) (fun v σ'=>Kp v σ')))∨
   (gdec ops o t=some false∧cw P T ops ancs l (i::dn) (aput t o.dst (.tup [])) σ K Kp):=by
 simp only[cw,hi,hs,bgd_iff]
theorem U9 {k k':AV→AH→Prop} {p p':AV→AH→Prop} (h:∀v σ,k v σ→k' v σ) (h':∀v σ,p v σ→p' v σ):∀e σ,onr k p e σ→onr k' p' e σ:=by
 intro e σ he;cases e
 ·exact h _ _ he
 ·exact h' _ _ he
theorem Qrl {i:Nat} {l l' dn:List Nat} (h:∀t σ,cw P T ops ancs l (i::dn) t σ K Kp→cw P T ops ancs l' (i::dn) t σ K Kp) (k:cw P T ops ancs (i::l) dn t σ K Kp):cw P T ops ancs (i::l') dn t σ K Kp:=by
 cases hi:ops[i]? with
 |none=>simp only[cw,hi] at k
 |some o=>
  cases hs:Jl o.op with
  |true=>
   rw[J9 hi hs] at k ⊢;obtain ⟨v,h1,h2⟩:=k;exact ⟨v,h1,h _ _ h2⟩
  |false=>
   rw[QbY hi hs] at k ⊢;rcases k with ⟨h1,h2⟩|⟨h1,h2⟩
   ·exact .inl ⟨h1,QbJ (UF hs) (U9 (fun v σ g=>⟨g.1,h _ _ g.2⟩) (fun _ _ g=>g)) h2⟩
   ·exact .inr ⟨h1,h _ _ h2⟩
theorem Qk8 (l:List Nat):∀(dn dn':List Nat) (t:List AV) (σ:AH),(∀x,x∈dn'→x∈dn)→cw P T ops ancs l dn t σ K Kp→cw P T ops ancs l dn' t σ K Kp:=by
 induction l with
 |nil=>intro dn dn' t σ _ h;exact h
 |cons i l ih=>
  intro dn dn' t σ hd k;have hd':∀x,x∈i::dn'→x∈i::dn:=fun x hx=>by
   rcases List.mem_cons.mp hx with rfl|hx
   ·exact List.mem_cons_self
   ·exact List.mem_cons_of_mem _ (hd x hx)
  cases hi:ops[i]? with
  |none=>simp only[cw,hi] at k
  |some o=>
   cases hs:Jl o.op with
   |true=>
    rw[J9 hi hs] at k ⊢;obtain ⟨v,h1,h2⟩:=k;exact ⟨v,h1,ih _ _ _ _ hd' h2⟩
   |false=>
    rw[QbY hi hs] at k ⊢;rcases k with ⟨h1,h2⟩|⟨h1,h2⟩
    ·refine .inl ⟨h1,QbJ (UF hs) (U9 (fun v σ g=>⟨?_,ih _ _ _ _ hd' g.2⟩) (fun _ _ g=>g)) h2⟩;rw[Qk7] at g ⊢;intro x hx;obtain ⟨a,b⟩:=List.mem_filter.mp hx;exact g.1 x (List.mem_filter.mpr ⟨hd x a,b⟩)
    ·exact .inr ⟨h1,ih _ _ _ _ hd' h2⟩
def QgY (ops:Array Oper) (dst:Option Tmp) (o:Oper):Prop:=∀d,dst=some d→d∉o.looksAt ops
theorem Qcj {o:Oper} {dst:Option Tmp} {v:AV} (h:QgY ops dst o):sv T ops o (aput t dst v) σ=sv T ops o t σ:=by
 unfold sv;rw[Qms h];split<;>first|rfl|exact Qut h
theorem QvN {o:Oper} (hr:Qc4 o.op=false) (σ':AH):sv T ops o t σ=sv T ops o t σ':=by
 unfold sv;split<;>first|rfl|exact Ql7 hr _ _ _
theorem QvO {x:Nat} {o:Oper} {dst:Option Tmp} {v:AV} (hx:ops[x]? =some o) (h:QgY ops dst o) (hd:∀d,dst=some d→o.dst≠some d):
  wat1 T ops x (aput t dst v) σ→wat1 T ops x t σ:=by
 unfold wat1;simp only[hx];split
 ·rename_i d hod;rw[←Qew,←Qew,Qcj h];intro h2;rw[h2];cases dst with
  |none=>rfl
  |some e=>
   have hne:e≠d:=by rintro rfl;exact hd e rfl hod
   simp[aput,List.getD,List.getElem?_set_ne hne]
 ·exact id
theorem QqA (t t':List AV) (d:Nat) (v:AV) (hl:t'.length=t.length):t'.set d ((t.set d v).getD d .any)=t'.set d v:=by
 by_cases h:d<t.length
 ·rw[show (t.set d v).getD d .any=v by simp[List.getD,h]]
 ·rw[List.set_eq_of_length_le (by omega),List.set_eq_of_length_le (by omega)]
def QgZ (ops:Array Oper) (x y:Oper):Bool:=match x.dst with
 |some d=> !(y.looksAt ops).contains d&&y.dst !=some d
 |none=>true
theorem Ql8 {ops:Array Oper} {x y:Oper} (h:QgZ ops x y=true):QgY ops x.dst y∧∀d,x.dst=some d→y.dst≠some d:=by
 refine ⟨fun d hd=>?_,fun d hd=>?_⟩<;>simp[QgZ,hd] at h
 ·exact h.1
 ·exact h.2
theorem QxN {c i:Nat} {oc oi:Oper} {l dn:List Nat} (hc:ops[c]? =some oc) (hi:ops[i]? =some oi) (hs:Jl oc.op=true) (hap:oc.apart ops oi=true)
  (hself:Qaj ops c=true→QgY ops oc.dst oc) (hanc:(ancs.getD i 0).testBit c=false) (hnew:Qd6 ops i=false) (hdn:∀y∈dn,∀oy,ops[y]? =some oy→Qaj ops y=true→QgZ ops oc oy=true)
  (k:cw P T ops ancs (c::i::l) dn t σ K Kp):cw P T ops ancs (i::c::l) dn t σ K Kp:=by
 obtain ⟨a1,a2,a3⟩:=Oper.apart_spec hap;have a2':∀d,oi.dst=some d→oc.dst≠some d:=fun d h e=>a2 d e h
 have hperm:∀x,x∈c::i::dn→x∈i::c::dn:=by
  intro x hx;simp only[List.mem_cons] at hx ⊢;rcases hx with h|h|h<;>simp[h]
 rw[J9 hc hs] at k;obtain ⟨v,hv,k⟩:=k;cases hsi:Jl oi.op with
 |true=>
  rw[J9 hi hsi] at k ⊢;obtain ⟨u,hu,k⟩:=k;rw[Qcj a1] at hu;refine ⟨u,hu,?_⟩;rw[J9 hc hs];refine ⟨v,by rw[Qcj a3];exact hv,?_⟩;rw[QbX t u v a2'];exact Qk8 _ _ _ _ _ hperm k
 |false=>
  rw[QbY hi hsi] at k ⊢;rw[Qms a1] at k;rcases k with ⟨g,k⟩|⟨g,k⟩
  ·refine .inl ⟨g,?_⟩;rw[Qo4 a1] at k;refine QbJ (UF hsi) (U9 (fun r σ'=>?_) (fun _ _ g=>g)) k;rintro ⟨hw,hk⟩;rw[Qk7] at hw;have hcomm:aput (aput t oc.dst v) oi.dst r=aput (aput t oi.dst r) oc.dst v:=QbX t v r a2;rw[hcomm] at hw hk;refine ⟨?_,?_⟩
   ·rw[Qk7];intro y hy;obtain ⟨y1,y2⟩:=List.mem_filter.mp hy;have:=hw y (List.mem_filter.mpr ⟨List.mem_cons_of_mem _ y1,y2⟩);cases hoy:ops[y]? with
    |none=>simp only[wat1,hoy] at this
    |some oy=>
     obtain ⟨b1,b2⟩:=Ql8 (hdn y y1 oy hoy (by simp only[Bool.and_eq_true] at y2;exact y2.1.1));exact QvO hoy b1 b2 this
   ·rw[J9 hc hs];have fin:∀u,sv T ops oc (aput t oi.dst r) σ'=some u→aput (aput t oi.dst r) oc.dst u=aput (aput t oi.dst r) oc.dst v→∃v,sv T ops oc (aput t oi.dst r) σ'=some v∧cw P T ops ancs l (c::i::dn) (aput (aput t oi.dst r) oc.dst v) σ' K Kp:=
     fun u h1 h2=>⟨u,h1,by rw[h2];exact Qk8 _ _ _ _ _ hperm hk⟩
    cases hrd:Qc4 oc.op with
    |false=>exact fin v (by rw[QvN hrd σ,Qcj a3];exact hv) rfl
    |true=>
     have hread:Qaj ops c=true:=by simp only[Qaj,hc];exact hrd
     have:=hw c (List.mem_filter.mpr ⟨List.mem_cons_self,by rw[hread,hanc,hnew];rfl⟩);unfold wat1 at this;simp only[hc] at this;split at this
     case h_2=>exact this.elim
     rename_i d hd;have hn:=hself hread;rw[←Qew,Qcj hn] at this;refine fin ((aput (aput t oi.dst r) oc.dst v).getD d .any) this ?_;rw[hd];exact QqA _ _ _ _ rfl
  ·refine .inr ⟨g,?_⟩;rw[J9 hc hs];refine ⟨v,by rw[Qcj a3];exact hv,?_⟩;rw[QbX t (.tup []) v a2'];exact Qk8 _ _ _ _ _ hperm k
theorem QiW {σ σ':AH} (hs:AH.Sub σ σ') {p:AV} {cs:List AV} (h:Ja σ p=some cs):Ja σ' p=some cs:=by
 unfold Ja at h ⊢;split at h
 ·exact h
 ·split at h
  ·rename_i F hF;simp only[hs _ _ hF];exact h
  ·cases h
 ·cases h
theorem Jv {σ σ':AH} (hs:AH.Sub σ σ') {p v:AV} (h:lod p σ=some v):lod p σ'=some v:=by
 unfold lod at h ⊢;split at h
 ·rename_i e;rw[QiW hs e];exact h
 ·cases h
theorem Quu {σ σ':AH} (hs:AH.Sub σ σ') {n:Nat} {p v:AV} (h:lodA n p σ=some v):lodA n p σ'=some v:=by
 unfold lodA at h ⊢;split at h
 ·rename_i e;rw[QiW hs e];exact h
 ·cases h
theorem Qmt {σ σ':AH} (hs:AH.Sub σ σ') {n:Nat} {x i v:AV} (h:idx n x i σ=some v):idx n x i σ'=some v:=by
 unfold idx at h ⊢;split at h
 ·split at h
  ·exact h
  ·split at h
   ·rename_i F hF;simp only[hs _ _ hF];exact h
   ·cases h
  ·cases h
 ·cases h
theorem QvP {σ σ':AH} (hs:AH.Sub σ σ') {n:Nat} {x:AV} {lo hi mx:Option AV} {v:AV} (h:slc n x lo hi mx σ=some v):slc n x lo hi mx σ'=some v:=by
 unfold slc at h ⊢;split at h
 ·exact h
 ·split at h
  ·rename_i F l k hF h1 h2;simp only[hs _ _ hF,h1,h2];exact h
  ·rename_i F l k m hF h1 h2;simp only[hs _ _ hF,h1,h2];exact h
  ·cases h
 ·exact h
 ·exact h
 ·cases h
theorem Qtx {σ σ':AH} (hs:AH.Sub σ σ') {o:Op} {ev:Operand→AV} {v:AV} (h:JL T o ev σ=some v):JL T o ev σ'=some v:=by
 by_cases hr:Qc4 o=false
 ·rw[Ql7 hr ev σ' σ];exact h
 ·cases o with
  |load ty p=>
   simp only[JL,bval] at h ⊢;split at h
   ·split at h
    ·exact Quu hs h
    ·exact Jv hs h
    ·cases h
   ·cases h
  |slice ty x lo hi mx=>
   simp only[JL,bval] at h ⊢;split at h
   ·exact QvP hs h
   ·exact h
   ·cases h
  |indexAddr ty x i=>
   simp only[JL,bval] at h ⊢;split at h
   ·exact Qmt hs h
   ·exact h
  |_=>exact absurd rfl hr
theorem QsL {σ':AH} (hs:AH.Sub σ σ') {o:Oper} {v:AV} (h:sv T ops o t σ=some v):sv T ops o t σ'=some v:=by
 unfold sv at h ⊢;split at h
 ·exact Qtx hs h
 ·exact h
 ·cases h
theorem Quv {dn:List Nat} {i:Nat} (h:Qd6 ops i=true):wl ops ancs dn i=[]:=by
 unfold wl;rw[List.filter_eq_nil_iff];intro x _;simp[h]
theorem Qp1 {i:Nat} {oi:Oper} (hi:ops[i]? =some oi) (h:Qd6 ops i=true):∃ty,oi.op= .alloc ty:=by
 unfold Qd6 at h;rw[hi] at h;simp only[] at h;unfold Qo5 at h;split at h
 ·exact ⟨_,‹_›⟩
 ·cases h
theorem QvQ {c i:Nat} {oc oi:Oper} {l dn:List Nat} (hc:ops[c]? =some oc) (hi:ops[i]? =some oi) (hs:Jl oc.op=true) (hap:oc.apart ops oi=true) (hnew:Qd6 ops i=true)
  (k:cw P T ops ancs (c::i::l) dn t σ K Kp):cw P T ops ancs (i::c::l) dn t σ K Kp:=by
 obtain ⟨a1,a2,a3⟩:=Oper.apart_spec hap;have a2':∀d,oi.dst=some d→oc.dst≠some d:=fun d h e=>a2 d e h
 have hperm:∀x,x∈c::i::dn→x∈i::c::dn:=by
  intro x hx;simp only[List.mem_cons] at hx ⊢;rcases hx with h|h|h<;>simp[h]
 obtain ⟨ty,hty⟩:=Qp1 hi hnew;have hsi:Jl oi.op=false:=by rw[hty];rfl
 rw[J9 hc hs] at k;obtain ⟨v,hv,k⟩:=k;rw[QbY hi hsi] at k ⊢;rw[Qms a1] at k;rcases k with ⟨g,k⟩|⟨g,k⟩
 ·refine .inl ⟨g,?_⟩;rw[Qo4 a1] at k;rw[hty] at k ⊢;simp only[bop] at k ⊢;split at k
  case h_2=>exact k.elim
  intro φ hφ;obtain ⟨_,k⟩:=k φ hφ;refine ⟨by rw[Quv hnew];trivial,?_⟩;rw[J9 hc hs];refine ⟨v,by rw[Qcj a3];exact QsL (AH.Sub.set (.refl σ) _ hφ) hv,?_⟩;rw[QbX t _ v a2'];exact Qk8 _ _ _ _ _ hperm k
 ·refine .inr ⟨g,?_⟩;rw[J9 hc hs];refine ⟨v,by rw[Qcj a3];exact hv,?_⟩;rw[QbX t (.tup []) v a2'];exact Qk8 _ _ _ _ _ hperm k
theorem Quw {x:Nat} {o:Oper} {dst:Option Tmp} {v:AV} (hx:ops[x]? =some o) (h:QgY ops dst o) (hd:∀d,dst=some d→o.dst≠some d):
  wat1 T ops x t σ→wat1 T ops x (aput t dst v) σ:=by
 unfold wat1;simp only[hx];split
 ·rename_i d hod;rw[←Qew,←Qew,Qcj h];intro h2;rw[h2];cases dst with
  |none=>rfl
  |some e=>
   have hne:e≠d:=by rintro rfl;exact hd e rfl hod
   simp[aput,List.getD,List.getElem?_set_ne hne]
 ·exact id
theorem Qux {x:Nat} {σ':AH} (hs:AH.Sub σ σ') (h:wat1 T ops x t σ):wat1 T ops x t σ':=by
 unfold wat1 at h ⊢;split at h
 ·split at h
  ·rw[←Qew] at h ⊢;exact QsL hs h
  ·exact h
 ·exact h
theorem QvR {c i:Nat} {oc oi:Oper} {l dn:List Nat} (hc:ops[c]? =some oc) (hi:ops[i]? =some oi) (hcv:Qo6 oc.op=true) (hgc:oc.guard=none) (hgi:oi.guard=none) (hap:oc.apart ops oi=true) (hnew:Qd6 ops i=true)
  (hty':∀ty,oi.op= .alloc ty→∃ti,T ty=some ti) (hdn:∀y∈dn,∀oy,ops[y]? =some oy→Qaj ops y=true→QgZ ops oi oy=true)
  (k:cw P T ops ancs (c::i::l) dn t σ K Kp):cw P T ops ancs (i::c::l) dn t σ K Kp:=by
 obtain ⟨a1,a2,a3⟩:=Oper.apart_spec hap;have a2':∀d,oi.dst=some d→oc.dst≠some d:=fun d h e=>a2 d e h
 have hperm:∀x,x∈c::i::dn→x∈i::c::dn:=by
  intro x hx;simp only[List.mem_cons] at hx ⊢;rcases hx with h|h|h<;>simp[h]
 obtain ⟨ty,hty⟩:=Qp1 hi hnew;have hsi:Jl oi.op=false:=by rw[hty];rfl
 unfold Qo6 at hcv;split at hcv
 case h_2=>cases hcv
 rename_i cl hop;split at hcv
 case h_2=>cases hcv
 rename_i fv hcal;have hsc:Jl oc.op=false:=by rw[hop];simp only[Jl,Qbi,hcal]
 have hrc:Qaj ops c=false:=by simp only[Qaj,hc,hop];rfl
 have hgdc:∀t,gdec ops oc t=some true:=fun t=>by unfold gdec;rw[hgc]
 have hgdi:∀t,gdec ops oi t=some true:=fun t=>by unfold gdec;rw[hgi]
 rw[QbY hc hsc] at k;rcases k with ⟨_,k⟩|⟨g,_⟩
 case inr=>rw[hgdc] at g;cases g
 rw[QbY hi hsi];refine .inl ⟨hgdi t,?_⟩;rw[hty];simp only[bop];obtain ⟨ti,hT⟩:=hty' ty hty;rw[hT];simp only[];intro φ hφ;refine ⟨by rw[Quv hnew];trivial,?_⟩;rw[QbY hc hsc];refine .inl ⟨hgdc _,?_⟩;rw[Qo4 a3];rw[hop] at k ⊢;simp only[bop,hcal] at k ⊢;refine Ql6 (Qrj hφ k) ?_;intro e σ' he;cases e with
 |pan v=>exact he
 |ret v=>
  obtain ⟨σ2,rfl,hn,hw,hk⟩:=he;have hcomm:aput (aput t oc.dst v) oi.dst (.ptr φ 0 0 0)=aput (aput t oi.dst (.ptr φ 0 0 0)) oc.dst v:=QbX t v _ a2;rw[QbY hi hsi] at hk;rcases hk with ⟨_,hk⟩|⟨g,_⟩
  case inr=>rw[hgdi] at g;cases g
  rw[hty] at hk;simp only[bop,hT] at hk;obtain ⟨_,hk⟩:=hk φ hn;rw[hcomm] at hk;refine ⟨?_,Qk8 _ _ _ _ _ hperm hk⟩;rw[Qk7] at hw ⊢;intro y hy;obtain ⟨y1,y2⟩:=List.mem_filter.mp hy;have y1':y∈dn:=by
   rcases List.mem_cons.mp y1 with rfl|h
   ·simp only[Bool.and_eq_true] at y2;have h1:=y2.1.1;simp only[Qaj,hi,hty] at h1;cases h1
   ·exact h
  have h1:=hw y (List.mem_filter.mpr ⟨y1',y2⟩);cases hoy:ops[y]? with
  |none=>simp only[wat1,hoy] at h1
  |some oy=>
   obtain ⟨b1,b2⟩:=Ql8 (hdn y y1' oy hoy (by simp only[Bool.and_eq_true] at y2;exact y2.1.1));rw[←hcomm];exact Qux (AH.Sub.set (.refl σ2) _ hn) (Quw hoy b1 b2 h1)
end
end
section
variable [Lam]
def Qo7 (ancs:List Nat) (m:Nat) (e:Edge):Nat:=match Region.binds .any e with
 |true=>m|||2 ^ e.on|||ancs.getD e.on 0
 |false=>m
def Qxn (ops:Array Oper) (ancs:List Nat) (i:Nat):Nat:=match ops[i]? with
 |some o=>o.after.toList.foldl (Qo7 ancs) 0
 |none=>0
def Qk9 (ops:Array Oper) (ancs:List Nat):Bool:=(List.range ops.size).all fun i=>Nat.beq (ancs.getD i 0) (Qxn ops ancs i)&&
 (match ops[i]? with|some o=>o.after.toList.all fun e=> !Region.binds .any e||Nat.blt e.on i|none=>true)
def isNone {α:Type}:Option α→Bool
 |none=>true
 |some _=>false
theorem Qp2 {α:Type} {x:Option α} (h:isNone x=true):x=none:=by cases x<;>first|rfl|cases h
def Qo8 (T:Tab) (o:Op):Bool:=match o with
 | .alloc ty=>match T ty with|some _=>true|none=>false
 |_=>false
theorem Qrm {T:Tab} {o:Op} (h:Qo8 T o=true):Qo5 o=true∧∀ty,o= .alloc ty→∃ti,T ty=some ti:=by
 unfold Qo8 at h;split at h
 ·rename_i ty;split at h
  ·rename_i ti hti;exact ⟨rfl,fun ty' e=>by cases e;exact ⟨ti,hti⟩⟩
  ·cases h
 ·cases h
def swpk (T:Tab) (ops:Array Oper) (c i:Nat):Bool:=match ops[c]?,ops[i]? with
 |some oc,some oi=>oc.apart ops oi&&(Jl oc.op||(Qo6 oc.op&&isNone oc.guard&&isNone oi.guard&&Qo8 T oi.op))
 |_,_=>false
def okp (T:Tab) (ops:Array Oper) (ancs:List Nat) (c i:Nat):Bool:= !Nat.beq c i&& !(ancs.getD c 0).testBit i&&((ancs.getD i 0).testBit c||swpk T ops c i)
def Qg0 (T:Tab) (ops:Array Oper) (ancs:List Nat):List Nat→Bool
 |[]=>true
 |c::l=>l.all (okp T ops ancs c)&&Qg0 T ops ancs l
def Quy (ops:Array Oper) (y:Nat):Bool:=match ops[y]? with
 |some o=>match o.dst with|some d=> !(o.looksAt ops).contains d|none=>true
 |none=>true
def QsM (ops:Array Oper) (x y:Nat):Bool:=match ops[x]?,ops[y]? with
 |some a,some b=>QgZ ops a b
 |_,_=>true
def rdOk (ops:Array Oper) (ancs:List Nat):Bool:=(List.range ops.size).all fun y=> !Qaj ops y||
 (Quy ops y&&(List.range ops.size).all fun x=>Nat.beq x y||(ancs.getD y 0).testBit x||QsM ops x y)
def chk (T:Tab) (ops:Array Oper) (ancs C:List Nat):Bool:=
 Qk9 ops ancs&&Qg0 T ops ancs C&&rdOk ops ancs&&C.all (Nat.blt · ops.size)&&(List.range ops.size).all C.contains&&Nat.ble C.length ops.size
section
variable {T:Tab} {ops:Array Oper} {ancs:List Nat}
theorem QvS (l:List Edge):∀(m c:Nat),(l.foldl (Qo7 ancs) m).testBit c=true↔m.testBit c=true∨∃e∈l,Region.binds .any e=true∧(e.on=c∨(ancs.getD e.on 0).testBit c=true):=by
 induction l with
 |nil=>simp
 |cons e l ih=>
  intro m c;rw[List.foldl_cons,ih];unfold Qo7;cases hb:Region.binds .any e with
  |true=>
   simp only[Nat.testBit_or,Nat.testBit_two_pow,Bool.or_eq_true,decide_eq_true_eq,List.mem_cons,exists_eq_or_imp,hb,true_and];constructor
   ·rintro ((h|h)|h)
    ·rcases h with h|h
     ·exact .inl h
     ·exact .inr (.inl (.inl h))
    ·exact .inr (.inl (.inr h))
    ·exact .inr (.inr h)
   ·rintro (h|(h|h)|h)
    ·exact .inl (.inl (.inl h))
    ·exact .inl (.inl (.inr h))
    ·exact .inl (.inr h)
    ·exact .inr h
  |false=>simp[hb]
theorem Qih (h:Qk9 ops ancs=true) {i:Nat} {o:Oper} (hi:ops[i]? =some o) (c:Nat):(ancs.getD i 0).testBit c=true↔∃e∈o.after.toList,Region.binds .any e=true∧(e.on=c∨(ancs.getD e.on 0).testBit c=true):=by
 have hlt:i<ops.size:=(Array.getElem?_eq_some_iff.1 hi).1;have:=(List.all_eq_true.mp h) i (List.mem_range.mpr hlt);simp only[Bool.and_eq_true] at this;have h1:=Nat.eq_of_beq_eq_true this.1;rw[h1];unfold Qxn;simp only[hi];rw[QvS];simp
theorem QnF (h:Qk9 ops ancs=true) {i:Nat} {o:Oper} (hi:ops[i]? =some o) {e:Edge} (he:e∈o.after.toList) (hb:Region.binds .any e=true):e.on<i:=by
 have hlt:i<ops.size:=(Array.getElem?_eq_some_iff.1 hi).1;have:=(List.all_eq_true.mp h) i (List.mem_range.mpr hlt);simp only[Bool.and_eq_true,hi] at this;have:=(List.all_eq_true.mp this.2) e he;simpa[hb,Nat.blt_eq] using this
theorem JZ {c i:Nat} (h:okp T ops ancs c i=true):c≠i∧(ancs.getD c 0).testBit i=false∧((ancs.getD i 0).testBit c=true∨swpk T ops c i=true):=by
 unfold okp at h;simp only[Bool.and_eq_true,Bool.not_eq_true',Bool.or_eq_true] at h;refine ⟨?_,h.1.2,h.2⟩;rintro rfl;have:=h.1.1;rw[show Nat.beq c c=true from Nat.beq_refl c] at this;cases this
theorem Qc5:∀C:List Nat,Qg0 T ops ancs C=true→C.Pairwise fun c i=>okp T ops ancs c i=true
 |[],_=> .nil
 |c::l,h=>by
  simp only[Qg0,Bool.and_eq_true,List.all_eq_true] at h;exact .cons h.1 (Qc5 l h.2)
theorem QsN (h:rdOk ops ancs=true) {y x:Nat} {oy ox:Oper} (hy:ops[y]? =some oy) (hx:ops[x]? =some ox) (hr:Qaj ops y=true) (hne:x≠y) (hn:(ancs.getD y 0).testBit x=false):QgZ ops ox oy=true:=by
 have h1:=(List.all_eq_true.mp h) y (List.mem_range.mpr (Array.getElem?_eq_some_iff.1 hy).1);simp only[hr,Bool.not_true,Bool.false_or,Bool.and_eq_true] at h1;have h2:=(List.all_eq_true.mp h1.2) x (List.mem_range.mpr (Array.getElem?_eq_some_iff.1 hx).1);simp only[Bool.or_eq_true,hn,Bool.false_eq_true,or_false] at h2;rcases h2 with h2|h2
 ·exact absurd (Nat.eq_of_beq_eq_true h2) hne
 ·simpa[QsM,hx,hy] using h2
theorem Quz (h:rdOk ops ancs=true) {y:Nat} {oy:Oper} (hy:ops[y]? =some oy) (hr:Qaj ops y=true):QgY ops oy.dst oy:=by
 have h1:=(List.all_eq_true.mp h) y (List.mem_range.mpr (Array.getElem?_eq_some_iff.1 hy).1);simp only[hr,Bool.not_true,Bool.false_or,Bool.and_eq_true] at h1;have h2:=h1.1;intro d hd;simp only[Quy,hy,hd] at h2;simpa using h2
variable {P:Program} {K:List AV→AH→Prop} {Kp:AV→AH→Prop}
theorem Qii (hrd:rdOk ops ancs=true) {i:Nat} {oi:Oper} (hi:ops[i]? =some oi) {B:List Nat} (A:List Nat):∀(dn:List Nat) (t:List AV) (σ:AH),
  (∀c∈A,swpk T ops c i=true∧(ancs.getD i 0).testBit c=false∧c≠i∧(ancs.getD c 0).testBit i=false)→(∀y∈dn,y≠i∧(ancs.getD y 0).testBit i=false)→(∀c∈A,∀y∈dn,y≠c∧(ancs.getD y 0).testBit c=false)→(A.Pairwise fun c i=>okp T ops ancs c i=true)→
  cw P T ops ancs (A++i::B) dn t σ K Kp→cw P T ops ancs (i::(A++B)) dn t σ K Kp:=by
 induction A with
 |nil=>intro dn t σ _ _ _ _ k;exact k
 |cons c A ih=>
  intro dn t σ h1 h4 h2 h3 k;obtain ⟨hcA,hA⟩:=List.pairwise_cons.mp h3;have k2:cw P T ops ancs (c::(i::(A++B))) dn t σ K Kp:=by
   refine Qrl (fun t σ g=>ih (c::dn) t σ (fun x hx=>h1 x (List.mem_cons_of_mem _ hx)) ?_ ?_ hA g) k
   ·intro y hy;rcases List.mem_cons.mp hy with rfl|hy
    ·exact (h1 y List.mem_cons_self).2.2
    ·exact h4 y hy
   intro x hx y hy;rcases List.mem_cons.mp hy with rfl|hy
   ·obtain ⟨a,b,_⟩:=JZ (hcA x hx);exact ⟨a,b⟩
   ·exact h2 x (List.mem_cons_of_mem _ hx) y hy
  obtain ⟨hs,ha,_,_⟩:=h1 c List.mem_cons_self;unfold swpk at hs;simp only[hi] at hs;split at hs
  case h_2=>cases hs
  rename_i oc oi' hoc hoi;obtain rfl:=Option.some.inj hoi;simp only[Bool.and_eq_true,Bool.or_eq_true] at hs;obtain ⟨hap,hs|⟨⟨⟨hcv,hg1⟩,hg2⟩,hal⟩⟩:=hs
  ·cases hnew:Qd6 ops i with
   |true=>exact QvQ hoc hi hs hap hnew k2
   |false=>
    refine QxN hoc hi hs hap (fun hr=>Quz hrd hoc hr) ha hnew ?_ k2;intro y hy oy hoy hr;obtain ⟨g1,g2⟩:=h2 c List.mem_cons_self y hy;exact QsN hrd hoy hoc hr (Ne.symm g1) g2
  ·obtain ⟨hal1,hal2⟩:=Qrm hal;refine QvR hoc hi hcv (Qp2 hg1) (Qp2 hg2) hap (by simp only[Qd6,hi];exact hal1) hal2 ?_ k2;intro y hy oy hoy hr;obtain ⟨g1,g2⟩:=h4 y hy;exact QsN hrd hoy hi hr (Ne.symm g1) g2
theorem Qc6 {l:Array Bool} {j:Nat} (h:j<l.size):l.getD j false=l.getD j true:=by
 simp[Array.getD,h]
theorem QuA (hT:TabOk P T) (hanc:Qk9 ops ancs=true) (hrd:rdOk ops ancs=true) {Q:Exit→Act→World→Prop} {D:List Deferred} {r:Option Nat} {m:Nat}:∀(fuel:Nat) (C dn:List Nat) (listed:Array Bool) (t:List AV) (σ:AH) (κ:Kap) (w:World) (a:Act),
  C.length≤fuel→listed.size=ops.size→(∀j,j<ops.size→(j∈C↔listed.getD j true=false))→(∀j∈C,j<ops.size)→(C.Pairwise fun c i=>okp T ops ancs c i=true)→
  (∀y∈dn,y<ops.size∧listed.getD y true=true)→(∀j,j<ops.size→listed.getD j true=true→∀c,c<ops.size→(ancs.getD j 0).testBit c=true→listed.getD c true=true)→
  Rel κ σ w→EnvR κ t a.tmps→a.defers=D→
  (∀κ' t' σ' (a':Act) w',K t' σ'→Stp κ σ w κ' σ' w'→EnvR κ' t' a'.tmps→a'.defers=D→Q .normal a' w')→
  (∀κ' v u t' σ' (a':Act) w',Kp v σ'→Stp κ σ w κ' σ' w'→VR κ' v u→EnvR κ' t' a'.tmps→a'.defers=D→Q (.panic [{v:=u,recovered:=false}]) a' w')→
  cw P T ops ancs C dn t σ K Kp→wpAnyIn (FR r) m P .any ops Q fuel listed a w:=by
 intro fuel
 induction fuel with
 |zero=>
  intro C dn listed t σ κ w a hlen hsz hmem hC hpw hdn hcl hr he hd h1 h2 k;obtain rfl:C=[]:=List.eq_nil_of_length_eq_zero (by omega);refine ⟨?_,h1 κ t σ a w k (.refl hr) he hd⟩;apply List.eq_nil_iff_forall_not_mem.mpr;intro j hj;obtain ⟨g1,o,g2,_⟩:=mem_ready.1 hj;have:=(hmem j (Array.getElem?_eq_some_iff.1 g2).1).mpr g1;cases this
 |succ fuel ih=>
  intro C dn listed t σ κ w a hlen hsz hmem hC hpw hdn hcl hr he hd h1 h2 k;refine ⟨?_,?_⟩
  ·intro hready;cases C with
   |nil=>exact h1 κ t σ a w k (.refl hr) he hd
   |cons i l=>
    exfalso;have hlt:=hC i List.mem_cons_self;have hi:ops[i]? =some ops[i]:=Array.getElem?_eq_getElem hlt;have:i∈Region.ready .any ops listed:=mem_ready.2 ⟨(hmem i hlt).mp List.mem_cons_self,_,hi,fun e he hb=>by
     have hlt2:=QnF hanc hi (by simpa using he) hb;have hlt3:e.on<ops.size:=by omega
     rw[Qc6 (by omega)];cases hh:listed.getD e.on true with
     |true=>rfl
     |false=>
      have hm:=(hmem e.on hlt3).mpr hh;rcases List.mem_cons.mp hm with h|h
      ·omega
      ·obtain ⟨_,g,_⟩:=JZ ((List.pairwise_cons.mp hpw).1 e.on h);have:=(Qih hanc hi e.on).mpr ⟨e,by simpa using he,hb,.inl rfl⟩;rw[g] at this;cases this⟩
    rw[hready] at this;cases this
  ·intro i hready;obtain ⟨g1,o,hi,g3⟩:=mem_ready.1 hready;have hlt:=(Array.getElem?_eq_some_iff.1 hi).1;obtain ⟨A,B,rfl⟩:=List.append_of_mem ((hmem i hlt).mpr g1);have hnl:∀c,c∈A++i::B→listed.getD c true=false:=fun c hc=>(hmem c (hC c hc)).mp hc
   have hnanc:∀c,c∈A++i::B→(ancs.getD i 0).testBit c=false:=by
    intro c hc;cases hh:(ancs.getD i 0).testBit c with
    |false=>rfl
    |true=>
     obtain ⟨e,e1,e2,e3⟩:=(Qih hanc hi c).mp hh;have hlt2:=QnF hanc hi e1 e2;have hl:=g3 e (by simpa using e1) e2;rw[Qc6 (by omega)] at hl;rcases e3 with rfl|e3
     ·rw[hnl _ hc] at hl;cases hl
     ·have:=hcl e.on (by omega) hl c (hC c hc) e3;rw[hnl _ hc] at this;cases this
   obtain ⟨pA,pB,pAB⟩:=List.pairwise_append.mp hpw;have k2:=Qii hrd hi A dn t σ (fun c hc=>⟨by
     have hm:c∈A++i::B:=List.mem_append_left _ hc;obtain ⟨_,_,g⟩:=JZ (pAB c hc i List.mem_cons_self);rcases g with g|g
     ·rw[hnanc c hm] at g;cases g
     ·exact g,hnanc c (List.mem_append_left _ hc),(JZ (pAB c hc i List.mem_cons_self)).1,(JZ (pAB c hc i List.mem_cons_self)).2.1⟩)
    (fun y hy=>by
     obtain ⟨y1,y2⟩:=hdn y hy;refine ⟨?_,?_⟩
     ·rintro rfl;rw[g1] at y2;cases y2
     ·cases hh:(ancs.getD y 0).testBit i with
      |false=>rfl
      |true=>have:=hcl y y1 y2 i hlt hh;rw[g1] at this;cases this)
    (fun c hc y hy=>by
     have hm:c∈A++i::B:=List.mem_append_left _ hc;obtain ⟨y1,y2⟩:=hdn y hy;refine ⟨?_,?_⟩
     ·rintro rfl;rw[hnl _ hm] at y2;cases y2
     ·cases hh:(ancs.getD y 0).testBit c with
      |false=>rfl
      |true=>have:=hcl y y1 y2 c (hC c hm) hh;rw[hnl _ hm] at this;cases this) pA k
   -- what is left
   have hi2:i∉A++B:=by
    have hn:(A++i::B).Nodup:=hpw.imp fun h=>(JZ h).1
    rw[List.nodup_append] at hn;obtain ⟨_,n2,n3⟩:=hn;intro hm;rcases List.mem_append.mp hm with hm|hm
    ·exact n3 i hm i List.mem_cons_self rfl
    ·exact (List.nodup_cons.mp n2).1 hm
   have hsub:∀x,x∈A++B→x∈A++i::B:=fun x hx=>by
    rcases List.mem_append.mp hx with hx|hx
    ·exact List.mem_append_left _ hx
    ·exact List.mem_append_right _ (List.mem_cons_of_mem _ hx)
   have hset:∀j,j≠i→(listed.setIfInBounds i true).getD j true=listed.getD j true:=fun j hj=>getD_set_ne true (Ne.symm hj)
   have hset1:(listed.setIfInBounds i true).getD i true=true:=by simp
   have IH:∀(t':List AV) (σ':AH) (κ':Kap) (w':World) (a':Act),Stp κ σ w κ' σ' w'→EnvR κ' t' a'.tmps→a'.defers=D→cw P T ops ancs (A++B) (i::dn) t' σ' K Kp→wpAnyIn (FR r) m P .any ops Q fuel (listed.setIfInBounds i true) a' w':=by
    intro t' σ' κ' w' a' hs he' hd' k';refine ih (A++B) (i::dn) _ t' σ' κ' w' a' ?_ (by simp[hsz]) ?_ (fun j hj=>hC j (hsub j hj)) ?_ ?_ ?_ hs.rel he' hd' ?_ ?_ k'
    ·simp only[List.length_append,List.length_cons] at hlen ⊢;omega
    ·intro j hj;by_cases e:j=i
     ·subst e;rw[hset1];exact ⟨fun h=>absurd h hi2,fun h=>by cases h⟩
     ·rw[hset j e,←hmem j hj];simp only[List.mem_append,List.mem_cons,e,false_or]
    ·exact hpw.sublist (List.Sublist.append (List.Sublist.refl A) (List.sublist_cons_self i B))
    ·intro y hy;rcases List.mem_cons.mp hy with rfl|hy
     ·exact ⟨hlt,hset1⟩
     ·obtain ⟨y1,y2⟩:=hdn y hy;by_cases e:y=i
      ·subst e;exact ⟨y1,hset1⟩
      ·exact ⟨y1,by rw[hset y e];exact y2⟩
    ·intro j hj hl c hc hb;by_cases ec:c=i
     ·subst ec;exact hset1
     ·rw[hset c ec];by_cases ej:j=i
      ·subst ej;cases hh:listed.getD c true with
       |true=>rfl
       |false=>
        have hm:=(hmem c hc).mpr hh;rw[hnanc c hm] at hb;cases hb
      ·rw[hset j ej] at hl;exact hcl j hj hl c hc hb
    ·intro κ2 t2 σ2 a2 w2 q1 q2 q3 q4;exact h1 κ2 t2 σ2 a2 w2 q1 (hs.trans q2) q3 q4
    ·intro κ2 v2 u2 t2 σ2 a2 w2 q1 q2 q3 q4 q5;exact h2 κ2 v2 u2 t2 σ2 a2 w2 q1 (hs.trans q2) q3 q4 q5
   unfold wpOpIn;simp only[hi];simp only[cw,hi] at k2;have k2:bgd ops o t (fun t=>∃K0:AEnd→AH→Prop,sop P o t σ K0∧(∀v σ',K0 (.ret v) σ'→cw P T ops ancs (A++B) (i::dn) (aput t o.dst v) σ' K Kp)∧(∀v σ',K0 (.pan v) σ'→Kp v σ'))
     (fun t=>cw P T ops ancs (A++B) (i::dn) (aput t o.dst (.tup [])) σ K Kp):=by
    split at k2
    ·obtain ⟨v,hv,hk⟩:=Ud k2;rw[gvo_gdec] at hv;rw[bgd_iff];split at hv
     ·rename_i hg;exact .inl ⟨hg,onr (fun u σ'=>cw P T ops ancs (A++B) (i::dn) (aput t o.dst u) σ' K Kp) (fun v σ'=>Kp v σ'),QjT hT hv hk,fun _ _ h=>h,fun _ _ h=>h⟩
     ·rename_i hg;obtain rfl:=Option.some.inj hv;exact .inr ⟨hg,hk⟩
     ·cases hv
    ·rw[bgd_iff] at k2 ⊢;rcases k2 with ⟨hg,k2⟩|⟨hg,k2⟩
     ·exact .inl ⟨hg,_,QaS hT (Qci k2),fun v σ' h=>h.2,fun v σ' h=>h⟩
     ·exact .inr ⟨hg,k2⟩
   rcases QnD he k2 with ⟨hw,hop⟩|⟨hw,k3⟩
   ·rw[if_pos hw];obtain ⟨K0,hop,p1,p2⟩:=hop;refine hop r m κ w a hr he _ _ ?_ ?_
    ·intro κ' x v σ' w' hk hs hv;exact IH (aput t o.dst x) σ' κ' w' (a.put o.dst v) hs ((he.mono hs.ext).put o.dst hv) (by rw[Ur,hd]) (p1 _ _ hk)
    ·intro κ' x v σ' w' hk hs hv;exact h2 κ' x v t σ' a w' (p2 _ _ hk) hs hv (he.mono hs.ext) hd
   ·rw[if_neg (by rw[hw];decide)];exact ⟨fun _ _=>trivial,IH (aput t o.dst (.tup [])) σ κ w (a.put o.dst undef) (.refl hr) (he.put o.dst (QgW κ)) (by rw[Ur,hd]) k3⟩
theorem Qty (hT:TabOk P T) {C:List Nat} (hchk:chk T ops ancs C=true) {Q:Exit→Act→World→Prop} {D:List Deferred} {r:Option Nat} {m:Nat} {id:Nat} {t:List AV} {σ:AH} {κ:Kap} {w:World} {a:Act} (hr:Rel κ σ w) (he:EnvR κ t a.tmps) (hd:a.defers=D)
  (h1:∀κ' t' σ' (a':Act) w',K t' σ'→Stp κ σ w κ' σ' w'→EnvR κ' t' a'.tmps→a'.defers=D→Q .normal a' w')
  (h2:∀κ' v u t' σ' (a':Act) w',Kp v σ'→Stp κ σ w κ' σ' w'→VR κ' v u→EnvR κ' t' a'.tmps→a'.defers=D→Q (.panic [{v:=u,recovered:=false}]) a' w')
  (k:cw P T ops ancs C [] t σ K Kp):(Code.region id ops true).wpIn (FR r) m P Q a w:=by
 unfold chk at hchk;simp only[Bool.and_eq_true,List.all_eq_true] at hchk;obtain ⟨⟨⟨⟨⟨c1,c2⟩,c3⟩,c4⟩,c5⟩,c6⟩:=hchk;refine wpIn_region_draw fun s=>?_
 unfold Region.schedule;simp only[hT.mixed,Bool.true_or,if_true];have hdr:=Stp.drew hr;refine wpAnyIn_sound ops.size s _ a _ ?_;refine QuA hT c1 c3 ops.size C [] (Array.replicate ops.size false) t σ κ _ a (Nat.le_of_ble_eq_true c6) (by simp) ?_ (fun j hj=>by simpa[Nat.blt_eq] using c4 j hj) (Qc5 C c2) (fun y hy=>by cases hy) ?_ hdr.rel he hd ?_ ?_ k
 ·intro j hj;have:=c5 j (List.mem_range.mpr hj);simp[hj];simpa using this
 ·intro j hj hl;simp[hj] at hl
 ·intro κ' t' σ' a' w' q1 q2 q3 q4;exact h1 κ' t' σ' a' w' q1 (hdr.trans q2) q3 q4
 ·intro κ' v u t' σ' a' w' q1 q2 q3 q4 q5;exact h2 κ' v u t' σ' a' w' q1 (hdr.trans q2) q3 q4 q5
def okr (ancs:List Nat) (c i:Nat):Bool:= !Nat.beq c i&& !(ancs.getD c 0).testBit i
def QnG (ancs:List Nat):List Nat→Bool
 |[]=>true
 |c::l=>l.all (okr ancs c)&&QnG ancs l
theorem QvT {c i:Nat} (h:okr ancs c i=true):c≠i∧(ancs.getD c 0).testBit i=false:=by
 unfold okr at h;simp only[Bool.and_eq_true,Bool.not_eq_true'] at h;refine ⟨?_,h.2⟩;rintro rfl;have:=h.1;rw[show Nat.beq c c=true from Nat.beq_refl c] at this;cases this
theorem Qij:∀C:List Nat,QnG ancs C=true→C.Pairwise fun a b=>a≠b∧(ancs.getD a 0).testBit b=false
 |[],_=> .nil
 |c::l,h=>by
  simp only[QnG,Bool.and_eq_true,List.all_eq_true] at h;exact .cons (fun y hy=>QvT (h.1 y hy)) (Qij l h.2)
def Qtz (ops:Array Oper) (x:Nat):Bool:=match ops[x]? with|some o=>Jl o.op|none=>false
def chk2 (T:Tab) (ops:Array Oper) (ancs X:List Nat) (c:Nat) (L1:List Nat) (i:Nat) (L2:List Nat):Bool:=
 Qk9 ops ancs&&rdOk ops ancs&&QnG ancs (X++c::L1)&&QnG ancs (X++i::L2)&&Qg0 T ops ancs (X++L1)&&Qg0 T ops ancs (X++L2)&&X.all (okp T ops ancs · c)&&X.all (okp T ops ancs · i)&&X.all (Qtz ops)&&
 (c::L1).all (i::L2).contains&&(i::L2).all (c::L1).contains&&(c::L1).all (fun y=>Nat.beq y c||Nat.beq y i||(ancs.getD y 0).testBit c||(ancs.getD y 0).testBit i)&&
 (X++c::L1).all (Nat.blt · ops.size)&&(List.range ops.size).all (X++c::L1).contains&&Nat.ble (X++c::L1).length ops.size&&Nat.beq L1.length L2.length
theorem QsO (_hT:TabOk P T) {Q:Exit→Act→World→Prop} {D:List Deferred} {r:Option Nat} {m:Nat} {i:Nat} {o:Oper} {t:List AV} {σ:AH} {κ:Kap} {w:World} {a:Act} {M:List AV→AH→Prop} {N:Act→World→Prop} (hi:ops[i]? =some o) (hr:Rel κ σ w) (he:EnvR κ t a.tmps) (hd:a.defers=D)
  (h2:∀κ' v u t' σ' (a':Act) w',Kp v σ'→Stp κ σ w κ' σ' w'→VR κ' v u→EnvR κ' t' a'.tmps→a'.defers=D→Q (.panic [{v:=u,recovered:=false}]) a' w')
  (IH:∀(t':List AV) (σ':AH) (κ':Kap) (w':World) (a':Act),Stp κ σ w κ' σ' w'→EnvR κ' t' a'.tmps→a'.defers=D→M t' σ'→N a' w')
  (k2:bgd ops o t (fun t=>∃K0:AEnd→AH→Prop,sop P o t σ K0∧(∀v σ',K0 (.ret v) σ'→M (aput t o.dst v) σ')∧(∀v σ',K0 (.pan v) σ'→Kp v σ')) (fun t=>M (aput t o.dst (.tup [])) σ)):
  wpOpIn (FR r) m P ops Q i N a w:=by
 unfold wpOpIn;simp only[hi];rcases QnD he k2 with ⟨hw,hop⟩|⟨hw,k3⟩
 ·rw[if_pos hw];obtain ⟨K0,hop,p1,p2⟩:=hop;refine hop r m κ w a hr he _ _ ?_ ?_
  ·intro κ' x v σ' w' hk hs hv;exact IH (aput t o.dst x) σ' κ' w' (a.put o.dst v) hs ((he.mono hs.ext).put o.dst hv) (by rw[Ur,hd]) (p1 _ _ hk)
  ·intro κ' x v σ' w' hk hs hv;exact h2 κ' x v t σ' a w' (p2 _ _ hk) hs hv (he.mono hs.ext) hd
 ·rw[if_neg (by rw[hw];decide)];exact ⟨fun _ _=>trivial,IH (aput t o.dst (.tup [])) σ κ w (a.put o.dst undef) (.refl hr) (he.put o.dst (QgW κ)) (by rw[Ur,hd]) k3⟩
theorem QxO (hT:TabOk P T) {i:Nat} {o:Oper} {L dn:List Nat} {t:List AV} {σ:AH} (hi:ops[i]? =some o) (k2:cw P T ops ancs (i::L) dn t σ K Kp):
  bgd ops o t (fun t=>∃K0:AEnd→AH→Prop,sop P o t σ K0∧(∀v σ',K0 (.ret v) σ'→cw P T ops ancs L (i::dn) (aput t o.dst v) σ' K Kp)∧(∀v σ',K0 (.pan v) σ'→Kp v σ')) (fun t=>cw P T ops ancs L (i::dn) (aput t o.dst (.tup [])) σ K Kp):=by
 simp only[cw,hi] at k2;split at k2
 ·obtain ⟨v,hv,hk⟩:=Ud k2;rw[gvo_gdec] at hv;rw[bgd_iff];split at hv
  ·rename_i hg;exact .inl ⟨hg,onr (fun u σ'=>cw P T ops ancs L (i::dn) (aput t o.dst u) σ' K Kp) (fun v σ'=>Kp v σ'),QjT hT hv hk,fun _ _ h=>h,fun _ _ h=>h⟩
  ·rename_i hg;obtain rfl:=Option.some.inj hv;exact .inr ⟨hg,hk⟩
  ·cases hv
 ·rw[bgd_iff] at k2 ⊢;rcases k2 with ⟨hg,k2⟩|⟨hg,k2⟩
  ·exact .inl ⟨hg,_,QaS hT (Qci k2),fun v σ' h=>h.2,fun v σ' h=>h⟩
  ·exact .inr ⟨hg,k2⟩
theorem QvU (hT:TabOk P T) {i:Nat} {o:Oper} {L L' dn:List Nat} {t:List AV} {σ:AH} (hi:ops[i]? =some o) (hs:Jl o.op=true) (k1:cw P T ops ancs (i::L) dn t σ K Kp) (k2:cw P T ops ancs (i::L') dn t σ K Kp):
  bgd ops o t (fun t=>∃K0:AEnd→AH→Prop,sop P o t σ K0∧(∀v σ',K0 (.ret v) σ'→cw P T ops ancs L (i::dn) (aput t o.dst v) σ' K Kp∧cw P T ops ancs L' (i::dn) (aput t o.dst v) σ' K Kp)∧(∀v σ',K0 (.pan v) σ'→Kp v σ'))
   (fun t=>cw P T ops ancs L (i::dn) (aput t o.dst (.tup [])) σ K Kp∧cw P T ops ancs L' (i::dn) (aput t o.dst (.tup [])) σ K Kp):=by
 rw[J9 hi hs] at k1 k2;obtain ⟨v,hv,k1⟩:=k1;obtain ⟨v',hv',k2⟩:=k2;obtain rfl:v=v':=Option.some.inj (hv.symm.trans hv');unfold sv at hv;rw[bgd_iff];split at hv
 ·rename_i hg;exact .inl ⟨hg,onr (fun u σ'=>cw P T ops ancs L (i::dn) (aput t o.dst u) σ' K Kp∧cw P T ops ancs L' (i::dn) (aput t o.dst u) σ' K Kp) (fun v σ'=>Kp v σ'),QjT hT hv ⟨k1,k2⟩,fun _ _ h=>h,fun _ _ h=>h⟩
 ·rename_i hg;obtain rfl:=Option.some.inj hv;exact .inr ⟨hg,k1,k2⟩
 ·cases hv
theorem QxP (hT:TabOk P T) (hanc:Qk9 ops ancs=true) (hrd:rdOk ops ancs=true) {Q:Exit→Act→World→Prop} {D:List Deferred} {r:Option Nat} {m:Nat} {c i:Nat} {L1 L2:List Nat} (hll:L1.length=L2.length) (hperm:∀y,y∈c::L1↔y∈i::L2) (hdep:∀y∈c::L1,y=c∨y=i∨(ancs.getD y 0).testBit c=true∨(ancs.getD y 0).testBit i=true):∀(fuel:Nat) (X dn:List Nat) (listed:Array Bool) (t:List AV) (σ:AH) (κ:Kap) (w:World) (a:Act),
  (X++c::L1).length≤fuel→listed.size=ops.size→(∀j,j<ops.size→(j∈X++c::L1↔listed.getD j true=false))→(∀j∈X++c::L1,j<ops.size)→((X++c::L1).Pairwise fun a b=>a≠b∧(ancs.getD a 0).testBit b=false)→((X++i::L2).Pairwise fun a b=>a≠b∧(ancs.getD a 0).testBit b=false)→((X++L1).Pairwise fun c i=>okp T ops ancs c i=true)→((X++L2).Pairwise fun c i=>okp T ops ancs c i=true)→
  (∀x∈X,okp T ops ancs x c=true)→(∀x∈X,okp T ops ancs x i=true)→(∀x∈X,Qtz ops x=true)→
  (∀y∈dn,y<ops.size∧listed.getD y true=true)→(∀j,j<ops.size→listed.getD j true=true→∀c,c<ops.size→(ancs.getD j 0).testBit c=true→listed.getD c true=true)→
  Rel κ σ w→EnvR κ t a.tmps→a.defers=D→
  (∀κ' t' σ' (a':Act) w',K t' σ'→Stp κ σ w κ' σ' w'→EnvR κ' t' a'.tmps→a'.defers=D→Q .normal a' w')→
  (∀κ' v u t' σ' (a':Act) w',Kp v σ'→Stp κ σ w κ' σ' w'→VR κ' v u→EnvR κ' t' a'.tmps→a'.defers=D→Q (.panic [{v:=u,recovered:=false}]) a' w')→
  cw P T ops ancs (X++c::L1) dn t σ K Kp→cw P T ops ancs (X++i::L2) dn t σ K Kp→wpAnyIn (FR r) m P .any ops Q fuel listed a w:=by
 intro fuel
 induction fuel with
 |zero=>
  intro X dn listed t σ κ w a hlen;simp at hlen
 |succ fuel ih=>
  intro X dn listed t σ κ w a hlen hsz hmem hC hr1 hr2 hp1 hp2 hXc hXi hsil hdn hcl hr he hd h1 h2 k1 k2;refine ⟨?_,?_⟩
  ·intro hready;exfalso;obtain ⟨i0,l,hil⟩:∃i0 l,X++c::L1=i0::l:=by
    cases X with
    |nil=>exact ⟨c,L1,rfl⟩
    |cons x X=>exact ⟨x,X++c::L1,rfl⟩
   rw[hil] at hmem hC hr1;have hlt:=hC i0 List.mem_cons_self;have hi:ops[i0]? =some ops[i0]:=Array.getElem?_eq_getElem hlt;have:i0∈Region.ready .any ops listed:=mem_ready.2 ⟨(hmem i0 hlt).mp List.mem_cons_self,_,hi,fun e he hb=>by
    have hlt2:=QnF hanc hi (by simpa using he) hb;have hlt3:e.on<ops.size:=by omega
    rw[Qc6 (by omega)];cases hh:listed.getD e.on true with
    |true=>rfl
    |false=>
     have hm:=(hmem e.on hlt3).mpr hh;rcases List.mem_cons.mp hm with h|h
     ·omega
     ·obtain ⟨_,g⟩:=(List.pairwise_cons.mp hr1).1 e.on h;have:=(Qih hanc hi e.on).mpr ⟨e,by simpa using he,hb,.inl rfl⟩;rw[g] at this;cases this⟩
   rw[hready] at this;cases this
  ·intro j hready;obtain ⟨g1,o,hj,g3⟩:=mem_ready.1 hready;have hlt:=(Array.getElem?_eq_some_iff.1 hj).1;have hnl:∀x,x∈X++c::L1→listed.getD x true=false:=fun x hx=>(hmem x (hC x hx)).mp hx
   have hnanc:∀x,x∈X++c::L1→(ancs.getD j 0).testBit x=false:=by
    intro x hx;cases hh:(ancs.getD j 0).testBit x with
    |false=>rfl
    |true=>
     obtain ⟨e,e1,e2,e3⟩:=(Qih hanc hj x).mp hh;have hlt2:=QnF hanc hj e1 e2;have hl:=g3 e (by simpa using e1) e2;rw[Qc6 (by omega)] at hl;rcases e3 with rfl|e3
     ·rw[hnl _ hx] at hl;cases hl
     ·have:=hcl e.on (by omega) hl x (hC x hx) e3;rw[hnl _ hx] at this;cases this
   have hdn1:∀y∈dn,y≠j∧(ancs.getD y 0).testBit j=false:=fun y hy=>by
    obtain ⟨y1,y2⟩:=hdn y hy;refine ⟨?_,?_⟩
    ·rintro rfl;rw[g1] at y2;cases y2
    ·cases hh:(ancs.getD y 0).testBit j with
     |false=>rfl
     |true=>have:=hcl y y1 y2 j hlt hh;rw[g1] at this;cases this
   have hdn2:∀x∈X++c::L1,∀y∈dn,y≠x∧(ancs.getD y 0).testBit x=false:=fun x hx y hy=>by
    obtain ⟨y1,y2⟩:=hdn y hy;refine ⟨?_,?_⟩
    ·rintro rfl;rw[hnl _ hx] at y2;cases y2
    ·cases hh:(ancs.getD y 0).testBit x with
     |false=>rfl
     |true=>have:=hcl y y1 y2 x (hC x hx) hh;rw[hnl _ hx] at this;cases this
   have hmX:∀x∈X,x∈X++c::L1:=fun x hx=>List.mem_append_left _ hx
   have hset:∀y,y≠j→(listed.setIfInBounds j true).getD y true=listed.getD y true:=fun y hy=>getD_set_ne true (Ne.symm hy)
   have hset1:(listed.setIfInBounds j true).getD j true=true:=by simp
   have hdn3:∀y∈j::dn,y<ops.size∧(listed.setIfInBounds j true).getD y true=true:=by
    intro y hy;rcases List.mem_cons.mp hy with rfl|hy
    ·exact ⟨hlt,hset1⟩
    ·obtain ⟨y1,y2⟩:=hdn y hy;by_cases e:y=j
     ·subst e;exact ⟨y1,hset1⟩
     ·exact ⟨y1,by rw[hset y e];exact y2⟩
   have hcl3:∀y,y<ops.size→(listed.setIfInBounds j true).getD y true=true→∀x,x<ops.size→(ancs.getD y 0).testBit x=true→(listed.setIfInBounds j true).getD x true=true:=by
    intro y hy hl x hx hb;by_cases ec:x=j
    ·subst ec;exact hset1
    ·rw[hset x ec];by_cases ej:y=j
     ·subst ej;cases hh:listed.getD x true with
      |true=>rfl
      |false=>
       have hm:=(hmem x hx).mpr hh;rw[hnanc x hm] at hb;cases hb
     ·rw[hset y ej] at hl;exact hcl y hy hl x hx hb
   have hmem3:∀L:List Nat,j∉L→(∀y,y∈X++c::L1↔y=j∨y∈L)→∀y,y<ops.size→(y∈L↔(listed.setIfInBounds j true).getD y true=false):=by
    intro L hL hLm y hy;by_cases e:y=j
    ·subst e;rw[hset1];exact ⟨fun h=>absurd h hL,fun h=>by cases h⟩
    ·rw[hset y e,←hmem y hy,hLm];simp only[e,false_or]
   have single:∀L:List Nat,L.length≤fuel→j∉L→(∀y,y∈X++c::L1↔y=j∨y∈L)→(L.Pairwise fun c i=>okp T ops ancs c i=true)→cw P T ops ancs (j::L) dn t σ K Kp→wpOpIn (FR r) m P ops Q j (wpAnyIn (FR r) m P .any ops Q fuel (listed.setIfInBounds j true)) a w:=by
    intro L hLl hL hLm hLp k;refine QsO (M:=fun t σ=>cw P T ops ancs L (j::dn) t σ K Kp) hT hj hr he hd h2 ?_ (QxO hT hj k);intro t' σ' κ' w' a' hs he' hd' k';refine QuA hT hanc hrd fuel L (j::dn) _ t' σ' κ' w' a' hLl (by simp[hsz]) (hmem3 L hL hLm) (fun y hy=>hC y ((hLm y).2 (.inr hy))) hLp hdn3 hcl3 hs.rel he' hd' ?_ ?_ k'
    ·intro κ2 t2 σ2 a2 w2 q1 q2 q3 q4;exact h1 κ2 t2 σ2 a2 w2 q1 (hs.trans q2) q3 q4
    ·intro κ2 v2 u2 t2 σ2 a2 w2 q1 q2 q3 q4 q5;exact h2 κ2 v2 u2 t2 σ2 a2 w2 q1 (hs.trans q2) q3 q4 q5
   have swp:∀x y,okp T ops ancs x y=true→(ancs.getD y 0).testBit x=false→swpk T ops x y=true:=fun x y h g=>by
    obtain ⟨_,_,k⟩:=JZ h;rcases k with k|k
    ·rw[g] at k;cases k
    ·exact k
   have notin:∀(Z L:List Nat),((Z++j::L).Pairwise fun a b=>a≠b∧(ancs.getD a 0).testBit b=false)→j∉Z++L:=by
    intro Z L h hm;have hn:(Z++j::L).Nodup:=h.imp fun h=>h.1
    rw[List.nodup_append] at hn;rcases List.mem_append.mp hm with hm|hm
    ·exact hn.2.2 j hm j List.mem_cons_self rfl
    ·exact (List.nodup_cons.mp hn.2.1).1 hm
   have hin:=(hmem j hlt).mpr g1;have hpX:X.Pairwise fun c i=>okp T ops ancs c i=true:=(List.pairwise_append.mp hp1).1
   by_cases ec:j=c
   ·subst ec;have kc:=Qii hrd hj (B:=L1) X dn t σ (fun x hx=>⟨swp x j (hXc x hx) (hnanc x (hmX x hx)),hnanc x (hmX x hx),(JZ (hXc x hx)).1,(JZ (hXc x hx)).2.1⟩) hdn1 (fun x hx=>hdn2 x (hmX x hx)) hpX k1;refine single (X++L1) (by simp at hlen ⊢;omega) (notin X L1 hr1) (fun y=>?_) hp1 kc;simp only[List.mem_append,List.mem_cons];exact ⟨fun h=>by rcases h with h|h|h<;>simp[h],fun h=>by rcases h with h|h|h<;>simp[h]⟩
   by_cases ei:j=i
   ·subst ei;have kc:=Qii hrd hj (B:=L2) X dn t σ (fun x hx=>⟨swp x j (hXi x hx) (hnanc x (hmX x hx)),hnanc x (hmX x hx),(JZ (hXi x hx)).1,(JZ (hXi x hx)).2.1⟩) hdn1 (fun x hx=>hdn2 x (hmX x hx)) hpX k2;refine single (X++L2) (by simp at hlen ⊢;omega) (notin X L2 hr2) (fun y=>?_) hp2 kc;rw[List.mem_append,hperm];simp only[List.mem_append,List.mem_cons];exact ⟨fun h=>by rcases h with h|h|h<;>simp[h],fun h=>by rcases h with h|h|h<;>simp[h]⟩
   have hX:j∈X:=by
    rcases List.mem_append.mp hin with h|h
    ·exact h
    ·have hci:c∈X++c::L1:=List.mem_append_right _ List.mem_cons_self;have hii:i∈X++c::L1:=List.mem_append_right _ ((hperm i).2 List.mem_cons_self);rcases hdep j h with d|d|d|d
     ·exact absurd d ec
     ·exact absurd d ei
     ·rw[hnanc c hci] at d;cases d
     ·rw[hnanc i hii] at d;cases d
   obtain ⟨A,B,rfl⟩:=List.append_of_mem hX;have hpa:A.Pairwise fun c i=>okp T ops ancs c i=true:=(List.pairwise_append.mp hpX).1
   have hpj:∀x∈A,okp T ops ancs x j=true:=fun x hx=>(List.pairwise_append.mp hpX).2.2 x hx j List.mem_cons_self
   have hmx:∀x∈A,x∈(A++j::B)++c::L1:=fun x hx=>by simp[hx]
   have front:∀Z:List Nat,cw P T ops ancs ((A++j::B)++Z) dn t σ K Kp→cw P T ops ancs (j::((A++B)++Z)) dn t σ K Kp:=by
    intro Z k;rw[List.append_assoc,List.cons_append] at k;have:=Qii hrd hj (B:=B++Z) A dn t σ (fun x hx=>⟨swp x j (hpj x hx) (hnanc x (hmx x hx)),hnanc x (hmx x hx),(JZ (hpj x hx)).1,(JZ (hpj x hx)).2.1⟩) hdn1 (fun x hx=>hdn2 x (hmx x hx)) hpa k
    rwa [←List.append_assoc] at this
   have hjs:Jl o.op=true:=by
    have:=hsil j hX;unfold Qtz at this;rw[hj] at this;exact this
   refine QsO (M:=fun t σ=>cw P T ops ancs ((A++B)++c::L1) (j::dn) t σ K Kp∧cw P T ops ancs ((A++B)++i::L2) (j::dn) t σ K Kp) hT hj hr he hd h2 ?_ (QvU hT hj hjs (front _ k1) (front _ k2));rintro t' σ' κ' w' a' hs he' hd' ⟨k1',k2'⟩;have hjA:j∉(A++B)++c::L1:=by
    have:=hr1;rw[List.append_assoc,List.cons_append] at this;have:=notin A (B++c::L1) this
    rwa [←List.append_assoc] at this
   have sub1:∀Z:List Nat,((A++B)++Z).Sublist ((A++j::B)++Z):=fun Z=>(List.Sublist.append (List.Sublist.refl A) (List.sublist_cons_self j B)).append (List.Sublist.refl _)
   have subX:∀x∈A++B,x∈A++j::B:=fun x hx=>by
    rcases List.mem_append.mp hx with h|h
    ·exact List.mem_append_left _ h
    ·exact List.mem_append_right _ (List.mem_cons_of_mem _ h)
   refine ih (A++B) (j::dn) _ t' σ' κ' w' a' ?_ (by simp[hsz]) (hmem3 _ hjA fun y=>?_) (fun y hy=>hC y ((sub1 _).subset hy)) (hr1.sublist (sub1 _)) (hr2.sublist (sub1 _)) (hp1.sublist (sub1 _)) (hp2.sublist (sub1 _)) (fun x hx=>hXc x (subX x hx)) (fun x hx=>hXi x (subX x hx)) (fun x hx=>hsil x (subX x hx)) hdn3 hcl3 hs.rel he' hd' ?_ ?_ k1' k2'
   ·simp at hlen ⊢;omega
   ·simp only[List.mem_append,List.mem_cons];exact ⟨fun h=>by rcases h with (h|h|h)|h<;>simp[h],fun h=>by rcases h with h|(h|h)|h<;>simp[h]⟩
   ·intro κ2 t2 σ2 a2 w2 q1 q2 q3 q4;exact h1 κ2 t2 σ2 a2 w2 q1 (hs.trans q2) q3 q4
   ·intro κ2 v2 u2 t2 σ2 a2 w2 q1 q2 q3 q4 q5;exact h2 κ2 v2 u2 t2 σ2 a2 w2 q1 (hs.trans q2) q3 q4 q5
theorem QAy (hT:TabOk P T) {X L1 L2:List Nat} {c i:Nat} (hchk:chk2 T ops ancs X c L1 i L2=true) {Q:Exit→Act→World→Prop} {D:List Deferred} {r:Option Nat} {m:Nat} {id:Nat} {t:List AV} {σ:AH} {κ:Kap} {w:World} {a:Act} (hr:Rel κ σ w) (he:EnvR κ t a.tmps) (hd:a.defers=D)
  (h1:∀κ' t' σ' (a':Act) w',K t' σ'→Stp κ σ w κ' σ' w'→EnvR κ' t' a'.tmps→a'.defers=D→Q .normal a' w')
  (h2:∀κ' v u t' σ' (a':Act) w',Kp v σ'→Stp κ σ w κ' σ' w'→VR κ' v u→EnvR κ' t' a'.tmps→a'.defers=D→Q (.panic [{v:=u,recovered:=false}]) a' w')
  (k1:cw P T ops ancs (X++c::L1) [] t σ K Kp) (k2:cw P T ops ancs (X++i::L2) [] t σ K Kp):(Code.region id ops true).wpIn (FR r) m P Q a w:=by
 unfold chk2 at hchk;simp only[Bool.and_eq_true] at hchk;obtain ⟨⟨⟨⟨⟨⟨⟨⟨⟨⟨⟨⟨⟨⟨⟨c1,c2⟩,c3⟩,c4⟩,c5⟩,c6⟩,c7⟩,c8⟩,c9⟩,d1⟩,d2⟩,d3⟩,d4⟩,d5⟩,d6⟩,d7⟩:=hchk;refine wpIn_region_draw fun s=>?_
 unfold Region.schedule;simp only[hT.mixed,Bool.true_or,if_true];have hdr:=Stp.drew hr;refine wpAnyIn_sound ops.size s _ a _ ?_;have ia:∀(l:List Nat) (f:Nat→Bool),l.all f=true→∀x∈l,f x=true:=fun l f h x hx=>List.all_eq_true.mp h x hx
 refine QxP hT c1 c2 (Nat.eq_of_beq_eq_true d7) (fun y=>⟨fun h=>by simpa using ia _ _ d1 y h,fun h=>by simpa using ia _ _ d2 y h⟩) (fun y hy=>?_) ops.size X [] (Array.replicate ops.size false) t σ κ _ a (Nat.le_of_ble_eq_true d6) (by simp) ?_ (fun j hj=>by simpa[Nat.blt_eq] using ia _ _ d4 j hj) (Qij _ c3) (Qij _ c4) (Qc5 _ c5) (Qc5 _ c6) (ia _ _ c7) (ia _ _ c8) (ia _ _ c9) (fun y hy=>by cases hy) ?_ hdr.rel he hd ?_ ?_ k1 k2
 ·have:=ia _ _ d3 y hy;simp only[Bool.or_eq_true] at this;rcases this with ((e|e)|e)|e
  ·exact .inl (Nat.eq_of_beq_eq_true e)
  ·exact .inr (.inl (Nat.eq_of_beq_eq_true e))
  ·exact .inr (.inr (.inl e))
  ·exact .inr (.inr (.inr e))
 ·intro j hj;have:=ia _ _ d5 j (List.mem_range.mpr hj);simp[hj];simpa using this
 ·intro j hj hl;simp[hj] at hl
 ·intro κ' t' σ' a' w' q1 q2 q3 q4;exact h1 κ' t' σ' a' w' q1 (hdr.trans q2) q3 q4
 ·intro κ' v u t' σ' a' w' q1 q2 q3 q4 q5;exact h2 κ' v u t' σ' a' w' q1 (hdr.trans q2) q3 q4 q5
end
end
section
variable [Lam]
def Tup:List Nat→Type
 |[]=>Unit
 |_::l=>AV × Tup l
def Qby (t:List AV):(ls:List Nat)→Tup ls
 |[]=>()
 |i::l=>(t.getD i .any,Qby t l)
def expT:(ls:List Nat)→List AV→Tup ls→List AV
 |[],t,_=>t
 |i::l,t,x=>expT l (t.set i x.1) x.2
def Uu:List AV→List AV
 |[]=>[]
 |_::t=> .any::Uu t
def Qem:List AV→List AV→Bool
 |[],[]=>true
 |_::a,_::b=>Qem a b
 |_,_=>false
theorem QnH:∀{a b:List AV},Qem a b=true→a.length=b.length
 |[],[],_=>rfl
 |_::a,_::b,h=>by simp[QnH (a:=a) (b:=b) h]
theorem Qex:∀(t:List AV),(Uu t).length=t.length
 |[]=>rfl
 |_::t=>by simp[Uu,Qex t]
theorem QjU:∀(t:List AV) (i:Nat),(Uu t).getD i .any= .any
 |[],i=>by simp[Uu]
 |_::t,0=>by simp[Uu]
 |_::t,i+1=>by have:=QjU t i;simpa[Uu] using this
theorem Qg1 {κ:Kap} {t:List AV} {a:Array Value} (h:EnvR κ t a):∀(ls:List Nat) (b:List AV),EnvR κ b a→EnvR κ (expT ls b (Qby t ls)) a
 |[],_,hb=>hb
 |i::l,b,hb=>by
  refine Qg1 h l (b.set i (t.getD i .any)) ⟨by simpa using hb.size,fun j hj=>?_⟩;by_cases e:i=j
  ·subst e;have hj':i<b.length:=by simpa using hj
   rw[show (b.set i (t.getD i .any)).getD i .any=t.getD i .any by simp[List.getD,hj']];exact h.at i
  ·rw[show (b.set i (t.getD i .any)).getD j .any=b.getD j .any by simp[List.getD,List.getElem?_set_ne e]];exact hb.at j
theorem Qmu {κ:Kap} {t:List AV} {a:Array Value} (h:t.length=a.size):EnvR κ (Uu t) a:=
 ⟨by rw[Qex];exact h,fun i _=>by rw[QjU];exact .any _⟩
def jn {X:Type} (r:X→AH→Prop) (f:(X→AH→Prop)→Prop):Prop:=f r
theorem QuB {P:Program} {body:Code} {Q:QT} {X:Type} (emb:X→List AV) {x0:X} {σ:AH} (h:lp (fun R x σ=>swp P body (thn (fun t σ=>∃x',(∀κ a,EnvR κ t a→EnvR κ (emb x') a)∧R x' σ) Q) (emb x) σ) x0 σ):swp P (.loop body) Q (emb x0) σ:=by
 obtain ⟨I,μ,hI,hround⟩:=h;intro r m n0 κ w a hr he hd
 let Inv:Act→World→Nat→Prop:=fun a' w' n=>∃κ' x' σ',I x' σ'∧Stp κ σ w κ' σ' w'∧EnvR κ' (emb x') a'.tmps∧DF r n0 a' w'∧μ x' σ'=n
 refine wpIn_loop (fun a' w'=>∃n,Inv a' w' n) (fun a' w'=>QfA (Inv a' w')) ⟨_,κ,x0,σ,hI,.refl hr,he,hd,rfl⟩ ?_;intro a1 w1 hinv;obtain ⟨κ1,x1,σ1,i1,i2,i3,i4,i5⟩:=QpX hinv;have:=hround x1 σ1 i1 r m n0 κ1 w1 a1 i2.rel i3 i4;refine Code.wpIn_mono ?_ this;rintro e a' w' ⟨κ',z,t',σ',h1,h2,h3,h4,h5⟩;cases e<;>cases z<;>try exact h5.elim
 ·obtain ⟨x',hx,σ'',s1,s2,s3⟩:=h1;have hst:=(i2.trans h2).trans (Stp.sub h2.rel s1);have hin:Inv a' w' (μ x' σ''):=⟨κ',x',σ'',s2,hst,hx _ _ h3,h4,rfl⟩;refine ⟨⟨_,hin⟩,?_⟩;have:=Qrg hin;show QfA (Inv a' w')<QfA (Inv a1 w1);omega
 all_goals exact ⟨κ',_,t',σ',h1,i2.trans h2,h3,h4,h5⟩
theorem QuC {P:Program} {body:Code} {Q:QT} {t:List AV} (ls:List Nat) {σ:AH} (h:lp (X:=Tup ls) (fun R x σ=>swp P body (thn (fun t' σ=>match Qem t' t with|true=>R (Qby t' ls) σ|false=>False) Q) (expT ls (Uu t) x) σ) (Qby t ls) σ):swp P (.loop body) Q t σ:=by
 have h2:lp (X:=Tup ls) (fun R x σ=>swp P body (thn (fun t' σ=>∃x',(∀κ a,EnvR κ t' a→EnvR κ (expT ls (Uu t) x') a)∧R x' σ) Q) (expT ls (Uu t) x) σ) (Qby t ls) σ:=by
  refine QsJ (fun R x σ hb=>hb.mono (QvK (fun t' σ hk=>?_) (fun _ _ _ h=>h))) h;split at hk
  ·rename_i hl;refine ⟨_,fun κ a he=>Qg1 he ls _ ⟨?_,fun i _=>?_⟩,hk⟩
   ·rw[Qex,←QnH hl];exact he.size
   ·rw[QjU];exact .any _
  ·exact hk.elim
 have key:=QuB (P:=P) (body:=body) (Q:=Q) (fun x=>expT ls (Uu t) x) h2;intro r m n0 κ w a hr he hd;exact key r m n0 κ w a hr (Qg1 he ls _ (Qmu he.size)) hd
def Qla (T:Tab) (t:TypeId) (p:AV) (σ:AH):Option AV:=match T t with
 |some ti=>match Un ti.under,ti.size with
  |true,n=>lodA n p σ
  |false,1=>lod p σ
  |_,_=>none
 |none=>none
theorem Qmv {T:Tab} {t:TypeId} {p:AV} {σ:AH} (v:AV) (h:Qla T t p σ=some v):Qcc T t p σ=some v:=by
 unfold Qla at h;split at h
 ·rename_i ti ht;split at h
  ·rename_i ha;exact QnC ht ha v h
  ·rename_i ha hs;exact QpY ht ha hs v h
  ·cases h
 ·cases h
def bone (T:Tab) (t:List AV) (σ:AH) (k:AV→Prop):ResultVar→Prop
 | .tmp s=>k (t.getD s .any)
 | .cell s ty=>og (Qla T ty (t.getD s .any) σ) k
def QnI (T:Tab) (t:List AV) (σ:AH):List ResultVar→(List AV→Prop)→Prop
 |[],k=>k []
 |r::rs,k=>bone T t σ (fun v=>QnI T t σ rs fun vs=>k (v::vs)) r
def bres (T:Tab) (rs:List ResultVar) (t:List AV) (σ:AH) (k:AV→Prop):Prop:=match rs with
 |[r]=>bone T t σ k r
 |rs=>QnI T t σ rs fun vs=>k (.tup vs)
theorem QsP {T:Tab} {t:List AV} {σ:AH} {k:AV→Prop} {r:ResultVar} (h:bone T t σ k r):∃v,aone T t σ r=some v∧k v:=by
 cases r with
 |tmp s=>exact ⟨_,rfl,h⟩
 |cell s ty=>obtain ⟨v,h1,h2⟩:=Ud h;exact ⟨v,Qmv v h1,h2⟩
theorem QvV {T:Tab} {t:List AV} {σ:AH} (rs:List ResultVar):∀{k:List AV→Prop},QnI T t σ rs k→∃vs,Qbx T t σ rs=some vs∧k vs:=by
 induction rs with
 |nil=>intro k h;exact ⟨[],rfl,h⟩
 |cons r rs ih=>
  intro k h;obtain ⟨v,h1,h2⟩:=QsP h;obtain ⟨vs,h3,h4⟩:=ih h2;exact ⟨v::vs,by simp only[Qbx,h1,h3],h4⟩
theorem Qlb {T:Tab} {rs:List ResultVar} {t:List AV} {σ:AH} {k:AV→Prop} (h:bres T rs t σ k):og (ares T rs t σ) k:=by
 unfold bres at h;split at h
 ·obtain ⟨v,h1,h2⟩:=QsP h;unfold ares;simp only[h1];exact h2
 ·rename_i hne;obtain ⟨vs,h1,h2⟩:=QvV _ h;unfold ares;split
  ·exact absurd rfl (hne _)
  ·simp only[h1];exact h2
def bqq (T:Tab) (rs:List ResultVar) (R:AEnd→AH→Prop):QT:=fun x t σ=>match x with
 | .normal=>bres T rs t σ fun v=>aret v σ R
 | .ret=>bres T rs t σ fun v=>aret v σ R
 | .pan v=>apan v σ R
 | .exit _=>False
def pad (n:Nat) (args:List AV):List AV:=args++List.replicate (n - args.length) (.tup [])
def tab (P:Program):Tab:=fun t=>match P.info? t,P.underlying t with
 |some i,some u=>match i.zero with
  |some z=>match Nat.beq z.cells.size i.size with
   |true=>some ⟨u,i.size,i.bytes,z, !P.stoodInHeld t&& !P.eqGuardType P.depth t⟩
   |false=>none
  |none=>none
 |_,_=>none
theorem QAz (P:Program) (hm:P.follows .mixedOrders=true):TabOk P (tab P):=by
 have key:∀t ti,tab P t=some ti→∃i,P.info? t=some i∧P.underlying t=some ti.under∧i.size=ti.size∧i.bytes=ti.bytes∧i.zero=some ti.zero∧ti.zero.cells.size=ti.size∧(ti.cmp=true→P.stoodInHeld t=false∧P.eqGuardType P.depth t=false):=by
  intro t ti h;unfold tab at h;split at h
  case h_2=>cases h
  rename_i i u h1 h2;split at h
  case h_2=>cases h
  rename_i z hz;split at h
  case h_2=>cases h
  rename_i hb;obtain rfl:=Option.some.inj h;exact ⟨i,h1,h2,rfl,rfl,hz,Nat.eq_of_beq_eq_true hb,by simp⟩
 refine ⟨hm,fun t ti h=>?_,fun t ti h=>?_,fun t ti h=>?_,fun t ti h=>?_⟩<;>obtain ⟨i,h1,h2,h3,h4,h5,h6,h7⟩:=key t ti h
 ·exact h2
 ·exact ⟨i,h1,h3,h4,h5⟩
 ·exact h6
 ·exact h7
end
section
@[reducible] def Qbj (L : Lam) (l : Nat) (o : Obj) (κ0 : Kap) : Lam :=
 ⟨fun k=>if k=l then some o else L.lo k,fun κ=>L.kp κ∧Ext κ0 κ,fun _ _ E h=>⟨L.kpm _ _ E h.1,h.2.trans E⟩⟩
section
variable [L:Lam]
theorem Rel.less {l:Nat} {o:Obj} {κ0 κ:Kap} {σ:AH} {w:World} (hl:L.lo l=none) (h:@Rel (Qbj L l o κ0) κ σ w):Rel κ σ w:=by
 obtain ⟨h1,h2,h3,h4,h5,h6,h7,h8,h9,h10⟩:=h;refine ⟨h1,h2,h3,h4,h5,h6,h7,h8,fun k o' hk=>h9 k o' ?_,h10.1⟩;show (if k=l then some o else L.lo k)=some o';rw[if_neg];· exact hk
 rintro rfl;rw[hl] at hk;cases hk
theorem Rel.more {l:Nat} {o:Obj} {κ0 κ:Kap} {σ:AH} {w:World} (h:Rel κ σ w) (ho:w.heap[l]? =some o) (hc:o.isCells=false) (E:Ext κ0 κ):@Rel (Qbj L l o κ0) κ σ w:=
 @Rel.mk (Qbj L l o κ0) κ σ w h.has h.inj h.mem h.off h.up h.fin h.bel h.bw (fun k o' hk=>by
  have hk:(if k=l then some o else L.lo k)=some o':=hk;split at hk
  ·rename_i e;cases hk;rw[e];exact ⟨ho,hc⟩
  ·exact h.obj k o' hk) ⟨h.kp,E⟩
theorem Rel.last {l:Nat} {o:Obj} {κ0 κ:Kap} {σ:AH} {w:World} (h:@Rel (Qbj L l o κ0) κ σ w):w.heap[l]? =some o∧Ext κ0 κ:=by
 obtain ⟨h1,h2,h3,h4,h5,h6,h7,h8,h9,h10⟩:=h;exact ⟨(h9 l o (if_pos rfl)).1,h10.2⟩
theorem Stp.less {l:Nat} {o:Obj} {κ0 κ κ':Kap} {σ σ':AH} {w w':World} (hl:L.lo l=none) (h:@Stp (Qbj L l o κ0) κ σ w κ' σ' w'):Stp κ σ w κ' σ' w':=by
 obtain ⟨h1,h2,h3⟩:=h;exact ⟨h1,h2.less hl,h3⟩
theorem Stp.rel' {l:Nat} {o:Obj} {κ0 κ κ':Kap} {σ σ':AH} {w w':World} (h:@Stp (Qbj L l o κ0) κ σ w κ' σ' w'):@Rel (Qbj L l o κ0) κ' σ' w':=by
 obtain ⟨h1,h2,h3⟩:=h;exact h2
theorem Rel.nocell {κ:Kap} {σ:AH} {w:World} (h:Rel κ σ w) {b:Nat} {o:Obj} (ho:w.heap[b]? =some o) (hc:o.isCells=false):∀φ F r,σ φ=some F→κ.ρ φ F.st=some r→r.b≠b:=by
 rintro φ F r hF hρ rfl;obtain ⟨r',g1,_,g3⟩:=h.has φ F hF;rw[hρ] at g1;obtain rfl:=Option.some.inj g1;obtain ⟨c,e,fz,hh,_⟩:=g3.row;rw[ho] at hh;cases hh;cases hc
theorem Rel.put {κ:Kap} {σ:AH} {w:World} (hr:Rel κ σ w) {k:Nat} {o o':Obj} (ho:w.heap[k]? =some o) (hc:o.isCells=false) (hB:κ.B≤k) (hl:L.lo k=none):Rel κ σ (w.putObj k o'):=by
 have other:∀b,b≠k→(w.putObj k o').heap[b]? =w.heap[b]? :=fun b hb=>World.putObj_heap_other hb
 have cellne:∀b o v,w.cell? ⟨b,o,none⟩=some v→b≠k:=by
  rintro b o1 v hv rfl;unfold World.cell? at hv;rw[ho] at hv;cases o<;>simp_all [Obj.isCells]
 refine ⟨?_,hr.inj,?_,hr.off,hr.up,hr.fin,?_,hr.bw,?_,hr.kp⟩
 ·intro φ F hF;obtain ⟨r,h1,h2,h3⟩:=hr.has φ F hF;exact ⟨r,h1,h2,h3.same (.refl κ) (other _ (hr.nocell ho hc φ F r hF h1))⟩
 ·intro b o v hM;have hc:=hr.mem b o v hM;rw[cell?_heap (other b (cellne b o v hc))];exact hc
 ·refine hr.bel.trans ⟨rfl,rfl,rfl,Nat.le_of_eq World.putObj_size.symm,fun b hb=>other b ?_⟩;have:b<κ.B:=hb;omega
 ·intro l o hl2;obtain ⟨h1,h2⟩:=hr.obj l o hl2;exact ⟨by rw[other l (by rintro rfl;rw[hl] at hl2;cases hl2)];exact h1,h2⟩
theorem Stp.put {κ0 κ:Kap} {σ0 σ:AH} {w0 w:World} {k:Nat} {o o':Obj} (hr0:Rel κ0 σ0 w0) (h:Stp κ0 σ0 w0 κ σ w) (hk:w0.heap.size≤k) (ho:w.heap[k]? =some o) (hc:o.isCells=false):Stp κ0 σ0 w0 κ σ (w.putObj k o'):=by
 have hl:L.lo k=none:=by
  cases e:L.lo k with
  |none=>rfl
  |some o=>have:=(Array.getElem?_eq_some_iff.1 (hr0.obj k o e).1).1;omega
 have hB:κ.B≤k:=by rw[h.ext.B];have:=hr0.bsize;omega
 refine ⟨h.ext,h.rel.put ho hc hB hl,⟨by simpa using h.fra.size,?_,h.fra.ids⟩⟩;intro b hb hu;obtain ⟨c1,c2,c3⟩:=h.fra.blk b hb hu;exact ⟨by rw[World.putObj_heap_other (by omega)];exact c1,c2,c3⟩
theorem Stp.lay {κ0 κ:Kap} {σ0 σ:AH} {w0 w:World} (h:Stp κ0 σ0 w0 κ σ w) (o:Obj):Stp κ0 σ0 w0 κ σ (w.alloc o):=by
 have hr:=h.rel;have other:∀b,b<w.heap.size→(w.alloc o).heap[b]? =w.heap[b]? :=fun b hb=>Below.heap_alloc w o b hb
 refine ⟨h.ext,⟨?_,hr.inj,?_,hr.off,hr.up,hr.fin,?_,hr.bw,?_,hr.kp⟩,⟨by have:=h.fra.size;simp;omega,?_,h.fra.ids⟩⟩
 ·intro φ F hF;obtain ⟨r,h1,h2,h3⟩:=hr.has φ F hF;exact ⟨r,h1,h2,h3.same (.refl κ) (other _ (hr.block_lt hF h1))⟩
 ·intro b o v hM;rw[cell?_heap (other b (hr.mem_lt hM))];exact hr.mem b o v hM
 ·exact hr.bel.alloc hr.bsize o
 ·intro l o hl;obtain ⟨h1,h2⟩:=hr.obj l o hl;exact ⟨by rw[other l (Array.getElem?_eq_some_iff.1 h1).1];exact h1,h2⟩
 ·intro b hb hu;obtain ⟨c1,c2,c3⟩:=h.fra.blk b hb hu;exact ⟨by rw[other b (Nat.lt_of_lt_of_le hb h.fra.size)];exact c1,c2,c3⟩
theorem QvW {P:Program} {κ:Kap} {σ:AH} {w:World} {r:Option Nat} {n0:Nat × List Deferred} {a:Act} (hr:Rel κ σ w) (hd:DF r n0 a w) (fn:FuncId) (ps:Array Tmp) (assign body:Code):
  ∃l mark w1 D,(Instr.enterLoop fn a.tmps ps assign body r).run P w= .ok (l,mark) w1∧w.heap.size≤l∧
   w1.heap[l]? =some (.loop {state:= .ready,pending:=none,fn,tmps:=a.tmps,params:=ps,assign,body,defers:=D})∧Stp κ σ w κ σ w1∧DF r n0 {a with defers:=mark++a.defers} w1:=by
 cases r with
 |none=>
  refine ⟨_,_,_,w.heap.size,run_enterLoop_outer fn a.tmps ps assign body,by omega,?_,((Stp.refl hr).lay _).lay _,?_⟩
  ·have:=World.alloc_heap_new (w.alloc (.deferred (some []))) (.loop {state:= .ready,pending:=none,fn,tmps:=a.tmps,params:=ps,assign,body,defers:=w.heap.size})
   rwa [World.size_alloc] at this
  ·have hK:∀o,((w.alloc (.deferred (some []))).alloc o).heap[w.heap.size]? =some (.deferred (some [])):=fun o=>
    (Below.heap_alloc _ _ _ (by simp)).trans (World.alloc_heap_new w _)
   have keep:∀o (k:Nat) (u:Obj),w.heap[k]? =some u→((w.alloc (.deferred (some []))).alloc o).heap[k]? =some u:=fun o k u hu=>by
    have hlt:=(Array.getElem?_eq_some_iff.1 hu).1;rw[Below.heap_alloc _ _ _ (by simp;omega),Below.heap_alloc _ _ _ hlt];exact hu
   obtain ⟨ms,m1,m2,m3⟩:=hd.mark;refine ⟨by have:=hd.le;simp;omega,⟨{target:= .collected w.heap.size,args:=#[]}::ms,by simp[m1],?_,?_⟩,fun l hl=>by cases hl⟩
   ·intro d hm;rcases List.mem_cons.1 hm with hm|hm
    ·subst hm;exact ⟨_,rfl,hd.le,hK _⟩
    ·obtain ⟨k,h1,h2,h3⟩:=m2 d hm;exact ⟨k,h1,h2,keep _ _ _ h3⟩
   ·refine List.pairwise_cons.2 ⟨fun d hm e=>?_,m3⟩;obtain ⟨k,h1,h2,h3⟩:=m2 d hm;rw[h1] at e;have hk:w.heap.size=k:=by injection e with e1 _;injection e1
    have:=(Array.getElem?_eq_some_iff.1 h3).1;omega
 |some l0=>
  obtain ⟨c,hc⟩:=hd.ro l0 rfl;refine ⟨_,_,_,c.defers,run_enterLoop_inner hc fn a.tmps ps assign body,Nat.le_refl _,World.alloc_heap_new w _,(Stp.refl hr).lay _,?_⟩;have keep:∀o (k:Nat) (u:Obj),w.heap[k]? =some u→(w.alloc o).heap[k]? =some u:=fun o k u hu=>by
   rw[Below.heap_alloc _ _ _ (Array.getElem?_eq_some_iff.1 hu).1];exact hu
  obtain ⟨ms,m1,m2,m3⟩:=hd.mark;refine ⟨by have:=hd.le;simp;omega,⟨ms,by simpa using m1,?_,m3⟩,?_⟩
  ·intro d hm;obtain ⟨k,h1,h2,h3⟩:=m2 d hm;exact ⟨k,h1,h2,keep _ _ _ h3⟩
  ·intro l hl;obtain ⟨c,hc⟩:=hd.ro l hl;exact ⟨c,keep _ _ _ hc⟩
theorem DF.put {r:Option Nat} {n0:Nat × List Deferred} {a:Act} {w:World} {l:Nat} {c c':Loop} (hd:DF r n0 a w) (hl:w.heap[l]? =some (.loop c)):DF r n0 a (w.putObj l (.loop c')):=by
 obtain ⟨ms,m1,m2,m3⟩:=hd.mark;refine ⟨by simpa using hd.le,⟨ms,m1,?_,m3⟩,?_⟩
 ·intro d hm;obtain ⟨k,h1,h2,h3⟩:=m2 d hm;refine ⟨k,h1,h2,?_⟩;rw[World.putObj_heap_other];· exact h3
  rintro rfl;rw[hl] at h3;cases h3
 ·intro k hk;obtain ⟨u,hu⟩:=hd.ro k hk;by_cases e:k=l
  ·subst e;exact ⟨c',World.putObj_heap_same (Array.getElem?_eq_some_iff.1 hl).1⟩
  ·exact ⟨u,by rw[World.putObj_heap_other e];exact hu⟩
end
def rndE (N:AH→Prop):QT:=fun x _ σ=>match x with
 | .normal=>N σ
 |_=>False
section
variable [L:Lam]
def Qg2 (P:Program) (g:AV) (Y:AV→AH→(AH→Prop)→Prop) (σ:AH) (K:AH→Prop) (Kp:AV→AH→Prop):Prop:=
 match g with
 | .clo (.func gf) [] cap=>∀(L':Lam) (l:Nat),
   (∀x σ1 N,Y x σ1 N→@ayield L' P l [x] σ1 (onr (fun v σ'=>v= .val (.bool true)∧N σ') (fun _ _=>False)))→
    @acall L' P gf (.yld l::cap) σ (onr (fun _ σ'=>K σ') Kp)
 |_=>False
theorem Qsq {P:Program} {g:AV} {Y Y':AV→AH→(AH→Prop)→Prop} {σ:AH} {K:AH→Prop} {Kp:AV→AH→Prop} (h:Qg2 P g Y σ K Kp) (k:∀x σ N,Y x σ N→Y' x σ N):Qg2 P g Y' σ K Kp:=by
 unfold Qg2 at h ⊢;split at h
 ·intro L' l hY;exact h L' l fun x σ1 N hy=>hY x σ1 N (k x σ1 N hy)
 ·exact h
theorem QuD {P:Program} {g:Operand} {p:Nat} {assign body:Code} {Q:QT} {t:List AV} {σ:AH} {K:AH→Prop} {Kp:AV→AH→Prop}
  (h:Qg2 P (QB t g) (fun x σ1 N=>swp P assign (thn (fun t σ=>swp P body (rndE N) t σ) (fun _ _ _=>False)) (t.set p x) σ1) σ K Kp)
  (hK:∀σ',K σ'→Q .normal t σ') (hKp:∀v σ',Kp v σ'→Q (.pan v) t σ'):swp P (.rangeFunc g #[p] assign body) Q t σ:=by
 intro r m n0 κ w a hr he hd;unfold Qg2 at h;split at h
 case h_2=>exact h.elim
 rename_i gf cap hg;have hv:=he.eval g;rw[hg] at hv;generalize hav:a.eval g=fv at hv;cases hv with
 |@clo _ _ _ fs cs hl1 hl2 g1 g2=>
 obtain rfl:fs=[]:=List.eq_nil_of_length_eq_zero hl1.symm;refine wpIn_rangeFunc ?_;intro fn _;obtain ⟨l,mark,w1,D,e1,e2,e3,e4,e5⟩:=QvW (P:=P) hr hd fn #[p] assign body;generalize hrec:(fun st:LoopState=>({state:=st,pending:=none,fn,tmps:=a.tmps,params:=#[p],assign,body,defers:=D}:Loop))=rec;have e3:w1.heap[l]? =some (.loop (rec .ready)):=by rw[←hrec];exact e3
 have hLl:L.lo l=none:=by
  cases e:L.lo l with
  |none=>rfl
  |some o=>have:=(Array.getElem?_eq_some_iff.1 (hr.obj l o e).1).1;omega
 have hB:κ.B≤l:=Nat.le_trans hr.bsize e2;have R1:@Rel (Qbj L l (.loop (rec .ready)) κ) κ σ w1:=e4.rel.more e3 rfl (.refl κ);have hcall:=h (Qbj L l (.loop (rec .ready)) κ) l (by
  intro x σ1 N hY m κ1 w2 vs hr2 hvs;obtain ⟨v,us,rfl,hx,hus⟩:=hvs.uncons;obtain rfl:=hus.unnil;obtain ⟨hl2,hE⟩:=hr2.last;have hr2':Rel κ1 σ1 w2:=hr2.less hLl;have hlt2:l<w2.heap.size:=(Array.getElem?_eq_some_iff.1 hl2).1;have hnc2:=hr2'.nocell hl2 rfl;refine ⟨_,_,_,_,run_yield hl2 (by rw[←hrec];rfl),roundIn_of_wpIn trivial ?_⟩;have het:EnvR κ1 (t.set p x) (((rec .ready).params.zip [v].toArray).foldl (fun tmps (t,a)=>tmps.setIfInBounds t a) (rec .ready).tmps):=by
   have e0:((rec .ready).params.zip #[v]).foldl (fun tmps (t,a)=>tmps.setIfInBounds t a) (rec .ready).tmps=a.tmps.setIfInBounds p v:=by rw[←hrec];simp
   rw[show [v].toArray=#[v] from rfl,e0];exact (he.mono hE).set p hx
  have has:(rec .ready).assign=assign:=by rw[←hrec]
  have hbo:(rec .ready).body=body:=by rw[←hrec]
  rw[has,hbo];refine Code.wpIn_mono ?_ (hY (some l) m (w2.heap.size,[]) κ1 w2 {tmps:=_,defers:=[]} hr2' het ⟨Nat.le_refl _,⟨[],rfl,(fun d hd=>by cases hd),.nil⟩,fun k hk=>by cases hk;exact ⟨_,hl2⟩⟩);rintro e a3 w3 ⟨κ3,z,t3,σ3,h1,h2,h3,h4,h5⟩;cases e<;>cases z<;>first|exact h5.elim|exact h1.elim|skip
  have f3:=h2.fra.blk l hlt2 hnc2;have hl3:w3.heap[l]? =some (.loop (rec .ready)):=f3.1.trans hl2;have hB3:κ3.B≤l:=by rw[h2.ext.B,hE.B];exact hB
  refine ⟨_,run_beginRound hl3 (by rw[←hrec]),?_⟩;have hbusy:(({rec .ready with state:= .busy}:Loop))=rec .busy:=by rw[←hrec]
  rw[hbusy];have hr4:Rel κ3 σ3 (w3.putObj l (.loop (rec .busy))):=h2.rel.put hl3 rfl hB3 hLl;have hl4:(w3.putObj l (.loop (rec .busy))).heap[l]? =some (.loop (rec .busy)):=World.putObj_heap_same (Array.getElem?_eq_some_iff.1 hl3).1;refine Code.wpIn_mono ?_ (h1 (some l) m (w2.heap.size,[]) κ3 _ a3 hr4 h3 (h4.put hl3));rintro e a5 w5 ⟨κ5,z,t5,σ5,k1,k2,k3,k4,k5⟩;cases e<;>cases z<;>first|exact k5.elim|exact k1.elim|skip
  have f5:=k2.fra.blk l (Array.getElem?_eq_some_iff.1 hl4).1 (hr4.nocell hl4 rfl);have hl5:w5.heap[l]? =some (.loop (rec .busy)):=f5.1.trans hl4;refine ⟨_,_,run_endRound none hl5,?_⟩;have hback:({rec .busy with state:=(if (none:Option Code).isNone then .ready else .done),pending:=none}:Loop)=rec .ready:=by rw[←hrec];rfl
  rw[hback];have hB5:κ5.B≤l:=by rw[k2.ext.B];exact hB3
  have hr6:Rel κ5 σ5 (w5.putObj l (.loop (rec .ready))):=k2.rel.put hl5 rfl hB5 hLl;have hl6:(w5.putObj l (.loop (rec .ready))).heap[l]? =some (.loop (rec .ready)):=World.putObj_heap_same (Array.getElem?_eq_some_iff.1 hl5).1;have hE5:Ext κ1 κ5:=h2.ext.trans k2.ext;refine ⟨κ5,.ret (.val (.bool true)),σ5,⟨rfl,k1⟩,@Stp.mk (Qbj L l (.loop (rec .ready)) κ) _ _ _ _ _ _ hE5 (hr6.more hl6 rfl (hE.trans hE5)) ⟨?_,?_,?_⟩,.val _⟩
  ·have s1:=h2.fra.size;have s2:=k2.fra.size;simp at s2 ⊢;omega
  ·intro b hb hu;obtain ⟨c1,c2,c3⟩:=h2.fra.blk b hb hu;by_cases eb:b=l
   ·subst eb;exact ⟨by rw[hl6,hl2],fun o=>(f5.2.1 o).trans (c2 o),f5.2.2⟩
   ·obtain ⟨d1,d2,d3⟩:=k2.fra.blk b (by have:=h2.fra.size;simp;omega) c3;exact ⟨by rw[World.putObj_heap_other eb,d1,World.putObj_heap_other eb,c1],fun o=>(d2 o).trans (c2 o),d3⟩
  ·intro φ hn hex;obtain ⟨i1,i2⟩:=h2.fra.ids φ hn hex;obtain ⟨st,q,hq⟩:=hex;obtain ⟨j1,j2⟩:=k2.fra.ids φ i1 ⟨st,q,by rw[i2];exact hq⟩;exact ⟨j1,fun st=>(j2 st).trans (i2 st)⟩)
 obtain ⟨gfn,q1,q2,q3,q4⟩:=hcall;have hargs:VRs κ (.yld l::cap) (Value.func (.yield l) #[] #[]::cs):=VRs.cons (.yld l) ⟨hl2,g2⟩;have hc:=q4 κ w1 _ R1 hargs;refine ⟨l,mark,w1,{target:= .fn (.func gf) cs.toArray,args:=#[.func (.yield l) #[] #[]]},w1,gf,(Value.func (.yield l) #[] #[]::cs).toArray,w1,e1,?_,fun _ _=>trivial,?_,(fun h=>by cases h),Qd3.2 (hc.mono ?_)⟩
 ·simp only[resolve,hav];simp[go_sem]
 ·simp only[invoke,callFunc,Sem.run_bind,Sem.run_pure,Result.andThen_ok,run_program,q1,q2,q3,Bool.false_eq_true,if_false];simp
 ·rintro e w3 ⟨κ',ae,σ',k1,k2,k3⟩;have k3':=k2.less hLl;have k2':Stp κ σ w κ' σ' w3:=e4.trans k3';have hl3:=k2.rel'.last.1;have he':EnvR κ' t a.tmps:=he.mono k3'.ext;have hd':DF r n0 {a with defers:=mark++a.defers} w3:=e5.stp (a:={a with defers:=mark++a.defers}) e4.rel k3' rfl;cases e<;>cases ae<;>first|exact k3.elim|skip
  ·have hend:=run_endLoop (P:=P) hl3 (by rw[←hrec];simp);rw[show (rec .ready).pending=none by rw[←hrec]] at hend;exact ⟨none,_,hend,κ',.normal,t,σ',hK σ' k1,k2'.put hr e2 hl3 rfl,he',hd'.put hl3,trivial⟩
  ·obtain ⟨v,rfl,hv⟩:=k3;exact ⟨κ',.pan _,t,σ',hKp _ _ k1,k2',he',hd',v,rfl,hv⟩
end
end
end Go.Proofs.YtggnjjalfnhiiaaGreatDoor.E

import Derived.Test.YtggnjjalfnhiiaaGreatDoorPG3
import Derived.Orders
/- The engine, part 17: what is looked up first is what is looked up at last. -/
set_option linter.unusedSectionVars false
namespace Go.Proofs.YtggnjjalfnhiiaaGreatDoor.E
open Go Go.RowKit
section
variable [Lam]
theorem QpY {T:Tab} {t:TypeId} {ti:TI} (ht:T t=some ti) (ha:Un ti.under=false) (hs:ti.size=1) {p:AV} {σ:AH} (v:AV) (h:lod p σ=some v):Qcc T t p σ=some v:=by
 unfold lod at h;unfold Qcc;rw[ht];cases hc:Ja σ p with
 |none=>rw[hc] at h;cases h
 |some cs=>
  rw[hc] at h;cases cs with
  |nil=>cases h
  |cons c r=>obtain rfl:=Option.some.inj h;simp[ha,hs]
theorem QnC {T:Tab} {t:TypeId} {ti:TI} (ht:T t=some ti) (ha:Un ti.under=true) {p:AV} {σ:AH} (v:AV) (h:lodA ti.size p σ=some v):Qcc T t p σ=some v:=by
 unfold lodA at h;unfold Qcc;rw[ht];cases hc:Ja σ p with
 |none=>rw[hc] at h;cases h
 |some cs=>
  rw[hc] at h;simp only at h ⊢;split at h
  ·rename_i hn;rw[if_pos hn,ha];exact h
  ·cases h
theorem QxH {T:Tab} {t:TypeId} {f o n:Nat} {b:Bool} (h:Qcg T t f=some (o,n+1,b)) {p:AV} (v:AV) (hv:fldA o p=some v):Qcd T t p f=some v:=by
 obtain ⟨ti,fs,fl,tf,h1,h2,h3,h4,rfl,h6,_⟩:=Qig h;unfold Qcd;simp only[h1,h2,h3,h4];rw[if_neg (by omega)];exact hv
theorem QxI {T:Tab} {t:TypeId} {f o n:Nat} (h:Qcg T t f=some (o,n,false)) {x:AV} (v:AV) (hv:fldV o x=some v):Qeu T t x f=some v:=by
 obtain ⟨ti,fs,fl,tf,h1,h2,h3,h4,rfl,rfl,h7⟩:=Qig h;unfold fldV at hv;split at hv
 case h_2=>cases hv
 unfold Qeu apart;simp only[h1,h2,h3,h4,h7];exact hv
theorem QxJ {T:Tab} {t:TypeId} {f o n:Nat} (h:Qcg T t f=some (o,n,true)) {x:AV} (v:AV) (hv:fldG o n x=some v):Qeu T t x f=some v:=by
 obtain ⟨ti,fs,fl,tf,h1,h2,h3,h4,rfl,rfl,h7⟩:=Qig h;unfold fldG at hv;split at hv
 case h_2=>cases hv
 unfold Qeu apart;simp only[h1,h2,h3,h4,h7];exact hv
theorem QAv {T:Tab} {t:TypeId} {te:TI} (h:JB T t=some te) {x i:AV} {σ:AH} (v:AV) (hv:idx te.size x i σ=some v):Us T t x i σ=some v:=by
 obtain ⟨ti,e,h1,h2,h3⟩:=Qch h;unfold idx at hv;split at hv
 case h_2=>cases hv
 split at hv
 ·unfold Us;simp only[h1,h2,h3];exact hv
 ·unfold Us;simp only[h1,h2,h3];split at hv
  ·rename_i F hF;simp only[hF];exact hv
  ·cases hv
 ·cases hv
theorem Quo {T:Tab} {t e:TypeId} {ti te:TI} {n:Nat} (h1:T t=some ti) (h2:ti.under= .array n e) (h3:T e=some te) {x i:AV} {σ:AH} (v:AV) (hv:idxArr n te.size x i=some v):Us T t x i σ=some v:=by
 unfold idxArr at hv;split at hv
 case h_2=>cases hv
 split at hv
 ·unfold Us;simp only[h1,h2,h3];exact hv
 ·unfold Us;simp only[h1,h2,h3];exact hv
 ·cases hv
theorem Qup {T:Tab} {t:TypeId} (h:UD T t=true) {x i:AV} (v:AV) (hv:idxStr x i=some v):QgS T t x i=some v:=by
 obtain ⟨ti,h1,h2⟩:=Qif h;unfold idxStr at hv;split at hv
 case h_2=>cases hv
 split at hv
 ·unfold QgS;simp only[h1,h2];exact hv
 ·cases hv
theorem QxK {T:Tab} {t:TypeId} {te:TI} (h:JB T t=some te) {x:AV} (v:AV) (hv:lenS x=some v):alen T t x=some v:=by
 obtain ⟨ti,e,h1,h2,h3⟩:=Qch h;unfold lenS at hv;split at hv<;>first|(cases hv;done)|(unfold alen;simp only[h1,h2];exact hv)
theorem Quq {T:Tab} {t:TypeId} (h:UD T t=true) {x:AV} (v:AV) (hv:lenStr x=some v):alen T t x=some v:=by
 obtain ⟨ti,h1,h2⟩:=Qif h;unfold lenStr at hv;split at hv
 ·unfold alen;simp only[h1,h2];exact hv
 ·cases hv
theorem Qur {T:Tab} {t:TypeId} (h:UD T t=true) {x:AV} {lo hi:Option AV} {σ:AH} (v:AV) (hv:slcStr x lo hi=some v):Qaz T t x lo hi none σ=some v:=by
 obtain ⟨ti,h1,h2⟩:=Qif h;unfold slcStr at hv;split at hv
 case h_2=>cases hv
 unfold Qaz;simp only[h1,h2];split at hv
 ·rename_i l h' e1 e2;simp only[e1,e2];exact hv
 ·cases hv
theorem QAw {T:Tab} {t:TypeId} {te:TI} (h:JB T t=some te) {x:AV} {lo hi mx:Option AV} {σ:AH} (v:AV) (hv:slc te.size x lo hi mx σ=some v):Qaz T t x lo hi mx σ=some v:=by
 obtain ⟨ti,e,h1,h2,h3⟩:=Qch h;unfold slc at hv;split at hv
 ·unfold Qaz;simp only[h1,h2,h3];split at hv
  ·rename_i l h' m e1 e2 e3;simp only[e1,e2,e3];exact hv
  ·cases hv
 ·unfold Qaz;simp only[h1,h2,h3];split at hv
  ·rename_i F l h' e0 e1 e2;simp only[e0,e1,e2];exact hv
  ·rename_i F l h' m e0 e1 e2;simp only[e0,e1,e2];exact hv
  ·cases hv
 ·unfold Qaz;simp only[h1,h2,h3];split at hv
  ·rename_i e1 e2;simp only[e1,e2];exact hv
  ·cases hv
 ·unfold Qaz;simp only[h1,h2,h3];split at hv
  ·rename_i e1 e2;simp only[e1,e2];exact hv
  ·cases hv
 ·cases hv
theorem QAx {T:Tab} {ats:Array TypeId} {sz:Nat} (h:QqX T ats=some sz) {s x:AV} {σ:AH} {k:AV→AH→Prop} (hv:app sz s x σ k):QgU T ats s x σ k:=by
 unfold QqX at h;split at h
 case h_2=>cases h
 rename_i t u h0 h1;split at h
 case h_2=>cases h
 rename_i ti tu h2 h3;split at h
 ·cases h
 rename_i hni;split at h
 case h_2=>cases h
 rename_i e he;split at h
 case h_2=>cases h
 rename_i te hte;split at h
 case h_2=>cases h
 rename_i b1 b2;obtain rfl:=Option.some.inj h;unfold app at hv;split at hv
 case h_2=>exact hv.elim
 rename_i xs hx;unfold QgU;obtain ⟨g1,g2⟩:=hv;simp only[h0,h1,h2,h3,hx,he,hte];exact ⟨g1,Nat.le_of_ble_eq_true b1,Nat.le_of_ble_eq_true b2,g2⟩
theorem QxL {T:Tab} {op:BinOp} {t:TypeId} {x y:AV} {k:AV→Prop} (h:og (ibin op x y) k):abin T op t x y k:=by
 obtain ⟨v,hv,hk⟩:=Ud h;unfold ibin at hv;split at hv
 case h_2=>cases hv
 unfold abin;simp only[hv];exact hk
theorem QxM {T:Tab} {op:BinOp} {t:TypeId} {x y:AV} {k:AV→Prop} (h:og (sbin op x y) k):abin T op t x y k:=by
 obtain ⟨v,hv,hk⟩:=Ud h;unfold sbin at hv;split at hv
 case h_2=>cases hv
 unfold abin;simp only[hv];exact hk
theorem Qci {P:Program} {T:Tab} {o:Op} {ev:Operand→AV} {σ:AH} {K:AEnd→AH→Prop} (h:bop P T o ev σ K):aop P T o ev σ K:=by
 unfold bop at h;split at h
 ·exact h
 ·exact h
 ·obtain ⟨v,hv,hk⟩:=Ud h;simp only[aop];unfold pickV at hv;split at hv
  ·rename_i e;simp only[e,apick];obtain rfl:=Option.some.inj hv;exact hk
  ·rename_i e;simp only[e,apick];obtain rfl:=Option.some.inj hv;exact hk
  ·cases hv
 ·split at h
  ·rename_i ti ht;show Qnx T _ σ _;unfold Qnx abox;simp only[ht,Qtv];exact h
  ·exact h.elim
 ·exact h
 ·split at h
  case h_2=>exact h.elim
  rename_i ti ht;split at h
  ·rename_i fs hfs;split at h
   case h_2=>exact h.elim
   rename_i pl hpl;refine QaU (fun v hv=>?_) h;unfold bld at hv;unfold QgT;simp only[ht,hfs,hpl];exact hv
  ·exact h
 ·split at h
  case h_2=>exact h.elim
  rename_i te hte;obtain ⟨ti,e,h1,h2,h3⟩:=Qch hte;unfold bsl at h;simp only[aop];unfold Qc2;simp only[h1,h2,h3];exact h
 ·split at h
  case h_2=>exact h.elim
  rename_i ti ht;split at h
  ·rename_i n ha;exact QaU (QnC ht ha) h
  ·rename_i ha hs;exact QaU (QpY ht ha hs) h
  ·exact h.elim
 ·split at h
  case h_2=>exact h.elim
  rename_i ti ht;show QjQ T _ _ _ σ _;unfold sto at h;split at h
  case h_2=>exact h.elim
  rename_i e1 e2;unfold QjQ;simp only[ht,e1,e2];exact h
 ·exact h
 ·split at h
  ·refine (QxL ?_:abin T _ _ _ _ _);exact h
  ·refine (QxM ?_:abin T _ _ _ _ _);exact h
  ·exact h
 ·split at h
  ·rename_i te _ _ _ hte;exact QaU (QAw hte) h
  ·rename_i hs _;exact QaU (Qur hs) h
  ·exact h
 ·split at h
  ·rename_i hf;exact QaU (QxH hf) h
  ·exact h.elim
 ·split at h
  ·rename_i hf;exact QaU (QxJ hf) h
  ·rename_i hf;exact QaU (QxI hf) h
  ·exact h.elim
 ·split at h
  ·rename_i te hte;exact QaU (QAv hte) h
  ·split at h
   case h_2=>exact h.elim
   rename_i ti ht;split at h
   case h_2=>exact h.elim
   rename_i len e he;split at h
   case h_2=>exact h.elim
   rename_i te hte;exact QaU (Quo ht he hte) h
 ·split at h
  ·rename_i hs;exact QaU (Qup hs) h
  ·exact h
 ·rename_i c;show (match c.callee with| .value f=>_| .builtin b=>_| .invoke _ _=>_);split at h
  ·rename_i hc;simp only[hc];exact h
  ·rename_i b hc;simp only[hc];split at h
   ·rename_i hx;simp only[hx];split at h
    case h_2=>exact h.elim
    rename_i t ht;simp only[ht];split at h
    ·rename_i _ hs;exact QaU (QxK hs) h
    ·rename_i hs _;exact QaU (Quq hs) h
    ·exact h
   ·rename_i hx;simp only[hx];split at h
    case h_2=>exact h.elim
    rename_i sz hsz;exact QAx hsz h
   ·rename_i hx;simp only[hx];exact h
   ·rename_i hx;simp only[hx];exact h
   ·rename_i hx;simp only[hx];exact h
   ·exact h.elim
  ·exact h.elim
 ·exact h
end
section
variable [Lam]
def gpick (x:AV) (a b c:Prop):Prop:=match x with
 | .val (.bool true)=>a
 | .val (.bool false)=>b
 | .tup []=>c
 |_=>False
def fgm (ms:List (Nat × Nat)) (p:Nat) (t:List AV):List AV:=match lk p ms with
 |some m=>Qrh m t
 |none=>t
theorem EnvR.fgm {κ:Kap} {t:List AV} {a:Array Value} (h:EnvR κ t a) (ms:List (Nat × Nat)) (p:Nat):EnvR κ (fgm ms p t) a:=by
 unfold E.fgm;split
 ·exact .ofList (Qun _ _ _ h.toList)
 ·exact h
def lkl (p:Nat) (l:List (Nat × List (Nat × Nat))):List (Nat × Nat):=match lk p l with
 |some m=>m
 |none=>[]
def QbW (ops:Array Oper) (j:Nat):Bool:=match ops[j]? with
 |some o=>match o.guard with|some _=>true|none=>false
 |none=>false
def bgd (ops:Array Oper) (o:Oper) (t:List AV) (run skip:List AV→Prop):Prop:=match o.guard with
 |none=>run t
 |some (j,want)=>match Qcf ops j with
  |some s=>gpick (t.getD s .any)
    (match want with|true=>run (t.set s (.val (.bool true)))|false=>skip (t.set s (.val (.bool true))))
    (match want with|true=>skip (t.set s (.val (.bool false)))|false=>run (t.set s (.val (.bool false))))
    (match QbW ops j with|true=>skip (t.set s (.tup []))|false=>False)
  |none=>False
def gval (b:AV) (want g:Bool) (x:Option AV):Option AV:=match b with
 | .val (.bool true)=>(match want with|true=>x|false=>some (.tup []))
 | .val (.bool false)=>(match want with|true=>some (.tup [])|false=>x)
 | .tup []=>(match g with|true=>some (.tup [])|false=>none)
 |_=>none
def gvo (ops:Array Oper) (o:Oper) (t:List AV) (x:Option AV):Option AV:=match o.guard with
 |none=>x
 |some (j,want)=>match Qcf ops j with
  |some s=>gval (t.getD s .any) want (QbW ops j) x
  |none=>none
theorem QnD {κ:Kap} {ops:Array Oper} {o:Oper} {t:List AV} {a:Act} {run skip:List AV→Prop} (he:EnvR κ t a.tmps) (h:bgd ops o t run skip):
  (Region.wanted o (yielded ops a.tmps)=true∧run t)∨(Region.wanted o (yielded ops a.tmps)=false∧skip t):=by
 unfold bgd at h;split at h
 ·rename_i hg;exact .inl ⟨by simp[Region.wanted,hg],h⟩
 ·rename_i j want hg;split at h
  case h_2=>exact h.elim
  rename_i s hs;have hslot:=he.at s;have hy:yielded ops a.tmps j=match a.tmps.getD s undef with| .bool b=>some b|_=>none:=by
   unfold yielded;have:(ops[j]?).bind (·.dst)=some s:=hs
   rw[this];simp only[Option.bind_some];simp only[Array.getD_eq_getD_getElem?];cases hh:a.tmps[s]? with
   |none=>rfl
   |some v=>cases v<;>rfl
  unfold gpick at h;split at h
  ·rename_i hb;rw[hb] at hslot;rw[Q9 hb] at h;generalize hv:a.tmps.getD s undef=sv at hslot hy;cases hslot;cases want
   ·exact .inr ⟨by simp[Region.wanted,hg,hy],h⟩
   ·exact .inl ⟨by simp[Region.wanted,hg,hy],h⟩
  ·rename_i hb;rw[hb] at hslot;rw[Q9 hb] at h;generalize hv:a.tmps.getD s undef=sv at hslot hy;cases hslot;cases want
   ·exact .inl ⟨by simp[Region.wanted,hg,hy],h⟩
   ·exact .inr ⟨by simp[Region.wanted,hg,hy],h⟩
  ·rename_i hb;rw[hb] at hslot;rw[Q9 hb] at h;generalize hv:a.tmps.getD s undef=sv at hslot hy;cases hslot;split at h
   ·exact .inr ⟨by simp[Region.wanted,hg,hy],h⟩
   ·exact h.elim
  ·exact h.elim
end
section
variable [Lam]
def QqY (T:Tab) (t:TypeId) (x y:AV):Option Bool:=
 match T t with
 |some ti=>match ti.under,x,y with
  | .slice _,.own _ _ _ _,.val (.slice none 0 0)=>some false
  | .slice _,.vw _ _ _ _,.val (.slice none 0 0)=>some false
  | .slice _,.ro (_::_),.val (.slice none 0 0)=>some false
  | .slice _,.val (.slice none 0 0),.val (.slice none 0 0)=>some true
  | .pointer _,.ptr _ _ _ _,.val (.pointer none)=>some false
  | .pointer _,.rop _ _,.val (.pointer none)=>some false
  | .pointer _,.val (.pointer none),.val (.pointer none)=>some true
  | .func _ _ _,.clo _ _ _,.val .nilFunc=>some false
  | .func _ _ _,.val .nilFunc,.val .nilFunc=>some true
  | .bool,.val (.bool a),.val (.bool b)=>some (a==b)
  | .struct _,.agg xs,.agg ys=>match ti.cmp,aeq T 8 t (.agg xs) (.agg ys) with
   |true,some b=>some b
   |_,_=>none
  |_,_,_=>none
 |none=>none
def Qtw (T:Tab) (op:BinOp) (t:TypeId) (x y:AV):Option AV:=match op with
 | .eql=>(QqY T t x y).map fun b=> .val (.bool b)
 | .neq=>(QqY T t x y).map fun b=> .val (.bool !b)
 |_=>none
def plain (x:AV):Bool:=match x with
 | .val (.int _ _)| .val (.string _)=>false
 |_=>true
def cmpV (T:Tab) (op:BinOp) (t:TypeId) (x y:AV):Option AV:=match plain x with|true=>Qtw T op t x y|false=>none
theorem Qrk {T:Tab} {t:TypeId} {x y:AV} {b:Bool} {k:Bool→Prop} (h:QqY T t x y=some b) (hk:k b):aeql T t x y k:=by
 unfold QqY at h;split at h
 case h_2=>cases h
 rename_i ti ht;unfold aeql;simp only[ht];split at h
 ·rename_i e;simp only[e];obtain rfl:=Option.some.inj h;exact hk
 ·rename_i e;simp only[e];obtain rfl:=Option.some.inj h;exact hk
 ·rename_i e;simp only[e];obtain rfl:=Option.some.inj h;intro b hb;rw[hb (by simp)];exact hk
 ·rename_i e;simp only[e];obtain rfl:=Option.some.inj h;exact hk
 ·rename_i e;simp only[e];obtain rfl:=Option.some.inj h;exact hk
 ·rename_i e;simp only[e];obtain rfl:=Option.some.inj h;exact hk
 ·rename_i e;simp only[e];obtain rfl:=Option.some.inj h;exact hk
 ·rename_i e;simp only[e];obtain rfl:=Option.some.inj h;exact hk
 ·rename_i e;simp only[e];obtain rfl:=Option.some.inj h;exact hk
 ·rename_i e;simp only[e];obtain rfl:=Option.some.inj h;exact hk
 ·rename_i e;split at h
  ·rename_i e1 e2;obtain rfl:=Option.some.inj h;simp only[e,e1,e2];exact hk
  ·cases h
 ·cases h
theorem QvL {T:Tab} {op:BinOp} {t:TypeId} {x y v:AV} {k:AV→Prop} (hp:plain x=true) (h:Qtw T op t x y=some v) (hk:k v):abin T op t x y k:=by
 unfold Qtw at h;unfold abin;split
 ·cases hp
 ·cases hp
 ·split at h
  ·obtain ⟨b,h1,rfl⟩:=Option.map_eq_some_iff.mp h;exact Qrk h1 hk
  ·obtain ⟨b,h1,rfl⟩:=Option.map_eq_some_iff.mp h;exact Qrk h1 hk
  ·cases h
def bval (T:Tab) (o:Op) (ev:Operand→AV) (σ:AH):Option AV:=
 match o with
 | .move x| .assign x=>some (ev x)
 | .pick c a b=>pickV (ev c) (ev a) (ev b)
 | .build t ps=>match T t with
  |some ti=>match ti.under with
   | .struct fs=>match QcN T fs.toList with
    |some pl=>bld (ti.zero.cells.toList.map .val) pl (ps.toList.map fun p=>(p.1,ev p.2))
    |none=>none
   | .array n e=>match T e with
    |some te=>bld (ti.zero.cells.toList.map .val) ((List.range n).map fun i=>(i*te.size,te.size)) (ps.toList.map fun p=>(p.1,ev p.2))
    |none=>none
   |_=>none
  |none=>none
 | .load t a=>match T t with
  |some ti=>match Un ti.under,ti.size with
   |true,n=>lodA n (ev a) σ
   |false,1=>lod (ev a) σ
   |_,_=>none
  |none=>none
 | .nilCheck x=>anil (ev x)
 | .binOp op t x y _=>match Qd5 T t,UD T t with
  |true,_=>ibin op (ev x) (ev y)
  |_,true=>sbin op (ev x) (ev y)
  |_,_=>cmpV T op t (ev x) (ev y)
 | .unOp op _ x=>aun op (ev x)
 | .convert s d x=>match Qd5 T s,Qd5 T d,ev x with
  |true,true,.val (.int _ n)=>match T d with
   |some td=>match td.under with| .int kd=>some (.val (.int kd (kd.wrap n)))|_=>none
   |none=>none
  |_,_,_=>none
 | .slice t x lo hi mx=>match JB T t,UD T t,mx with
  |some te,_,_=>slc te.size (ev x) (lo.map ev) (hi.map ev) (mx.map ev) σ
  |_,true,none=>slcStr (ev x) (lo.map ev) (hi.map ev)
  |_,_,_=>none
 | .fieldAddr t x f=>match Qcg T t f with
  |some (o,_+1,_)=>fldA o (ev x)
  |_=>none
 | .field t x f=>match Qcg T t f with
  |some (o,n,true)=>fldG o n (ev x)
  |some (o,_,false)=>fldV o (ev x)
  |none=>none
 | .indexAddr t x i=>match JB T t with
  |some te=>idx te.size (ev x) (ev i) σ
  |none=>match T t with
   |some ti=>match ti.under with
    | .array len e=>match T e with
     |some te=>idxArr len te.size (ev x) (ev i)
     |none=>none
    |_=>none
   |none=>none
 | .index t x i=>match UD T t with
  |true=>idxStr (ev x) (ev i)
  |false=>none
 | .extract x i=>aext (ev x) i
 | .call c=>match c.callee with
  | .builtin b=>match b,c.args.toList with
   | .len,[x]=>match c.argTypes[0]? with
    |some t=>match JB T t,UD T t with
     |some _,_=>lenS (ev x)
     |_,true=>lenStr (ev x)
     |_,_=>none
    |none=>none
   | .max,[x,y]=>amm true (ev x) (ev y)
   | .max,[x,y,z]=>amm3 true (ev x) (ev y) (ev z)
   | .min,[x,y]=>amm false (ev x) (ev y)
   |_,_=>none
  |_=>none
 |_=>none
def Qbi (o:Op):Bool:=match o with
 | .move _| .assign _| .pick _ _ _| .build _ _| .load _ _| .nilCheck _| .binOp _ _ _ _ _| .unOp _ _ _| .convert _ _ _| .slice _ _ _ _ _| .fieldAddr _ _ _| .field _ _ _| .indexAddr _ _ _| .index _ _ _| .extract _ _=>true
 | .call c=>match c.callee with
  | .builtin .len| .builtin .max| .builtin .min=>true
  |_=>false
 |_=>false
def Qc4 (o:Op):Bool:=match o with
 | .load _ _| .slice _ _ _ _ _| .indexAddr _ _ _=>true
 |_=>false
theorem QvM {pl pl':Nat→Option (Nat × Nat)} (h:∀i x,pl i=some x→pl' i=some x):∀(ps:List (Nat × AV)) (cs r:List AV),Qce pl cs ps=some r→Qce pl' cs ps=some r:=by
 intro ps
 induction ps with
 |nil=>intro cs r e;exact e
 |cons p ps ih=>
  obtain ⟨i,x⟩:=p;intro cs r e;simp only[Qce] at e ⊢;cases hp:pl i with
  |none=>simp[hp] at e
  |some y=>
   rw[h i y hp];rw[hp] at e;cases hx:JF x with
   |none=>simp[hx] at e
   |some xs=>
    rw[hx] at e;simp only[] at e ⊢;split at e
    ·rename_i hc;rw[if_pos hc];exact ih _ _ e
    ·cases e
theorem Qev {P:Program} {T:Tab} {o:Op} {ev:Operand→AV} {σ:AH} {K:AEnd→AH→Prop} {v:AV} (h:bval T o ev σ=some v) (hk:K (.ret v) σ):bop P T o ev σ K:=by
 have og1:∀{x:Option AV},x=some v→og x (fun v=>K (.ret v) σ):=by intro x e;rw[e];exact hk
 unfold bval at h;unfold bop;split at h
 ·obtain rfl:=Option.some.inj h;exact hk
 ·obtain rfl:=Option.some.inj h;exact hk
 ·exact og1 h
 ·split at h
  case h_2=>cases h
  rename_i ti ht;split at h
  case h_3=>cases h
  ·rename_i fs hfs;split at h
   case h_2=>cases h
   rename_i pl hpl;simp only[ht,hfs,hpl];exact og1 h
  ·rename_i n e hfs;split at h
   case h_2=>cases h
   rename_i te hte;simp only[ht,hfs];refine og1 ?_;unfold bld at h;unfold QgT;simp only[ht,hfs,hte];obtain ⟨r,hr,rfl⟩:=Option.map_eq_some_iff.1 h;rw[QvM (pl':=fun i=>some (i*te.size,te.size)) ?_ _ _ _ hr];· rfl
   intro i x hx;simp only[List.getElem?_map,Option.map_eq_some_iff] at hx;obtain ⟨j,hj,rfl⟩:=hx;obtain ⟨h1,h2⟩:=List.getElem?_eq_some_iff.1 hj;rw[List.getElem_range] at h2;rw[h2]
 ·split at h
  case h_2=>cases h
  rename_i ti ht;split at h
  ·rename_i n ha;simp only[ht,ha];exact og1 h
  ·rename_i ha hs;simp only[ht,ha,hs];exact og1 h
  ·cases h
 ·exact og1 h
 ·split at h
  ·rename_i hi;simp only[hi];exact og1 h
  ·rename_i hi hs;simp only[hi];exact og1 h
  ·unfold cmpV at h;split at h
   ·rename_i hi hs _ hp;simp only;exact QvL hp h hk
   ·cases h
 ·exact og1 h
 ·split at h
  case h_2=>cases h
  rename_i hs hd hx;split at h
  case h_2=>cases h
  rename_i td htd;split at h
  case h_2=>cases h
  rename_i kd hkd;obtain rfl:=Option.some.inj h;unfold Qd5 at hs;split at hs
  case h_2=>cases hs
  rename_i ts hts;simp only[aop];unfold Qd4;simp only[hts,htd,hkd,hx];exact hk
 ·split at h
  ·rename_i hs;simp only[hs];exact og1 h
  ·rename_i hs _;simp only[hs];exact og1 h
  ·cases h
 ·split at h
  ·rename_i hf;simp only[hf];exact og1 h
  ·cases h
 ·split at h
  ·rename_i hf;simp only[hf];exact og1 h
  ·rename_i hf;simp only[hf];exact og1 h
  ·cases h
 ·split at h
  ·rename_i hs;simp only[hs];exact og1 h
  ·rename_i hs;split at h
   case h_2=>cases h
   rename_i ti ht;split at h
   case h_2=>cases h
   rename_i len e he;split at h
   case h_2=>cases h
   rename_i te hte;simp only[hs,ht,he,hte];exact og1 h
 ·split at h
  ·rename_i hs;simp only[hs];exact og1 h
  ·cases h
 ·simp only[aop];exact og1 h
 ·split at h
  case h_2=>cases h
  rename_i b hc;simp only[hc];split at h
  ·rename_i hx;simp only[hx];split at h
   case h_2=>cases h
   rename_i t ht;simp only[ht];split at h
   ·rename_i h1;simp only[h1];exact og1 h
   ·rename_i h1 h2;simp only[h1];exact og1 h
   ·cases h
  ·rename_i hx;simp only[hx];exact og1 h
  ·rename_i hx;simp only[hx];exact og1 h
  ·rename_i hx;simp only[hx];exact og1 h
  ·cases h
 ·cases h
def bslR (sz:Nat) (z:List AV) (n:Nat) (ps:List (Nat × AV)):Option AV:=match JD sz (List.replicate n z) ps with
 |some es=>if n*sz≤2 ^ 24∧(∀c,c∈es→c.length=sz) then some (if n=0 then .emp else .ro es) else none
 |none=>none
def b2s (x:AV):Option AV:=match x with
 | .ro es=>(Qde es).map fun bs=> .val (.string ⟨bs.toArray⟩)
 |_=>none
def QgX (T:Tab) (s d:TypeId):Bool:=match T s,T d with
 |some ts,some td=>match ts.under,td.under with
  | .slice e,.string=>match T e with
   |some te=>match te.under with
    | .int .u8=>Nat.beq te.size 1
    |_=>false
   |none=>false
  |_,_=>false
 |_,_=>false
def Jl (o:Op):Bool:=match o with
 | .buildSlice _ _ _=>true
 |o=>Qbi o
def JL (T:Tab) (o:Op) (ev:Operand→AV) (σ:AH):Option AV:=match o with
 | .buildSlice t n ps=>match JB T t with
  |some te=>bslR te.size (te.zero.cells.toList.map .val) n (ps.toList.map fun p=>(p.1,ev p.2))
  |none=>none
 | .convert s d x=>match QgX T s d with
  |true=>b2s (ev x)
  |false=>bval T (.convert s d x) ev σ
 |o=>bval T o ev σ
theorem UF {o:Op} (h:Jl o=false):Qbi o=false:=by
 unfold Jl at h;split at h
 ·cases h
 ·exact h
theorem Ql7 {T:Tab} {o:Op} (hr:Qc4 o=false) (ev:Operand→AV) (σ σ':AH):JL T o ev σ=JL T o ev σ':=by
 cases o<;>first|rfl|cases hr
end
end Go.Proofs.YtggnjjalfnhiiaaGreatDoor.E

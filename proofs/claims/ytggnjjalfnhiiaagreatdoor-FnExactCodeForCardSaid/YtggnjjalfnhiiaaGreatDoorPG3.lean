import Derived.Test.YtggnjjalfnhiiaaGreatDoorPG2
/- The engine, part 16: operations where types are looked up first, so that what is left speaks of no table. -/
set_option linter.unusedSectionVars false
namespace Go.Proofs.YtggnjjalfnhiiaaGreatDoor.E
open Go Go.RowKit
section
variable [Lam]
def new (xs:List AV) (σ:AH) (k:AV→AH→Prop):Prop:=∀φ,σ φ=none→k (.ptr φ 0 0 0) (σ.set φ ⟨0,xs.length,[xs]⟩)
def lod (p:AV) (σ:AH):Option AV:=match Ja σ p with|some (c::_)=>some c|_=>none
def lodA (n:Nat) (p:AV) (σ:AH):Option AV:=match Ja σ p with|some cs=>if n≤cs.length then some (.agg (cs.take n)) else none|none=>none
def sto (n:Nat) (p v:AV) (σ:AH) (k:AH→Prop):Prop:=
 match p,JF v with
 | .ptr φ st i off,some xs=>xs.length=n∧(∀x,x∈xs→x.one=true)∧∃F,σ φ=some F∧F.st=st∧i<F.es.length∧off+xs.length≤F.sz∧k (σ.set φ (F.splice i off xs))
 |_,_=>False
def bld (zs:List AV) (pl:List (Nat × Nat)) (ps:List (Nat × AV)):Option AV:=(Qce (fun i=>pl[i]?) zs ps).map .agg
def bsl (sz:Nat) (z:List AV) (n:Nat) (ps:List (Nat × AV)) (σ:AH) (k:AV→AH→Prop):Prop:=
 match JD sz (List.replicate n z) ps with
 |some es=>n*sz≤2 ^ 24∧if n=0 then k .emp σ else ∀φ,σ φ=none→k (.own φ 0 0 n) (σ.set φ ⟨0,sz,es⟩)
 |none=>False
def ibin (op:BinOp) (x y:AV):Option AV:=match x,y with
 | .val (.int ka a),.val (.int kb b)=>(binV op (.int ka a) (.int kb b)).map .val
 |_,_=>none
def sbin (op:BinOp) (x y:AV):Option AV:=match x,y with
 | .val (.string a),.val (.string b)=>(binV op (.string a) (.string b)).map .val
 |_,_=>none
def pickV (c a b:AV):Option AV:=match c with
 | .val (.bool true)=>some a
 | .val (.bool false)=>some b
 |_=>none
def fldA (o:Nat) (p:AV):Option AV:=match p with
 | .rop cs off=>some (.rop cs (off+o))
 | .ptr φ st i off=>some (.ptr φ st i (off+o))
 |_=>none
def fldV (o:Nat) (x:AV):Option AV:=match x with
 | .agg cs=>if o<cs.length then some (cs.getD o .any) else none
 |_=>none
def fldG (o n:Nat) (x:AV):Option AV:=match x with
 | .agg cs=>if o+n≤cs.length then some (.agg ((cs.drop o).take n)) else none
 |_=>none
def idx (sz:Nat) (x ix:AV) (σ:AH):Option AV:=match ix with
 | .val (.int _ i)=>match x with
  | .ro es=>if 0≤i∧i<es.length∧(es.getD i.toNat []).length=sz then some (.rop (es.getD i.toNat []) 0) else none
  | .own φ st off n=>match σ φ with
   |some F=>if 0≤i∧i<n∧F.st=st∧F.sz=sz then some (.ptr φ st (off+i.toNat) 0) else none
   |none=>none
  |_=>none
 |_=>none
def idxArr (len sz:Nat) (x ix:AV):Option AV:=match ix with
 | .val (.int _ i)=>match x with
  | .ptr φ st j off=>if 0≤i∧i<len then some (.ptr φ st j (off+i.toNat*sz)) else none
  | .rop cs off=>if 0≤i∧i<len then some (.rop cs (off+i.toNat*sz)) else none
  |_=>none
 |_=>none
def idxStr (x ix:AV):Option AV:=match ix with
 | .val (.int _ i)=>match x with
  | .val (.string s)=>if 0≤i then match s[i.toNat]? with
   |some b=>some (.val (.int .u8 b.toNat))
   |none=>none
   else none
  |_=>none
 |_=>none
def lenS (x:AV):Option AV:=match x with
 | .ro es=>some (.val (.int .i64 es.length))
 | .own _ _ _ n=>some (.val (.int .i64 n))
 | .emp=>some (.val (.int .i64 0))
 | .val (.slice none 0 0)=>some (.val (.int .i64 0))
 |_=>none
def lenStr (x:AV):Option AV:=match x with
 | .val (.string s)=>some (.val (.int .i64 s.size))
 |_=>none
def slcStr (x:AV) (lo hi:Option AV):Option AV:=match x with
 | .val (.string s)=>match abd lo 0,abd hi s.size with
  |some l,some h=>if l≤h∧h≤s.size then some (.val (.string (s.extract l h))) else none
  |_,_=>none
 |_=>none
def slc (sz:Nat) (x:AV) (lo hi mx:Option AV) (σ:AH):Option AV:=match x with
 | .ro es=>match abd lo 0,abd hi es.length,abd mx es.length with
  |some l,some h,some m=>if l≤h∧h≤m∧m≤es.length∧(mx.isSome=true→hi.isSome=true)∧es.all (fun c=>c.length==sz)=true then some (.ro ((es.take h).drop l)) else none
  |_,_,_=>none
 | .own φ st off n=>match σ φ,abd lo 0,abd hi n,mx with
  |some F,some l,some h,none=>if l≤h∧h≤n∧F.st=st∧F.sz=sz then some (.own φ st (off+l) (h - l)) else none
  |some F,some l,some h,some m=>match abd (some m) 0 with
   |some m=>if l<h∧h≤m∧m≤n∧hi.isSome=true∧F.st=st∧F.sz=sz then some (.vw φ st (off+l) (h - l)) else none
   |none=>none
  |_,_,_,_=>none
 | .emp=>match abd lo 0,abd hi 0,mx with
  |some 0,some 0,none=>some .emp
  |_,_,_=>none
 | .val (.slice none 0 0)=>match abd lo 0,abd hi 0,mx with
  |some 0,some 0,none=>some (.val (.slice none 0 0))
  |_,_,_=>none
 |_=>none
def app (sz:Nat) (s x:AV) (σ:AH) (k:AV→AH→Prop):Prop:=
 match QL σ x with
 |some xs=>(∀c,c∈xs→c.length=sz)∧match s with
  | .own φ st off n=>match σ φ with
   |some F=>F.st=st∧F.sz=sz∧off+n≤F.es.length∧n+xs.length≤4294967296∧(∀c,c∈xs→∀y,y∈c→y.one=true)∧
    k (.own φ (if off+n+xs.length≤F.es.length then st else st+1) off (n+xs.length))
     (σ.set φ ⟨if off+n+xs.length≤F.es.length then st else st+1,F.sz,F.es.take (off+n)++xs++F.es.drop (off+n+xs.length)⟩)
   |none=>False
  | .emp=>xs.length≤4294967296∧(xs=[]→k .emp σ)∧(xs≠[]→∀φ,σ φ=none→k (.own φ 0 0 xs.length) (σ.set φ ⟨0,sz,xs⟩))
  | .val (.slice none 0 0)=>xs.length≤4294967296∧(xs=[]→k (.val (.slice none 0 0)) σ)∧(xs≠[]→∀φ,σ φ=none→k (.own φ 0 0 xs.length) (σ.set φ ⟨0,sz,xs⟩))
  |_=>False
 |none=>False
def JB (T:Tab) (t:TypeId):Option TI:=match T t with
 |some ti=>match ti.under with| .slice e=>T e|_=>none
 |none=>none
def UD (T:Tab) (t:TypeId):Bool:=match T t with
 |some ti=>match ti.under with| .string=>true|_=>false
 |none=>false
def Qd5 (T:Tab) (t:TypeId):Bool:=match T t with
 |some ti=>match ti.under with| .int _=>true|_=>false
 |none=>false
def Qcg (T:Tab) (t:TypeId) (f:Nat):Option (Nat × Nat × Bool):=match T t with
 |some ti=>match ti.under with
  | .struct fs=>match fs[f]? with
   |some fl=>match T fl.type with
    |some tf=>some (fl.offset,tf.size,Un tf.under)
    |none=>none
   |none=>none
  |_=>none
 |none=>none
def QqX (T:Tab) (ats:Array TypeId):Option Nat:=match ats[0]?,ats[1]? with
 |some t,some u=>match T t,T u with
  |some ti,some tu=>match tu.under with
   | .int _=>none
   |_=>match ti.under with
    | .slice e=>match T e with
     |some te=>match Nat.ble te.bytes 4096,Nat.ble 1 te.bytes with
      |true,true=>some te.size
      |_,_=>none
     |none=>none
    |_=>none
  |_,_=>none
 |_,_=>none
def bop (P:Program) (T:Tab) (o:Op) (ev:Operand→AV) (σ:AH) (K:AEnd→AH→Prop):Prop:=
 match o with
 | .move x| .assign x=>K (.ret (ev x)) σ
 | .pick c a b=>og (pickV (ev c) (ev a) (ev b)) fun v=>K (.ret v) σ
 | .alloc t=>match T t with
  |some ti=>new (ti.zero.cells.toList.map .val) σ fun v σ'=>K (.ret v) σ'
  |none=>False
 | .box _ x=>abox (ev x) σ fun v σ'=>K (.ret v) σ'
 | .build t ps=>match T t with
  |some ti=>match ti.under with
   | .struct fs=>match QcN T fs.toList with
    |some pl=>og (bld (ti.zero.cells.toList.map .val) pl (ps.toList.map fun p=>(p.1,ev p.2))) fun v=>K (.ret v) σ
    |none=>False
   |_=>og (QgT T t (ps.toList.map fun p=>(p.1,ev p.2))) fun v=>K (.ret v) σ
  |none=>False
 | .buildSlice t n ps=>match JB T t with
  |some te=>bsl te.size (te.zero.cells.toList.map .val) n (ps.toList.map fun p=>(p.1,ev p.2)) σ fun v σ'=>K (.ret v) σ'
  |none=>False
 | .load t a=>match T t with
  |some ti=>match Un ti.under,ti.size with
   |true,n=>og (lodA n (ev a) σ) fun v=>K (.ret v) σ
   |false,1=>og (lod (ev a) σ) fun v=>K (.ret v) σ
   |_,_=>False
  |none=>False
 | .store t a x=>match T t with
  |some ti=>sto ti.size (ev a) (ev x) σ fun σ'=>K (.ret .any) σ'
  |none=>False
 | .nilCheck x=>og (anil (ev x)) fun v=>K (.ret v) σ
 | .binOp op t x y _=>match Qd5 T t,UD T t with
  |true,_=>og (ibin op (ev x) (ev y)) fun v=>K (.ret v) σ
  |_,true=>og (sbin op (ev x) (ev y)) fun v=>K (.ret v) σ
  |_,_=>abin T op t (ev x) (ev y) fun v=>K (.ret v) σ
 | .slice t x lo hi mx=>match JB T t,UD T t,mx with
  |some te,_,_=>og (slc te.size (ev x) (lo.map ev) (hi.map ev) (mx.map ev) σ) fun v=>K (.ret v) σ
  |_,true,none=>og (slcStr (ev x) (lo.map ev) (hi.map ev)) fun v=>K (.ret v) σ
  |_,_,_=>og (Qaz T t (ev x) (lo.map ev) (hi.map ev) (mx.map ev) σ) fun v=>K (.ret v) σ
 | .fieldAddr t x f=>match Qcg T t f with
  |some (o,_+1,_)=>og (fldA o (ev x)) fun v=>K (.ret v) σ
  |_=>False
 | .field t x f=>match Qcg T t f with
  |some (o,n,true)=>og (fldG o n (ev x)) fun v=>K (.ret v) σ
  |some (o,_,false)=>og (fldV o (ev x)) fun v=>K (.ret v) σ
  |none=>False
 | .indexAddr t x i=>match JB T t with
  |some te=>og (idx te.size (ev x) (ev i) σ) fun v=>K (.ret v) σ
  |none=>match T t with
   |some ti=>match ti.under with
    | .array len e=>match T e with
     |some te=>og (idxArr len te.size (ev x) (ev i)) fun v=>K (.ret v) σ
     |none=>False
    |_=>False
   |none=>False
 | .index t x i=>match UD T t with
  |true=>og (idxStr (ev x) (ev i)) fun v=>K (.ret v) σ
  |false=>og (QgS T t (ev x) (ev i)) fun v=>K (.ret v) σ
 | .call c=>match c.callee with
  | .value f=>Uo P (ev f) (c.args.toList.map ev) σ K
  | .builtin b=>match b,c.args.toList with
   | .len,[x]=>match c.argTypes[0]? with
    |some t=>match JB T t,UD T t with
     |some _,_=>og (lenS (ev x)) fun v=>K (.ret v) σ
     |_,true=>og (lenStr (ev x)) fun v=>K (.ret v) σ
     |_,_=>og (alen T t (ev x)) fun v=>K (.ret v) σ
    |none=>False
   | .append,[s,x]=>match QqX T c.argTypes with
    |some sz=>app sz (ev s) (ev x) σ fun v σ'=>K (.ret v) σ'
    |none=>False
   | .max,[x,y]=>og (amm true (ev x) (ev y)) fun v=>K (.ret v) σ
   | .max,[x,y,z]=>og (amm3 true (ev x) (ev y) (ev z)) fun v=>K (.ret v) σ
   | .min,[x,y]=>og (amm false (ev x) (ev y)) fun v=>K (.ret v) σ
   |_,_=>False
  | .invoke _ _=>False
 |o=>aop P T o ev σ K
theorem JR {x y:Option AV} {k k':AV→Prop} (h:∀v,x=some v→y=some v) (hk:∀v,k v→k' v) (g:og x k):og y k':=by
 obtain ⟨v,h1,h2⟩:=Ud g;rw[h v h1];exact hk v h2
theorem QaU {x y:Option AV} {k:AV→Prop} (h:∀v,x=some v→y=some v) (g:og x k):og y k:=JR h (fun _=>id) g
theorem Qch {T:Tab} {t:TypeId} {te:TI} (h:JB T t=some te):∃ti e,T t=some ti∧ti.under= .slice e∧T e=some te:=by
 unfold JB at h;split at h
 ·rename_i ti ht;split at h
  ·rename_i e he;exact ⟨ti,e,ht,he,h⟩
  ·cases h
 ·cases h
theorem Qif {T:Tab} {t:TypeId} (h:UD T t=true):∃ti,T t=some ti∧ti.under= .string:=by
 unfold UD at h;split at h
 ·rename_i ti ht;split at h
  ·rename_i e;exact ⟨ti,ht,e⟩
  ·cases h
 ·cases h
theorem Qig {T:Tab} {t:TypeId} {f o n:Nat} {b:Bool} (h:Qcg T t f=some (o,n,b)):
  ∃ti fs fl tf,T t=some ti∧ti.under= .struct fs∧fs[f]? =some fl∧T fl.type=some tf∧fl.offset=o∧tf.size=n∧Un tf.under=b:=by
 unfold Qcg at h;split at h
 case h_2=>cases h
 rename_i ti ht;split at h
 case h_2=>cases h
 rename_i fs hfs;split at h
 case h_2=>cases h
 rename_i fl hfl;split at h
 case h_2=>cases h
 rename_i tf htf;obtain ⟨rfl,rfl,rfl⟩:fl.offset=o∧tf.size=n∧Un tf.under=b:=by simpa using h
 exact ⟨ti,fs,fl,tf,ht,hfs,hfl,htf,rfl,rfl,rfl⟩
theorem Qtv (v:Value):JF (ofV v)=some (v.cells.toList.map .val):=by
 cases v<;>rfl
end
end Go.Proofs.YtggnjjalfnhiiaaGreatDoor.E

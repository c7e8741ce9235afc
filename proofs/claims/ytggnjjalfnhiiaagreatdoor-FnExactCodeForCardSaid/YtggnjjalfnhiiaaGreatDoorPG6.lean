import Derived.Test.YtggnjjalfnhiiaaGreatDoorPG5
/- The engine, part 24: what code comes to, as syntax. -/
set_option linter.unusedSectionVars false
namespace Go.Proofs.YtggnjjalfnhiiaaGreatDoor.E
open Go Go.RowKit
section
variable [Lam]
inductive SV where
 |var (n:Nat)
 |cst (v:Value)
 |unit
 |any
 |fn (f:FuncId)
 |glo (g:Nat)
 deriving Inhabited
inductive SI where
 |var (i:Nat)
 |lit (a:AV)
 deriving Inhabited
def dv (ρ:List AV):SV→AV
 | .var n=>ρ.getD (ρ.length - 1 - n) .any
 | .cst v=>ofV v
 | .unit=> .tup []
 | .any=> .any
 | .fn f=> .clo (.func f) [] []
 | .glo g=> .val (.pointer (some ⟨g,0,none⟩))
def di (ρ:List AV):SI→AV
 | .var i=>ρ.getD i .any
 | .lit a=>a
def SV.lt (d:Nat):SV→Prop
 | .var n=>n<d
 |_=>True
theorem QcP {ρ:List AV} {s:SV} (v:AV) (h:s.lt ρ.length):dv (v::ρ) s=dv ρ s:=by
 cases s with
 |var n=>
  have h:n<ρ.length:=h;simp only[dv,List.length_cons];rw[show ρ.length+1 - 1 - n=(ρ.length - 1 - n)+1 by omega];simp
 |_=>rfl
theorem SV.lt_mono {s:SV} {d e:Nat} (h:s.lt d) (hde:d≤e):s.lt e:=by
 cases s with
 |var n=>exact Nat.lt_of_lt_of_le h hde
 |_=>trivial
theorem QnJ {ρ:List AV} (v:AV):dv (v::ρ) (.var ρ.length)=v:=by simp[dv]
def Qlc:List UInt8→List UInt8→Bool
 |[],[]=>true
 |a::x,b::y=>Nat.beq a.toNat b.toNat&&Qlc x y
 |_,_=>false
def QnK (a b:IntKind):Bool:=decide (a=b)
def QnL (v:Value) (a:AV):Bool:=match v,a with
 | .int k n,.val (.int k' n')=>QnK k k'&&decide (n=n')
 | .bool b,.val (.bool b')=>match b,b' with|true,true=>true|false,false=>true|_,_=>false
 | .string s,.val (.string s')=>Qlc s.data.toList s'.data.toList
 | .slice none 0 0,.val (.slice none 0 0)=>true
 | .pointer none,.val (.pointer none)=>true
 | .nilFunc,.val .nilFunc=>true
 | .nilIface,.val .nilIface=>true
 | .map none,.val (.map none)=>true
 |_,_=>false
theorem QnM:∀{a b:List UInt8},Qlc a b=true→a=b
 |[],[],_=>rfl
 |a::x,b::y,h=>by
  simp only[Qlc,Bool.and_eq_true] at h;rw[QnM h.2,UInt8.toNat_inj.mp (Nat.eq_of_beq_eq_true h.1)]
theorem Qmw {v:Value} {a:AV} (h:QnL v a=true):a= .val v:=by
 unfold QnL at h;split at h
 ·simp only[Bool.and_eq_true,QnK,decide_eq_true_eq] at h;rw[h.1,h.2]
 ·split at h<;>first|rfl|cases h
 ·rename_i s s';have:=QnM h;have hs:s=s':=by
   obtain ⟨⟨l⟩⟩:=s;obtain ⟨⟨l'⟩⟩:=s';simp at this;rw[this]
  rw[hs]
 ·rfl
 ·rfl
 ·rfl
 ·rfl
 ·rfl
 ·cases h
def Qg3:List Value→List AV→Bool
 |[],[]=>true
 |v::x,a::y=>QnL v a&&Qg3 x y
 |_,_=>false
theorem QfB:∀{l:List Value} {m:List AV},Qg3 l m=true→m=l.map .val
 |[],[],_=>rfl
 |v::x,a::y,h=>by
  simp only[Qg3,Bool.and_eq_true] at h;rw[Qmw h.1,QfB h.2];rfl
def QtA (v:Value) (a:AV):Bool:=match a with
 | .agg xs=>match v with| .agg cs=>Qg3 cs.toList xs|_=>false
 |a=>match v with| .agg _=>false|v=>QnL v a
theorem QvX {v:Value} {a:AV} (h:QtA v a=true):a=ofV v:=by
 unfold QtA at h;split at h
 ·split at h
  ·rw[QfB h];rfl
  ·cases h
 ·cases v<;>first|(cases h;done)|(rw[Qmw h];rfl)
def eqv (d:Nat) (s:SV) (x:SI):Bool:=match s,x with
 | .var n,.var i=>Nat.beq (n+i+1) d
 | .cst v,.lit a=>QtA v a
 | .unit,.lit (.tup [])=>true
 | .any,.lit .any=>true
 | .fn f,.lit (.clo (.func g) [] [])=>Nat.beq f g
 | .glo g,.lit (.val (.pointer (some ⟨h,0,none⟩)))=>Nat.beq g h
 |_,_=>false
theorem Qp {ρ:List AV} {s:SV} {x:SI} (h:eqv ρ.length s x=true):di ρ x=dv ρ s:=by
 unfold eqv at h;split at h
 ·rename_i n i;have:=Nat.eq_of_beq_eq_true h;simp only[di,dv];rw[show ρ.length - 1 - n=i by omega]
 ·simp only[di,dv];exact QvX h
 ·rfl
 ·rfl
 ·rw[Nat.eq_of_beq_eq_true h];rfl
 ·rw[Nat.eq_of_beq_eq_true h];rfl
 ·cases h
def eqvs (d:Nat):List SV→List SI→Bool
 |[],[]=>true
 |s::a,x::b=>eqv d s x&&eqvs d a b
 |_,_=>false
theorem QbZ {ρ:List AV}:∀{a:List SV} {b:List SI},eqvs ρ.length a b=true→b.map (di ρ)=a.map (dv ρ)
 |[],[],_=>rfl
 |s::a,x::b,h=>by
  simp only[eqvs,Bool.and_eq_true] at h;simp only[List.map_cons,Qp h.1,QbZ h.2]
end
section
variable [Lam]
inductive OE (α:Type) where
 |ret (x:α)
 |pickV (c a b:α)
 |bld (zs:List AV) (pl:List (Nat × Nat)) (ps:List (Nat × α))
 |lod (p:α)
 |lodA (n:Nat) (p:α)
 |anil (x:α)
 |ibin (op:BinOp) (x y:α)
 |sbin (op:BinOp) (x y:α)
 |cmpV (op:BinOp) (t:TypeId) (x y:α)
 |aun (op:UnOp) (x:α)
 |conv (k:IntKind) (x:α)
 |slc (sz:Nat) (x:α) (lo hi mx:Option α)
 |slcStr (x:α) (lo hi:Option α)
 |fldA (o:Nat) (x:α)
 |fldG (o n:Nat) (x:α)
 |fldV (o:Nat) (x:α)
 |idx (sz:Nat) (x i:α)
 |idxArr (n sz:Nat) (x i:α)
 |idxStr (x i:α)
 |aext (x:α) (i:Nat)
 |lenS (x:α)
 |lenStr (x:α)
 |amm (b:Bool) (x y:α)
 |amm3 (b:Bool) (x y z:α)
 |bslR (sz:Nat) (z:List AV) (n:Nat) (ps:List (Nat × α))
 |b2s (x:α)
def UI (k:IntKind) (x:AV):Option AV:=match x with
 | .val (.int _ n)=>some (.val (.int k (k.wrap n)))
 |_=>none
def dE (T:Tab) {α:Type} (f:α→AV) (σ:AH):OE α→Option AV
 | .ret x=>some (f x)
 | .pickV c a b=>E.pickV (f c) (f a) (f b)
 | .bld zs pl ps=>E.bld zs pl (ps.map fun p=>(p.1,f p.2))
 | .lod p=>E.lod (f p) σ
 | .lodA n p=>E.lodA n (f p) σ
 | .anil x=>E.anil (f x)
 | .ibin op x y=>E.ibin op (f x) (f y)
 | .sbin op x y=>E.sbin op (f x) (f y)
 | .cmpV op t x y=>E.cmpV T op t (f x) (f y)
 | .aun op x=>E.aun op (f x)
 | .conv k x=>UI k (f x)
 | .slc sz x lo hi mx=>E.slc sz (f x) (lo.map f) (hi.map f) (mx.map f) σ
 | .slcStr x lo hi=>E.slcStr (f x) (lo.map f) (hi.map f)
 | .fldA o x=>E.fldA o (f x)
 | .fldG o n x=>E.fldG o n (f x)
 | .fldV o x=>E.fldV o (f x)
 | .idx sz x i=>E.idx sz (f x) (f i) σ
 | .idxArr n sz x i=>E.idxArr n sz (f x) (f i)
 | .idxStr x i=>E.idxStr (f x) (f i)
 | .aext x i=>E.aext (f x) i
 | .lenS x=>E.lenS (f x)
 | .lenStr x=>E.lenStr (f x)
 | .amm b x y=>E.amm b (f x) (f y)
 | .amm3 b x y z=>E.amm3 b (f x) (f y) (f z)
 | .bslR sz z n ps=>E.bslR sz z n (ps.map fun p=>(p.1,f p.2))
 | .b2s x=>E.b2s (f x)
def symE (T:Tab) (o:Op) (ev:Operand→SV):Option (OE SV):=
 match o with
 | .move x| .assign x=>some (.ret (ev x))
 | .pick c a b=>match ev c with
  | .cst (.bool true)=>some (.ret (ev a))
  | .cst (.bool false)=>some (.ret (ev b))
  |s=>some (.pickV s (ev a) (ev b))
 | .build t ps=>match T t with
  |some ti=>match ti.under with
   | .struct fs=>match QcN T fs.toList with
    |some pl=>some (.bld (ti.zero.cells.toList.map .val) pl (ps.toList.map fun p=>(p.1,ev p.2)))
    |none=>none
   | .array n e=>match T e with
    |some te=>some (.bld (ti.zero.cells.toList.map .val) ((List.range n).map fun i=>(i*te.size,te.size)) (ps.toList.map fun p=>(p.1,ev p.2)))
    |none=>none
   |_=>none
  |none=>none
 | .load t a=>match T t with
  |some ti=>match Un ti.under,ti.size with
   |true,n=>some (.lodA n (ev a))
   |false,1=>some (.lod (ev a))
   |_,_=>none
  |none=>none
 | .nilCheck x=>some (.anil (ev x))
 | .binOp op t x y _=>match Qd5 T t,UD T t with
  |true,_=>some (.ibin op (ev x) (ev y))
  |_,true=>some (.sbin op (ev x) (ev y))
  |_,_=>some (.cmpV op t (ev x) (ev y))
 | .unOp op _ x=>some (.aun op (ev x))
 | .convert s d x=>match Qd5 T s,Qd5 T d with
  |true,true=>match T d with
   |some td=>match td.under with| .int kd=>some (.conv kd (ev x))|_=>none
   |none=>none
  |_,_=>none
 | .slice t x lo hi mx=>match JB T t,UD T t,mx with
  |some te,_,_=>some (.slc te.size (ev x) (lo.map ev) (hi.map ev) (mx.map ev))
  |_,true,none=>some (.slcStr (ev x) (lo.map ev) (hi.map ev))
  |_,_,_=>none
 | .fieldAddr t x f=>match Qcg T t f with
  |some (o,_+1,_)=>some (.fldA o (ev x))
  |_=>none
 | .field t x f=>match Qcg T t f with
  |some (o,n,true)=>some (.fldG o n (ev x))
  |some (o,_,false)=>some (.fldV o (ev x))
  |none=>none
 | .indexAddr t x i=>match JB T t with
  |some te=>some (.idx te.size (ev x) (ev i))
  |none=>match T t with
   |some ti=>match ti.under with
    | .array len e=>match T e with
     |some te=>some (.idxArr len te.size (ev x) (ev i))
     |none=>none
    |_=>none
   |none=>none
 | .index t x i=>match UD T t with
  |true=>some (.idxStr (ev x) (ev i))
  |false=>none
 | .extract x i=>some (.aext (ev x) i)
 | .call c=>match c.callee with
  | .builtin b=>match b,c.args.toList with
   | .len,[x]=>match c.argTypes[0]? with
    |some t=>match JB T t,UD T t with
     |some _,_=>some (.lenS (ev x))
     |_,true=>some (.lenStr (ev x))
     |_,_=>none
    |none=>none
   | .max,[x,y]=>some (.amm true (ev x) (ev y))
   | .max,[x,y,z]=>some (.amm3 true (ev x) (ev y) (ev z))
   | .min,[x,y]=>some (.amm false (ev x) (ev y))
   |_,_=>none
  |_=>none
 |_=>none
theorem Qen {T:Tab} {o:Op} {ev:Operand→SV} {e:OE SV} (h:symE T o ev=some e) (f:SV→AV) (hcf:∀b,f (.cst (.bool b))= .val (.bool b)) {ev':Operand→AV} (hev:∀x,ev' x=f (ev x)) (σ:AH):dE T f σ e=bval T o ev' σ:=by
 have hf:ev'=fun x=>f (ev x):=funext hev
 subst hf;have om:∀(x:Option Operand),x.map (fun x=>f (ev x))=(x.map ev).map f:=fun x=>by cases x<;>rfl
 unfold symE at h;unfold bval;split at h
 ·obtain rfl:=Option.some.inj h;rfl
 ·obtain rfl:=Option.some.inj h;rfl
 ·split at h
  ·rename_i hc;obtain rfl:=Option.some.inj h;simp only[hc,hcf,E.pickV,dE]
  ·rename_i hc;obtain rfl:=Option.some.inj h;simp only[hc,hcf,E.pickV,dE]
  ·obtain rfl:=Option.some.inj h;rfl
 ·split at h
  case h_2=>cases h
  rename_i ti ht;split at h
  case h_3=>cases h
  ·rename_i fs hfs;split at h
   case h_2=>cases h
   rename_i pl hpl;obtain rfl:=Option.some.inj h;simp only[ht,hfs,hpl,dE,List.map_map];rfl
  ·rename_i n e hfs;split at h
   case h_2=>cases h
   rename_i te hte;obtain rfl:=Option.some.inj h;simp only[ht,hfs,hte,dE,List.map_map];rfl
 ·split at h
  case h_2=>cases h
  rename_i ti ht;split at h
  ·rename_i n ha;obtain rfl:=Option.some.inj h;simp only[ht,ha,dE]
  ·rename_i ha hs;obtain rfl:=Option.some.inj h;simp only[ht,ha,hs,dE]
  ·cases h
 ·obtain rfl:=Option.some.inj h;rfl
 ·split at h
  ·rename_i hi;obtain rfl:=Option.some.inj h;simp only[hi,dE]
  ·rename_i hs hi;obtain rfl:=Option.some.inj h;simp only[hs,dE]
  ·rename_i hi hs;obtain rfl:=Option.some.inj h;simp only[dE]
 ·obtain rfl:=Option.some.inj h;rfl
 ·split at h
  case h_2=>cases h
  rename_i h1 h2;split at h
  case h_2=>cases h
  rename_i td htd;split at h
  case h_2=>cases h
  rename_i kd hkd;obtain rfl:=Option.some.inj h;simp only[h1,h2,dE,UI,htd,hkd];split<;>simp_all
 ·split at h
  ·rename_i hs;obtain rfl:=Option.some.inj h;simp only[hs,dE,om]
  ·rename_i hi hs;obtain rfl:=Option.some.inj h;simp only[hi,dE,om]
  ·cases h
 ·split at h
  ·rename_i hf;obtain rfl:=Option.some.inj h;simp only[hf,dE]
  ·cases h
 ·split at h
  ·rename_i hf;obtain rfl:=Option.some.inj h;simp only[hf,dE]
  ·rename_i hf;obtain rfl:=Option.some.inj h;simp only[hf,dE]
  ·cases h
 ·split at h
  ·rename_i hs;obtain rfl:=Option.some.inj h;simp only[hs,dE]
  ·rename_i hs;split at h
   case h_2=>cases h
   rename_i ti ht;split at h
   case h_2=>cases h
   rename_i len e' he;split at h
   case h_2=>cases h
   rename_i te hte;obtain rfl:=Option.some.inj h;simp only[hs,ht,he,hte,dE]
 ·split at h
  ·rename_i hs;obtain rfl:=Option.some.inj h;simp only[hs,dE]
  ·cases h
 ·obtain rfl:=Option.some.inj h;rfl
 ·split at h
  case h_2=>cases h
  rename_i b hc;simp only[hc];split at h
  ·rename_i hx;simp only[hx];split at h
   case h_2=>cases h
   rename_i t ht;simp only[ht];split at h
   ·rename_i h1;obtain rfl:=Option.some.inj h;simp only[h1,dE]
   ·rename_i h1 h2;obtain rfl:=Option.some.inj h;simp only[h1,dE]
   ·cases h
  ·rename_i hx;obtain rfl:=Option.some.inj h;simp only[hx,dE]
  ·rename_i hx;obtain rfl:=Option.some.inj h;simp only[hx,dE]
  ·rename_i hx;obtain rfl:=Option.some.inj h;simp only[hx,dE]
  ·cases h
 ·cases h
def Qc7 (T:Tab) (o:Op) (ev:Operand→SV):Option (OE SV):=match o with
 | .buildSlice t n ps=>match JB T t with
  |some te=>some (.bslR te.size (te.zero.cells.toList.map .val) n (ps.toList.map fun p=>(p.1,ev p.2)))
  |none=>none
 | .convert s d x=>match QgX T s d with
  |true=>some (.b2s (ev x))
  |false=>symE T (.convert s d x) ev
 |o=>symE T o ev
theorem Qey {T:Tab} {o:Op} {ev:Operand→SV} {e:OE SV} (h:Qc7 T o ev=some e) (f:SV→AV) (hcf:∀b,f (.cst (.bool b))= .val (.bool b)) {ev':Operand→AV} (hev:∀x,ev' x=f (ev x)) (σ:AH):dE T f σ e=JL T o ev' σ:=by
 unfold Qc7 at h;unfold JL;split at h
 ·split at h
  case h_2=>cases h
  rename_i te hte;obtain rfl:=Option.some.inj h;simp only[hte,dE,List.map_map]
  congr 1
  apply List.map_congr_left
  intro p _;simp[hev]
 ·split at h
  ·rename_i hb;obtain rfl:=Option.some.inj h;simp only[hb,dE,hev]
  ·rename_i hb;simp only[hb];exact Qen h f hcf hev σ
 ·rename_i n1 n2;split
  ·exact (n1 _ _ _ rfl).elim
  ·exact (n2 _ _ _ rfl).elim
  ·exact Qen h f hcf hev σ
end
section
variable [Lam]
def eqAV (a b:AV):Bool:=match a with| .val v=>QnL v b|_=>false
theorem QxQ {a b:AV} (h:eqAV a b=true):b=a:=by
 unfold eqAV at h;split at h
 ·exact Qmw h
 ·cases h
def QnN:List AV→List AV→Bool
 |[],[]=>true
 |a::x,b::y=>eqAV a b&&QnN x y
 |_,_=>false
theorem Qmx:∀{x y:List AV},QnN x y=true→y=x
 |[],[],_=>rfl
 |a::x,b::y,h=>by
  simp only[QnN,Bool.and_eq_true] at h;rw[QxQ h.1,Qmx h.2]
def eqPl:List (Nat × Nat)→List (Nat × Nat)→Bool
 |[],[]=>true
 |(a,b)::x,(c,e)::y=>Nat.beq a c&&Nat.beq b e&&eqPl x y
 |_,_=>false
theorem QsQ:∀{x y:List (Nat × Nat)},eqPl x y=true→y=x
 |[],[],_=>rfl
 |(a,b)::x,(c,e)::y,h=>by
  simp only[eqPl,Bool.and_eq_true] at h;rw[Nat.eq_of_beq_eq_true h.1.1,Nat.eq_of_beq_eq_true h.1.2,QsQ h.2]
def eqPs (d:Nat):List (Nat × SV)→List (Nat × SI)→Bool
 |[],[]=>true
 |(a,s)::x,(c,i)::y=>Nat.beq a c&&eqv d s i&&eqPs d x y
 |_,_=>false
theorem Qld {ρ:List AV}:∀{x:List (Nat × SV)} {y:List (Nat × SI)},eqPs ρ.length x y=true→(y.map fun p=>(p.1,di ρ p.2))=x.map fun p=>(p.1,dv ρ p.2)
 |[],[],_=>rfl
 |(a,s)::x,(c,i)::y,h=>by
  simp only[eqPs,Bool.and_eq_true] at h;simp only[List.map_cons,Qp h.1.2,Nat.eq_of_beq_eq_true h.1.1,Qld h.2]
def eqO (d:Nat):Option SV→Option SI→Bool
 |none,none=>true
 |some a,some b=>eqv d a b
 |_,_=>false
theorem QjV {ρ:List AV} {x:Option SV} {y:Option SI} (h:eqO ρ.length x y=true):y.map (di ρ)=x.map (dv ρ):=by
 unfold eqO at h;split at h
 ·rfl
 ·simp only[Option.map_some,Qp h]
 ·cases h
def eqE (d:Nat) (e:OE SV) (e':OE SI):Bool:=match e,e' with
 | .ret x,.ret x'=>eqv d x x'
 | .pickV c a b,.pickV c' a' b'=>eqv d c c'&&eqv d a a'&&eqv d b b'
 | .bld zs pl ps,.bld zs' pl' ps'=>QnN zs zs'&&eqPl pl pl'&&eqPs d ps ps'
 | .lod p,.lod p'=>eqv d p p'
 | .lodA n p,.lodA n' p'=>Nat.beq n n'&&eqv d p p'
 | .anil x,.anil x'=>eqv d x x'
 | .ibin op x y,.ibin op' x' y'=>decide (op=op')&&eqv d x x'&&eqv d y y'
 | .sbin op x y,.sbin op' x' y'=>decide (op=op')&&eqv d x x'&&eqv d y y'
 | .cmpV op t x y,.cmpV op' t' x' y'=>decide (op=op')&&Nat.beq t t'&&eqv d x x'&&eqv d y y'
 | .aun op x,.aun op' x'=>decide (op=op')&&eqv d x x'
 | .conv k x,.conv k' x'=>QnK k k'&&eqv d x x'
 | .slc sz x lo hi mx,.slc sz' x' lo' hi' mx'=>Nat.beq sz sz'&&eqv d x x'&&eqO d lo lo'&&eqO d hi hi'&&eqO d mx mx'
 | .slcStr x lo hi,.slcStr x' lo' hi'=>eqv d x x'&&eqO d lo lo'&&eqO d hi hi'
 | .fldA o x,.fldA o' x'=>Nat.beq o o'&&eqv d x x'
 | .fldG o n x,.fldG o' n' x'=>Nat.beq o o'&&Nat.beq n n'&&eqv d x x'
 | .fldV o x,.fldV o' x'=>Nat.beq o o'&&eqv d x x'
 | .idx sz x i,.idx sz' x' i'=>Nat.beq sz sz'&&eqv d x x'&&eqv d i i'
 | .idxArr n sz x i,.idxArr n' sz' x' i'=>Nat.beq n n'&&Nat.beq sz sz'&&eqv d x x'&&eqv d i i'
 | .idxStr x i,.idxStr x' i'=>eqv d x x'&&eqv d i i'
 | .aext x i,.aext x' i'=>eqv d x x'&&Nat.beq i i'
 | .lenS x,.lenS x'=>eqv d x x'
 | .lenStr x,.lenStr x'=>eqv d x x'
 | .bslR sz z n ps,.bslR sz' z' n' ps'=>Nat.beq sz sz'&&QnN z z'&&Nat.beq n n'&&eqPs d ps ps'
 | .b2s x,.b2s x'=>eqv d x x'
 | .amm b x y,.amm b' x' y'=>(match b,b' with|true,true=>true|false,false=>true|_,_=>false)&&eqv d x x'&&eqv d y y'
 | .amm3 b x y z,.amm3 b' x' y' z'=>(match b,b' with|true,true=>true|false,false=>true|_,_=>false)&&eqv d x x'&&eqv d y y'&&eqv d z z'
 |_,_=>false
theorem Qez {T:Tab} {ρ:List AV} {e:OE SV} {e':OE SI} (h:eqE ρ.length e e'=true) (σ:AH):dE T (di ρ) σ e'=dE T (dv ρ) σ e:=by
 unfold eqE at h;split at h<;>(try simp only[Bool.and_eq_true,decide_eq_true_eq,QnK] at h)<;>simp only[dE]
 ·rw[Qp h]
 ·rw[Qp h.1.1,Qp h.1.2,Qp h.2]
 ·rw[Qmx h.1.1,QsQ h.1.2,Qld h.2]
 ·rw[Qp h]
 ·rw[Nat.eq_of_beq_eq_true h.1,Qp h.2]
 ·rw[Qp h]
 ·rw[h.1.1,Qp h.1.2,Qp h.2]
 ·rw[h.1.1,Qp h.1.2,Qp h.2]
 ·rw[h.1.1.1,Nat.eq_of_beq_eq_true h.1.1.2,Qp h.1.2,Qp h.2]
 ·rw[h.1,Qp h.2]
 ·rw[h.1,Qp h.2]
 ·rw[Nat.eq_of_beq_eq_true h.1.1.1.1,Qp h.1.1.1.2,QjV h.1.1.2,QjV h.1.2,QjV h.2]
 ·rw[Qp h.1.1,QjV h.1.2,QjV h.2]
 ·rw[Nat.eq_of_beq_eq_true h.1,Qp h.2]
 ·rw[Nat.eq_of_beq_eq_true h.1.1,Nat.eq_of_beq_eq_true h.1.2,Qp h.2]
 ·rw[Nat.eq_of_beq_eq_true h.1,Qp h.2]
 ·rw[Nat.eq_of_beq_eq_true h.1.1,Qp h.1.2,Qp h.2]
 ·rw[Nat.eq_of_beq_eq_true h.1.1.1,Nat.eq_of_beq_eq_true h.1.1.2,Qp h.1.2,Qp h.2]
 ·rw[Qp h.1,Qp h.2]
 ·rw[Qp h.1,Nat.eq_of_beq_eq_true h.2]
 ·rw[Qp h]
 ·rw[Qp h]
 ·rw[Nat.eq_of_beq_eq_true h.1.1.1,Qmx h.1.1.2,Nat.eq_of_beq_eq_true h.1.2,Qld h.2]
 ·rw[Qp h]
 ·rename_i b x y b' x' y';have hb:b'=b:=by cases b<;>cases b'<;>first|rfl|(have:=h.1.1;cases this)
  rw[hb,Qp h.1.2,Qp h.2]
 ·rename_i b x y z b' x' y' z';have hb:b'=b:=by cases b<;>cases b'<;>first|rfl|(have:=h.1.1.1;cases this)
  rw[hb,Qp h.1.1.2,Qp h.1.2,Qp h.2]
 ·cases h
structure Wat where
 gd:Option (SI × Bool × Bool)
 e:OE SI
 v:SI
inductive Sx where
 |og (e:OE SI) (k:Sx)
 |gog (b:SI) (want g:Bool) (e:OE SI) (k:Sx)
 |cmp (op:BinOp) (t:TypeId) (x y:SI) (k:Sx)
 |new (zs:List AV) (k:Sx)
 |box (x:SI) (k:Sx)
 |bsl (sz:Nat) (z:List AV) (n:Nat) (ps:List (Nat × SI)) (k:Sx)
 |sto (n:Nat) (p v:SI) (k:Sx)
 |mks (t:TypeId) (l c:SI) (k:Sx)
 |cnv (s d:TypeId) (x:SI) (k:Sx)
 |app (sz:Nat) (s x:SI) (k:Sx)
 |call (f:FuncId) (xs:List SI) (k:Sx)
 |callv (f:SI) (xs:List SI) (k:Sx)
 |clo (fn:Fn) (fs cs:List SI) (k:Sx)
 |ifc (t:TypeId) (x:SI) (k:Sx)
 |typ (x:SI) (t:TypeId) (ok:Bool) (k:Sx)
 |pan (x:SI)
 |gpick (x:SI) (a b c:Sx)
 |apick (x:SI) (a b:Sx)
 |jn (p:Nat) (ls:List Nat) (r k:Sx)
 |jump (j:Nat) (xs:List SI)
 |lp (ls:List Nat) (body:Sx) (xs:List SI)
 |ord (C ancs:List Nat) (k:Sx)
 |both (X:List Nat) (c:Nat) (L1:List Nat) (i:Nat) (L2 ancs:List Nat) (a b:Sx)
 |wat (ws:List Wat) (k:Sx)
 |rng (g:SI) (body k:Sx)
 |frz (n:Nat) (x:SI) (k:Sx)
 |ret (x:SI)
 |rets (xs:List SI)
 |no
def tupL:(ls:List Nat)→Tup ls→List AV
 |[],_=>[]
 |_::l,x=>x.1::tupL l x.2
def lTup:(ls:List Nat)→List AV→Tup ls
 |[],_=>()
 |_::l,xs=>(xs.getD 0 .any,lTup l (xs.drop 1))
def Qf (T:Tab) (ρ:List AV) (σ:AH) (w:Wat):Prop:=match w.gd with
 |none=>dE T (di ρ) σ w.e=some (di ρ w.v)
 |some (b,want,g)=>gval (di ρ b) want g (dE T (di ρ) σ w.e)=some (di ρ w.v)
def dwat (T:Tab) (ρ:List AV) (σ:AH):List Wat→Prop
 |[]=>True
 |w::r=>Qf T ρ σ w∧dwat T ρ σ r
abbrev Kont:=List AV→AH→Prop
def den (P:Program) (T:Tab) (R:AEnd→AH→Prop):Sx→List AV→List Kont→AH→Prop
 | .og e k,ρ,ks,σ=>E.og (dE T (di ρ) σ e) fun v=>den P T R k (v::ρ) ks σ
 | .gog b w g e k,ρ,ks,σ=>E.og (gval (di ρ b) w g (dE T (di ρ) σ e)) fun v=>den P T R k (v::ρ) ks σ
 | .cmp op t x y k,ρ,ks,σ=>abin T op t (di ρ x) (di ρ y) fun v=>den P T R k (v::ρ) ks σ
 | .new zs k,ρ,ks,σ=>E.new zs σ fun v σ=>den P T R k (v::ρ) ks σ
 | .box x k,ρ,ks,σ=>abox (di ρ x) σ fun v σ=>den P T R k (v::ρ) ks σ
 | .bsl sz z n ps k,ρ,ks,σ=>E.bsl sz z n (ps.map fun p=>(p.1,di ρ p.2)) σ fun v σ=>den P T R k (v::ρ) ks σ
 | .sto n p v k,ρ,ks,σ=>E.sto n (di ρ p) (di ρ v) σ fun σ=>den P T R k ρ ks σ
 | .mks t l c k,ρ,ks,σ=>Qc3 T t (di ρ l) (di ρ c) σ fun v σ=>den P T R k (v::ρ) ks σ
 | .cnv s d x k,ρ,ks,σ=>Qd4 T s d (di ρ x) σ fun v σ=>den P T R k (v::ρ) ks σ
 | .app sz s x k,ρ,ks,σ=>E.app sz (di ρ s) (di ρ x) σ fun v σ=>den P T R k (v::ρ) ks σ
 | .call f xs k,ρ,ks,σ=>acall P f (xs.map (di ρ)) σ (onr (fun v σ=>den P T R k (v::ρ) ks σ) (fun v σ=>apan v σ R))
 | .callv f xs k,ρ,ks,σ=>Uo P (di ρ f) (xs.map (di ρ)) σ (onr (fun v σ=>den P T R k (v::ρ) ks σ) (fun v σ=>apan v σ R))
 | .clo fn fs cs k,ρ,ks,σ=>den P T R k (.clo fn (fs.map (di ρ)) (cs.map (di ρ))::ρ) ks σ
 | .ifc t x k,ρ,ks,σ=>E.og (aifc T t (di ρ x)) fun v=>den P T R k (v::ρ) ks σ
 | .typ x t ok k,ρ,ks,σ=>E.og (Qtu T (di ρ x) t ok) fun v=>den P T R k (v::ρ) ks σ
 | .pan x,ρ,_,σ=>QnB (di ρ x) fun v=>apan v σ R
 | .gpick x a b c,ρ,ks,σ=>E.gpick (di ρ x) (den P T R a ρ ks σ) (den P T R b ρ ks σ) (den P T R c ρ ks σ)
 | .apick x a b,ρ,ks,σ=>E.apick (di ρ x) (den P T R a ρ ks σ) (den P T R b ρ ks σ)
 | .jn _ ls r k,ρ,ks,σ=>E.jn (X:=Tup ls) (fun x σ=>den P T R r (tupL ls x) ks σ) fun kk=>den P T R k ρ ((fun xs σ=>kk (lTup ls xs) σ)::ks) σ
 | .jump j xs,ρ,ks,σ=>(ks.getD j fun _ _=>False) (xs.map (di ρ)) σ
 | .lp ls body xs,ρ,ks,σ=>E.lp (X:=Tup ls) (fun RR x σ=>den P T R body (tupL ls x) ((fun xs σ=>RR (lTup ls xs) σ)::ks) σ) (lTup ls (xs.map (di ρ))) σ
 | .ord _ _ k,ρ,ks,σ=>den P T R k ρ ks σ
 | .both _ _ _ _ _ _ a b,ρ,ks,σ=>den P T R a ρ ks σ∧den P T R b ρ ks σ
 | .wat ws k,ρ,ks,σ=>dwat T ρ σ ws∧den P T R k ρ ks σ
 | .rng g xb k,ρ,ks,σ=>Qg2 P (di ρ g) (fun x σ N=>den P T (fun _ _=>False) xb (x::ρ) [fun _ σ=>N σ] σ) σ (fun σ=>den P T R k ρ ks σ) (fun v σ=>apan v σ R)
 | .frz _ x k,ρ,ks,σ=>E.frz (di ρ x) σ fun v σ=>den P T R k (v::ρ) ks σ
 | .ret x,ρ,_,σ=>aret (di ρ x) σ R
 | .rets xs,ρ,_,σ=>aret (.tup (xs.map (di ρ))) σ R
 | .no,_,_,_=>False
end
section
variable [Lam]
def evS (t:List SV):Operand→SV
 | .tmp i=>t.getD i .any
 | .const v=> .cst v
 | .global g=> .glo g
 | .func f=> .fn f
def sput (t:List SV) (d:Option Tmp) (s:SV):List SV:=match d with|some d=>t.set d s|none=>t
def WF (d:Nat) (t:List SV):Prop:=∀s∈t,s.lt d
theorem UA (ρ:List AV) (t:List SV) (i:Nat):(t.map (dv ρ)).getD i .any=dv ρ (t.getD i .any):=by
 simp only[List.getD,List.getElem?_map];cases t[i]? <;>rfl
theorem QN (ρ:List AV) (t:List SV) (x:Operand):QB (t.map (dv ρ)) x=dv ρ (evS t x):=by
 cases x with
 |tmp i=>exact UA ρ t i
 |_=>rfl
theorem UO (ρ:List AV) (t:List SV) (d:Option Tmp) (s:SV):(sput t d s).map (dv ρ)=aput (t.map (dv ρ)) d (dv ρ s):=by
 cases d with
 |none=>rfl
 |some d=>exact List.map_set
theorem QvY {ρ:List AV} {t:List SV} (h:WF ρ.length t) (v:AV):t.map (dv (v::ρ))=t.map (dv ρ):=
 List.map_congr_left fun s hs=>QcP v (h s hs)
theorem WF.mono {d e:Nat} {t:List SV} (h:WF d t) (hde:d≤e):WF e t:=fun s hs=>SV.lt_mono (h s hs) hde
theorem WF.set {d:Nat} {t:List SV} (h:WF d t) (i:Nat) {s:SV} (hs:s.lt d):WF d (t.set i s):=by
 intro u hu;rcases List.mem_or_eq_of_mem_set hu with hu|rfl
 ·exact h u hu
 ·exact hs
theorem WF.put {d:Nat} {t:List SV} (h:WF d t) (i:Option Tmp) {s:SV} (hs:s.lt d):WF d (sput t i s):=by
 cases i with
 |none=>exact h
 |some i=>exact h.set i hs
theorem WF.at {d:Nat} {t:List SV} (h:WF d t) (i:Nat):(t.getD i .any).lt d:=by
 by_cases c:i<t.length
 ·rw[show t.getD i .any=t[i] by simp[List.getD,c]];exact h _ (List.getElem_mem c)
 ·rw[show t.getD i .any= .any by simp[List.getD,List.getElem?_eq_none (Nat.le_of_not_lt c)]];trivial
theorem WF.ev {d:Nat} {t:List SV} (h:WF d t) (x:Operand):(evS t x).lt d:=by
 cases x with
 |tmp i=>exact h.at i
 |_=>trivial
def eqB (a b:Bool):Bool:=match a,b with|true,true=>true|false,false=>true|_,_=>false
theorem Qdf {a b:Bool} (h:eqB a b=true):a=b:=by cases a<;>cases b<;>first|rfl|cases h
def Qbk (T:Tab) (o:Oper) (t:List SV) (d:Nat) (x:Sx) (K:List SV→Nat→Sx→Bool):Bool:=
 match o.op,x with
 | .alloc ty,.new zs k=>(match T ty with|some ti=>Qg3 ti.zero.cells.toList zs|none=>false)&&K (sput t o.dst (.var d)) (d+1) k
 | .box _ a,.box a' k=>eqv d (evS t a) a'&&K (sput t o.dst (.var d)) (d+1) k
 | .buildSlice ty n ps,.bsl sz z n' ps' k=>(match JB T ty with|some te=>Nat.beq te.size sz&&Qg3 te.zero.cells.toList z|none=>false)&&Nat.beq n n'&&
   eqPs d (ps.toList.map fun p=>(p.1,evS t p.2)) ps'&&K (sput t o.dst (.var d)) (d+1) k
 | .store ty a v,.sto n p' v' k=>(match T ty with|some ti=>Nat.beq ti.size n|none=>false)&&eqv d (evS t a) p'&&eqv d (evS t v) v'&&K (sput t o.dst .any) d k
 | .makeSlice ty l c,.mks ty' l' c' k=>Nat.beq ty ty'&&eqv d (evS t l) l'&&eqv d (evS t c) c'&&K (sput t o.dst (.var d)) (d+1) k
 | .makeFunc fn fs cs,.clo fn' fs' cs' k=>decide (fn=fn')&&eqvs d (fs.toList.map (evS t)) fs'&&eqvs d (cs.toList.map (evS t)) cs'&&K (sput t o.dst (.var d)) (d+1) k
 | .makeInterface ty a,.ifc ty' a' k=>Nat.beq ty ty'&&eqv d (evS t a) a'&&K (sput t o.dst (.var d)) (d+1) k
 | .typeAssert a _ ty ok,.typ a' ty' ok' k=>eqv d (evS t a) a'&&Nat.beq ty ty'&&eqB ok ok'&&K (sput t o.dst (.var d)) (d+1) k
 | .panic a,.pan a'=>eqv d (evS t a) a'
 | .call c,.call f xs k=>(match c.callee with| .value (.func g)=>Nat.beq g f|_=>false)&&eqvs d (c.args.toList.map (evS t)) xs&&K (sput t o.dst (.var d)) (d+1) k
 | .call c,.callv f xs k=>(match c.callee with| .value h=>eqv d (evS t h) f|_=>false)&&eqvs d (c.args.toList.map (evS t)) xs&&K (sput t o.dst (.var d)) (d+1) k
 | .call c,.app sz s a k=>(match c.callee,c.args.toList with
   | .builtin .append,[s',a']=>(match QqX T c.argTypes with|some n=>Nat.beq n sz|none=>false)&&eqv d (evS t s') s&&eqv d (evS t a') a
   |_,_=>false)&&K (sput t o.dst (.var d)) (d+1) k
 |_,_=>false
section
variable {P:Program} {T:Tab} {R:AEnd→AH→Prop} {ks:List Kont}
def Goes (P:Program) (T:Tab) (R:AEnd→AH→Prop) (ks:List Kont) (K:List SV→Nat→Sx→Bool) (a:List AV) (σ:AH):Prop:=
 ∃ρ t x,K t ρ.length x=true∧WF ρ.length t∧t.map (dv ρ)=a∧den P T R x ρ ks σ
theorem Goes.push {K:List SV→Nat→Sx→Bool} {ρ:List AV} {t:List SV} {dst:Option Tmp} {k:Sx} {v:AV} {σ:AH} (hw:WF ρ.length t) (hk:K (sput t dst (.var ρ.length)) (ρ.length+1) k=true) (hd:den P T R k (v::ρ) ks σ):
  Goes P T R ks K (aput (t.map (dv ρ)) dst v) σ:=by
 refine ⟨v::ρ,_,k,hk,?_,?_,hd⟩
 ·exact (hw.mono (Nat.le_succ _)).put dst (Nat.lt_succ_self _)
 ·rw[UO,QvY hw,QnJ]
theorem Qmy (ρ:List AV) (t:List SV) (xs:List Operand):xs.map (QB (t.map (dv ρ)))=(xs.map (evS t)).map (dv ρ):=by
 rw[List.map_map];exact List.map_congr_left fun x _=>QN ρ t x
theorem QAA (ρ:List AV) (t:List SV) (ps:List (Nat × Operand)):(ps.map fun p=>(p.1,QB (t.map (dv ρ)) p.2))=(ps.map fun p=>(p.1,evS t p.2)).map fun p=>(p.1,dv ρ p.2):=by
 rw[List.map_map];exact List.map_congr_left fun p _=>by simp only[Function.comp,QN]
theorem QfC {o:Oper} {t:List SV} {ρ:List AV} {x:Sx} {K:List SV→Nat→Sx→Bool} {σ:AH} (h:Qbk T o t ρ.length x K=true) (hw:WF ρ.length t) (hd:den P T R x ρ ks σ):
  bop P T o.op (QB (t.map (dv ρ))) σ (onr (fun v σ'=>Goes P T R ks K (aput (t.map (dv ρ)) o.dst v) σ') (fun v σ'=>apan v σ' R)):=by
 unfold Qbk at h;split at h
 ·rename_i ty zs k ho;rw[ho];simp only[Bool.and_eq_true] at h;obtain ⟨h1,h2⟩:=h;split at h1
  case h_2=>cases h1
  rename_i ti ht;simp only[bop,ht];rw[QfB h1] at hd;exact fun φ hφ=>Goes.push hw h2 (hd φ hφ)
 ·rename_i e a a' k ho;rw[ho];simp only[Bool.and_eq_true] at h;simp only[bop,QN];rw[←Qp h.1];simp only[den] at hd;unfold abox at hd ⊢;split at hd
  ·exact fun φ hφ=>Goes.push hw h.2 (hd φ hφ)
  ·exact hd.elim
 ·rename_i ty n ps sz z n' ps' k ho;rw[ho];simp only[Bool.and_eq_true] at h;obtain ⟨⟨⟨h1,h2⟩,h3⟩,h4⟩:=h;split at h1
  case h_2=>cases h1
  rename_i te hte;simp only[Bool.and_eq_true] at h1;simp only[bop,hte,QAA];rw[←Qld h3,Nat.eq_of_beq_eq_true h1.1,Nat.eq_of_beq_eq_true h2];simp only[den] at hd;rw[QfB h1.2] at hd;unfold bsl at hd ⊢;split at hd
  ·refine ⟨hd.1,?_⟩;have h2:=hd.2;split at h2
   ·rename_i c;rw[if_pos c];exact Goes.push hw h4 h2
   ·rename_i c;rw[if_neg c];exact fun φ hφ=>Goes.push hw h4 (h2 φ hφ)
  ·exact hd.elim
 ·rename_i ty a v n p' v' k ho;rw[ho];simp only[Bool.and_eq_true] at h;obtain ⟨⟨⟨h1,h2⟩,h3⟩,h4⟩:=h;split at h1
  case h_2=>cases h1
  rename_i ti ht;simp only[bop,ht,QN];rw[←Qp h2,←Qp h3,Nat.eq_of_beq_eq_true h1];simp only[den] at hd;unfold sto at hd ⊢;split at hd
  ·obtain ⟨a1,a2,F,a3,a4,a5,a6,a7⟩:=hd;exact ⟨a1,a2,F,a3,a4,a5,a6,ρ,_,k,h4,hw.put _ trivial,UO ..,a7⟩
  ·exact hd.elim
 ·rename_i ty l c ty' l' c' k ho;rw[ho];simp only[Bool.and_eq_true] at h;obtain ⟨⟨⟨h1,h2⟩,h3⟩,h4⟩:=h;simp only[bop,aop,QN];rw[←Qp h2,←Qp h3,Nat.eq_of_beq_eq_true h1];simp only[den] at hd;unfold Qc3 at hd ⊢;split at hd
  ·split at hd
   ·split at hd
    ·obtain ⟨a1,a2,a3,a4,a5⟩:=hd;exact ⟨a1,a2,a3,a4,fun φ hφ=>Goes.push hw h4 (a5 φ hφ)⟩
    ·exact hd.elim
   ·exact hd.elim
  ·exact hd.elim
 ·rename_i fn fs cs fn' fs' cs' k ho;rw[ho];simp only[Bool.and_eq_true,decide_eq_true_eq] at h;obtain ⟨⟨⟨h1,h2⟩,h3⟩,h4⟩:=h;simp only[bop,aop,Qmy];rw[←QbZ h2,←QbZ h3,h1];exact Goes.push hw h4 hd
 ·rename_i ty a ty' a' k ho;rw[ho];simp only[Bool.and_eq_true] at h;obtain ⟨⟨h1,h2⟩,h3⟩:=h;simp only[bop,aop,QN];rw[←Qp h2,Nat.eq_of_beq_eq_true h1];exact JR (fun _ h=>h) (fun v hv=>Goes.push hw h3 hv) hd
 ·rename_i a _ ty ok a' ty' ok' k ho;rw[ho];simp only[Bool.and_eq_true] at h;obtain ⟨⟨⟨h1,h2⟩,h3⟩,h4⟩:=h;simp only[bop,aop,QN];rw[←Qp h1,Nat.eq_of_beq_eq_true h2,Qdf h3];exact JR (fun _ h=>h) (fun v hv=>Goes.push hw h4 hv) hd
 ·rename_i a a' ho;rw[ho];simp only[bop,aop,QN];rw[←Qp h];exact hd
 ·rename_i c f xs k ho;rw[ho];simp only[Bool.and_eq_true] at h;obtain ⟨⟨h1,h2⟩,h3⟩:=h;split at h1
  case h_2=>cases h1
  rename_i g hc;simp only[bop,hc,Qmy];rw[←QbZ h2];simp only[den] at hd;rw[←Nat.eq_of_beq_eq_true h1] at hd;show acall P g ([]++(_++[])) σ _;rw[List.nil_append,List.append_nil];exact acall.mono hd (U9 (fun v σ' hv=>Goes.push hw h3 hv) (fun _ _ h=>h))
 ·rename_i c f xs k ho;rw[ho];simp only[Bool.and_eq_true] at h;obtain ⟨⟨h1,h2⟩,h3⟩:=h;split at h1
  case h_2=>cases h1
  rename_i g hc;simp only[bop,hc,Qmy,QN];rw[←QbZ h2,←Qp h1];simp only[den] at hd;exact Ql6 hd (U9 (fun v σ' hv=>Goes.push hw h3 hv) (fun _ _ h=>h))
 ·rename_i c sz s a k ho;rw[ho];simp only[Bool.and_eq_true] at h;obtain ⟨h1,h3⟩:=h;split at h1
  case h_2=>cases h1
  rename_i s' a' hc hx;simp only[Bool.and_eq_true] at h1;obtain ⟨⟨h1,h4⟩,h5⟩:=h1;split at h1
  case h_2=>cases h1
  rename_i n hn;simp only[bop,hc,hx,hn,QN];rw[←Qp h4,←Qp h5,Nat.eq_of_beq_eq_true h1];simp only[den] at hd;unfold app at hd ⊢;split at hd
  ·obtain ⟨g,hd⟩:=hd;refine ⟨g,?_⟩;split at hd
   ·split at hd
    ·obtain ⟨a1,a2,a3,a4,a5,a6⟩:=hd;exact ⟨a1,a2,a3,a4,a5,Goes.push hw h3 a6⟩
    ·exact hd.elim
   ·exact ⟨hd.1,fun e=>Goes.push hw h3 (hd.2.1 e),fun e φ hφ=>Goes.push hw h3 (hd.2.2 e φ hφ)⟩
   ·exact ⟨hd.1,fun e=>Goes.push hw h3 (hd.2.1 e),fun e φ hφ=>Goes.push hw h3 (hd.2.2 e φ hφ)⟩
   ·exact hd.elim
  ·exact hd.elim
 ·cases h
end
end
section
variable [Lam]
def QnO (T:Tab) (o:Oper) (t:List SV) (d:Nat) (x:Sx) (K:List SV→Nat→Sx→Bool):Bool:=match symE T o.op (evS t) with
 |some (.ret s)=>K (sput t o.dst s) d x
 |some e=>match x with
  | .og e' k=>eqE d e e'&&K (sput t o.dst (.var d)) (d+1) k
  |_=>false
 |none=>false
def Qrn (T:Tab) (o:Oper) (t:List SV) (d:Nat) (x:Sx) (K:List SV→Nat→Sx→Bool):Bool:=QnO T o t d x K||match x with
 | .cmp op ty a b k=>(match o.op with
  | .binOp op' ty' a' b' _=>decide (op'=op)&&Nat.beq ty' ty&& !Qd5 T ty'&& !UD T ty'&&eqv d (evS t a') a&&eqv d (evS t b') b
  |_=>false)&&K (sput t o.dst (.var d)) (d+1) k
 | .cnv s e a k=>(match o.op with
  | .convert s' e' a'=>Nat.beq s' s&&Nat.beq e' e&&eqv d (evS t a') a
  |_=>false)&&K (sput t o.dst (.var d)) (d+1) k
 |_=>false
inductive Gd where
 |free
 |go
 |skip
 |ask (b:SV) (want g:Bool) (s:Nat)
 |bad
def gst (ops:Array Oper) (o:Oper) (t:List SV):Gd:=match o.guard with
 |none=> .free
 |some (j,want)=>match Qcf ops j with
  |none=> .bad
  |some s=>match t.getD s .any with
   | .cst (.bool b)=>match eqB b want with|true=> .go|false=> .skip
   | .unit=>match QbW ops j with|true=> .skip|false=> .bad
   |b=> .ask b want (QbW ops j) s
def QqZ (T:Tab) (o:Oper) (t:List SV) (d:Nat) (b:SV) (want g:Bool) (s:Nat) (x:Sx) (Kr Ks:List SV→Nat→Sx→Bool):Bool:=match x with
 | .gpick b' xa xb xc=>eqv d b b'&&
  (match want with|true=>Qbk T o (t.set s (.cst (.bool true))) d xa Kr|false=>Ks (sput (t.set s (.cst (.bool true))) o.dst .unit) d xa)&&
  (match want with|true=>Ks (sput (t.set s (.cst (.bool false))) o.dst .unit) d xb|false=>Qbk T o (t.set s (.cst (.bool false))) d xb Kr)&&
  (match g with|true=>Ks (sput (t.set s .unit) o.dst .unit) d xc|false=>match xc with| .no=>true|_=>false)
 |_=>false
def Qro (T:Tab) (o:Oper) (t:List SV) (d:Nat) (b:SV) (want g:Bool) (x:Sx) (K:List SV→Nat→Sx→Bool):Bool:=match symE T o.op (evS t),x with
 |some e,.gog b' w' g' e' k=>eqv d b b'&&eqB want w'&&eqB g g'&&eqE d e e'&&K (sput t o.dst (.var d)) (d+1) k
 |_,_=>false
def Qat (T:Tab) (ops:Array Oper) (K:List SV→Nat→Sx→Bool):List Oper→List SV→Nat→Sx→Bool
 |[],t,d,x=>K t d x
 |o::rest,t,d,x=>match Qbi o.op,gst ops o t with
  |true,.free=>Qrn T o t d x (Qat T ops K rest)
  |true,.go=>QnO T o t d x (Qat T ops K rest)
  |true,.ask b want g _=>Qro T o t d b want g x (Qat T ops K rest)
  |false,.free=>Qbk T o t d x (Qat T ops K rest)
  |false,.go=>Qbk T o t d x (Qat T ops K rest)
  |false,.ask b want g s=>QqZ T o t d b want g s x (Qat T ops K rest) (Qat T ops K rest)
  |_,.skip=>Qat T ops K rest (sput t o.dst .unit) d x
  |_,.bad=>false
theorem Qmz {T:Tab} {o:Op} {ev:Operand→SV} {s:SV} (h:symE T o ev=some (.ret s)):∃x,s=ev x:=by
 unfold symE at h;split at h
 ·cases h;exact ⟨_,rfl⟩
 ·cases h;exact ⟨_,rfl⟩
 ·split at h
  ·cases h;exact ⟨_,rfl⟩
  ·cases h;exact ⟨_,rfl⟩
  ·cases h
 all_goals (repeat' split at h)<;>cases h
section
variable {P:Program} {T:Tab} {R:AEnd→AH→Prop} {ks:List Kont}
theorem Qp3 {o:Oper} {t:List SV} {ρ:List AV} {x:Sx} {K:List SV→Nat→Sx→Bool} {σ:AH} (h:QnO T o t ρ.length x K=true) (hw:WF ρ.length t) (hd:den P T R x ρ ks σ):
  og (bval T o.op (QB (t.map (dv ρ))) σ) fun v=>Goes P T R ks K (aput (t.map (dv ρ)) o.dst v) σ:=by
 unfold QnO at h;split at h
 ·rename_i s hs;rw[←Qen hs (dv ρ) (fun _=>rfl) (QN ρ t) σ];obtain ⟨y,rfl⟩:=Qmz hs;exact ⟨ρ,_,x,h,hw.put _ (hw.ev y),UO ..,hd⟩
 ·rename_i e _ he;rw[←Qen he (dv ρ) (fun _=>rfl) (QN ρ t) σ];split at h
  case h_2=>cases h
  simp only[Bool.and_eq_true] at h;simp only[den] at hd;rw[Qez h.1] at hd;exact JR (fun _ h=>h) (fun v hv=>Goes.push hw h.2 hv) hd
 ·cases h
theorem QuE {o:Oper} {t:List SV} {ρ:List AV} {x:Sx} {K:List SV→Nat→Sx→Bool} {σ:AH} (h:Qrn T o t ρ.length x K=true) (hw:WF ρ.length t) (hd:den P T R x ρ ks σ) {N:List AV→AH→Prop} {Kp:AV→AH→Prop} (hN:∀a σ,Goes P T R ks K a σ→N a σ):
  bop P T o.op (QB (t.map (dv ρ))) σ (onr (fun v σ'=>N (aput (t.map (dv ρ)) o.dst v) σ') Kp):=by
 unfold Qrn at h;rw[Bool.or_eq_true] at h;rcases h with h|h
 ·obtain ⟨v,h1,h2⟩:=Ud (Qp3 h hw hd);exact Qev h1 (hN _ _ h2)
 split at h
 ·rename_i op ty a b k;simp only[Bool.and_eq_true] at h;obtain ⟨h1,h2⟩:=h;split at h1
  case h_2=>cases h1
  rename_i op' ty' a' b' _ ho;simp only[Bool.and_eq_true,decide_eq_true_eq,Bool.not_eq_true'] at h1;obtain ⟨⟨⟨⟨⟨e1,e2⟩,e3⟩,e4⟩,e5⟩,e6⟩:=h1;rw[ho];simp only[bop,e3,e4,QN];rw[←Qp e5,←Qp e6,e1,Nat.eq_of_beq_eq_true e2];simp only[den] at hd;have:∀(k k':AV→Prop),(∀v,k v→k' v)→abin T op ty (di ρ a) (di ρ b) k→abin T op ty (di ρ a) (di ρ b) k':=by
   intro k k' hk hb;unfold abin at hb ⊢;have hq:∀(f:Bool→AV),aeql T ty (di ρ a) (di ρ b) (fun b=>k (f b))→aeql T ty (di ρ a) (di ρ b) (fun b=>k' (f b)):=by
    intro f hb;unfold aeql at hb ⊢;split at hb
    ·split at hb<;>first|exact hk _ hb|exact fun b h=>hk _ (hb b h)|exact fun b=>hk _ (hb b)|exact hb.elim|skip
     split at hb
     ·exact hk _ hb
     ·exact hb.elim
    ·exact hb.elim
   split at hb
   ·exact JR (fun _ h=>h) hk hb
   ·exact JR (fun _ h=>h) hk hb
   ·split at hb
    ·exact hq _ hb
    ·exact hq (fun b=> .val (.bool !b)) hb
    ·exact hb.elim
  exact this _ _ (fun v hv=>hN _ _ (Goes.push hw h2 hv)) hd
 ·rename_i s e a k;simp only[Bool.and_eq_true] at h;obtain ⟨h1,h2⟩:=h;split at h1
  case h_2=>cases h1
  rename_i s' e' a' ho;simp only[Bool.and_eq_true] at h1;obtain ⟨⟨e1,e2⟩,e3⟩:=h1;rw[ho];simp only[bop,aop,QN];rw[←Qp e3,Nat.eq_of_beq_eq_true e1,Nat.eq_of_beq_eq_true e2];simp only[den] at hd;unfold Qd4 at hd ⊢;split at hd
  ·split at hd
   ·exact hN _ _ (Goes.push hw h2 hd)
   ·exact hN _ _ (Goes.push hw h2 hd)
   ·split at hd
    ·split at hd
     ·exact ⟨hd.1,hd.2.1,hN _ _ (Goes.push hw h2 hd.2.2)⟩
     ·exact hd.elim
    ·exact hd.elim
   ·split at hd
    ·split at hd
     ·exact fun φ h0=>hN _ _ (Goes.push hw h2 (hd φ h0))
     ·exact hd.elim
    ·exact hd.elim
   ·exact hd.elim
  ·exact hd.elim
 ·cases h
end
end
section
variable [Lam]
section
variable {P:Program} {T:Tab} {R:AEnd→AH→Prop} {ks:List Kont} {ops:Array Oper} {o:Oper} {t:List SV} {ρ:List AV} {x:Sx} {σ:AH}
theorem Qbl (h:gst ops o t= .free∨gst ops o t= .go):gdec ops o (t.map (dv ρ))=some true:=by
 unfold gst at h;unfold gdec;cases hg:o.guard with
 |none=>rfl
 |some gw=>
  obtain ⟨j,want⟩:=gw;rw[hg] at h;simp only[] at h ⊢;cases hs:Qcf ops j with
  |none=>rw[hs] at h;rcases h with h|h<;>cases h
  |some s=>
   rw[hs] at h;simp only[UA] at h ⊢;split at h
   ·rename_i b hb;rw[hb];split at h
    ·rename_i e;simp only[dv,ofV];rw[Qdf e];simp
    ·rcases h with h|h<;>cases h
   ·split at h<;>rcases h with h|h<;>cases h
   ·rcases h with h|h<;>cases h
theorem QcQ (h:gst ops o t= .skip):gdec ops o (t.map (dv ρ))=some false:=by
 unfold gst at h;unfold gdec;cases hg:o.guard with
 |none=>rw[hg] at h;cases h
 |some gw=>
  obtain ⟨j,want⟩:=gw;rw[hg] at h;simp only[] at h ⊢;cases hs:Qcf ops j with
  |none=>rw[hs] at h;cases h
  |some s=>
   rw[hs] at h;simp only[UA] at h ⊢;split at h
   ·rename_i b hb;rw[hb];split at h
    ·cases h
    ·rename_i e;simp only[dv,ofV];cases b<;>cases want<;>first|rfl|(cases e;done)
   ·rename_i hb;rw[hb];split at h
    ·rename_i e;simp only[dv,e]
    ·cases h
   ·cases h
theorem Qg4 {b:SV} {want g:Bool} {s:Nat} (h:gst ops o t= .ask b want g s):∃j,o.guard=some (j,want)∧Qcf ops j=some s∧b=t.getD s .any∧g=QbW ops j:=by
 unfold gst at h;cases hg:o.guard with
 |none=>rw[hg] at h;cases h
 |some gw=>
  obtain ⟨j,w⟩:=gw;rw[hg] at h;simp only[] at h;cases hs:Qcf ops j with
  |none=>rw[hs] at h;cases h
  |some s'=>
   rw[hs] at h;simp only[] at h;split at h
   ·split at h<;>cases h
   ·split at h<;>cases h
   ·cases h;exact ⟨j,rfl,hs,rfl,rfl⟩
theorem QuF {b:SV} {want g:Bool} {s:Nat} {K:List SV→Nat→Sx→Bool} (hg:gst ops o t= .ask b want g s) (h:Qro T o t ρ.length b want g x K=true) (hw:WF ρ.length t) (hd:den P T R x ρ ks σ):
  og (gvo ops o (t.map (dv ρ)) (bval T o.op (QB (t.map (dv ρ))) σ)) fun v=>Goes P T R ks K (aput (t.map (dv ρ)) o.dst v) σ:=by
 obtain ⟨j,h1,h2,h3,h4⟩:=Qg4 hg;unfold Qro at h;split at h
 case h_2=>cases h
 rename_i e b' w' g' e' k he;simp only[Bool.and_eq_true] at h;obtain ⟨⟨⟨⟨e1,e2⟩,e3⟩,e4⟩,e5⟩:=h;unfold gvo;simp only[h1,h2,UA];rw[←Qen he (dv ρ) (fun _=>rfl) (QN ρ t) σ,←Qez e4,←h3,←Qp e1,←h4,Qdf e2,Qdf e3];exact JR (fun _ h=>h) (fun v hv=>Goes.push hw e5 hv) hd
theorem Qrp {b:SV} {want g:Bool} {s:Nat} {Kr Ks:List SV→Nat→Sx→Bool} (_hs:Qbi o.op=false) (hg:gst ops o t= .ask b want g s) (h:QqZ T o t ρ.length b want g s x Kr Ks=true) (hw:WF ρ.length t) (hd:den P T R x ρ ks σ):
  bgd ops o (t.map (dv ρ))
   (fun a=>bop P T o.op (QB a) σ (onr (fun v σ'=>Goes P T R ks Kr (aput a o.dst v) σ') (fun v σ'=>apan v σ' R)))
   (fun a=>Goes P T R ks Ks (aput a o.dst (.tup [])) σ):=by
 obtain ⟨j,h1,h2,h3,h4⟩:=Qg4 hg;unfold QqZ at h;split at h
 case h_2=>cases h
 rename_i b' xa xb xc;simp only[Bool.and_eq_true] at h;obtain ⟨⟨⟨e1,e2⟩,e3⟩,e4⟩:=h;unfold bgd;simp only[h1,h2,UA];rw[←h3,←Qp e1];simp only[den] at hd;have hset:∀(u:SV),(t.map (dv ρ)).set s (dv ρ u)=(t.set s u).map (dv ρ):=fun u=>List.map_set.symm
 unfold gpick at hd ⊢;split at hd
 ·have hh:=hset (.cst (.bool true));rw[show dv ρ (.cst (.bool true))= .val (.bool true) from rfl] at hh;rw[hh];cases want with
  |true=>exact QfC e2 (hw.set s trivial) hd
  |false=>exact ⟨ρ,_,xa,e2,(hw.set s (show (SV.cst (.bool true)).lt _ from trivial)).put _ trivial,UO ..,hd⟩
 ·have hh:=hset (.cst (.bool false));rw[show dv ρ (.cst (.bool false))= .val (.bool false) from rfl] at hh;rw[hh];cases want with
  |true=>exact ⟨ρ,_,xb,e3,(hw.set s (show (SV.cst (.bool false)).lt _ from trivial)).put _ trivial,UO ..,hd⟩
  |false=>exact QfC e3 (hw.set s trivial) hd
 ·have hh:=hset .unit;rw[show dv ρ .unit= .tup [] from rfl] at hh;rw[hh,←h4];cases g with
  |true=>exact ⟨ρ,_,xc,e4,(hw.set s (show SV.unit.lt _ from trivial)).put _ trivial,UO ..,hd⟩
  |false=>
   simp only[] at e4;split at e4
   ·exact hd.elim
   ·cases e4
 ·exact hd.elim
theorem Qrq {K:List SV→Nat→Sx→Bool} {Kb:List AV→AH→Prop} {Kp:AV→List AV→AH→Prop} (hK:∀a σ,Goes P T R ks K a σ→Kb a σ) (hP:∀v a σ,apan v σ R→Kp v a σ) (rest:List Oper):
  ∀(i:Nat) (a:List AV) (σ:AH),Goes P T R ks (Qat T ops K rest) a σ→bops P T ops [] i rest a σ Kb Kp:=by
 induction rest with
 |nil=>intro i a σ h;exact hK a σ h
 |cons o rest ih=>
  rintro i a σ ⟨ρ,t,x,h,hw,rfl,hd⟩;have hf:fgm [] i (t.map (dv ρ))=t.map (dv ρ):=rfl;simp only[bops,hf];simp only[Qat] at h;have loud:∀(hl:Qbi o.op=false),Qbk T o t ρ.length x (Qat T ops K rest)=true→gdec ops o (t.map (dv ρ))=some true→
    bgd ops o (t.map (dv ρ)) (fun t=>bop P T o.op (QB t) σ (onr (fun v σ'=>bops P T ops [] (i+1) rest (aput t o.dst v) σ' Kb Kp) (fun v σ'=>Kp v t σ'))) (fun t=>bops P T ops [] (i+1) rest (aput t o.dst (.tup [])) σ Kb Kp):=by
   intro hl h hg;exact bgd_iff.mpr (.inl ⟨hg,QbJ hl (U9 (fun v σ' g=>ih _ _ _ g) (fun v σ' g=>hP _ _ _ g)) (QfC h hw hd)⟩)
  cases hs:Qbi o.op with
  |true=>
   cases hg:gst ops o t with
   |free=>
    rw[hs,hg] at h;have hgd:o.guard=none:=by
     unfold gst at hg;cases hh:o.guard with
     |none=>rfl
     |some gw=>
      obtain ⟨j,w⟩:=gw;rw[hh] at hg;simp only[] at hg
      repeat' split at hg
      all_goals cases hg
    simp only[hgd];exact bgd_iff.mpr (.inl ⟨Qbl (.inl hg),QuE h hw hd (fun a σ g=>ih _ _ _ g)⟩)
   |go=>
    rw[hs,hg] at h;have hv:=Qp3 h hw hd;split
    ·rw[gvo_gdec,Qbl (.inr hg)];exact JR (fun _ h=>h) (fun v g=>ih _ _ _ g) hv
    ·obtain ⟨v,h1,h2⟩:=Ud hv;exact bgd_iff.mpr (.inl ⟨Qbl (.inr hg),Qev h1 (ih _ _ _ h2)⟩)
   |skip=>
    rw[hs,hg] at h;have hgo:Goes P T R ks (Qat T ops K rest) (aput (t.map (dv ρ)) o.dst (.tup [])) σ:=⟨ρ,_,x,h,hw.put _ trivial,UO ..,hd⟩;split
    ·rw[gvo_gdec,QcQ hg];exact ih _ _ _ hgo
    ·exact bgd_iff.mpr (.inr ⟨QcQ hg,ih _ _ _ hgo⟩)
   |ask b want g s=>
    rw[hs,hg] at h;obtain ⟨j,h1,_⟩:=Qg4 hg;simp only[h1];exact JR (fun _ h=>h) (fun v g=>ih _ _ _ g) (QuF hg h hw hd)
   |bad=>rw[hs,hg] at h;cases h
  |false=>
   cases hg:gst ops o t with
   |free=>rw[hs,hg] at h;exact loud hs h (Qbl (.inl hg))
   |go=>rw[hs,hg] at h;exact loud hs h (Qbl (.inr hg))
   |skip=>
    rw[hs,hg] at h;have hgo:Goes P T R ks (Qat T ops K rest) (aput (t.map (dv ρ)) o.dst (.tup [])) σ:=⟨ρ,_,x,h,hw.put _ trivial,UO ..,hd⟩;exact bgd_iff.mpr (.inr ⟨QcQ hg,ih _ _ _ hgo⟩)
   |ask b want g s=>
    rw[hs,hg] at h;have:=Qrp hs hg h hw hd;rw[bgd_iff] at this ⊢;rcases this with ⟨g1,g2⟩|⟨g1,g2⟩
    ·exact .inl ⟨g1,QbJ hs (U9 (fun v σ' g=>ih _ _ _ g) (fun v σ' g=>hP _ _ _ g)) g2⟩
    ·exact .inr ⟨g1,ih _ _ _ g2⟩
   |bad=>rw[hs,hg] at h;cases h
end
end
section
variable [Lam]
def QnP (T:Tab) (o:Oper) (t:List SV) (d:Nat) (x:Sx) (K:List SV→Nat→Sx→Bool):Bool:=match Qc7 T o.op (evS t) with
 |some (.ret s)=>K (sput t o.dst s) d x
 |some e=>match x with
  | .og e' k=>eqE d e e'&&K (sput t o.dst (.var d)) (d+1) k
  |_=>false
 |none=>false
def Qrr (T:Tab) (o:Oper) (t:List SV) (d:Nat) (b:SV) (want g:Bool) (x:Sx) (K:List SV→Nat→Sx→Bool):Bool:=match Qc7 T o.op (evS t),x with
 |some e,.gog b' w' g' e' k=>eqv d b b'&&eqB want w'&&eqB g g'&&eqE d e e'&&K (sput t o.dst (.var d)) (d+1) k
 |_,_=>false
theorem QuG {T:Tab} {o:Op} {ev:Operand→SV} {s:SV} (h:Qc7 T o ev=some (.ret s)):∃x,s=ev x:=by
 unfold Qc7 at h;split at h
 ·split at h<;>cases h
 ·split at h
  ·cases h
  ·exact Qmz h
 ·exact Qmz h
section
variable {P:Program} {T:Tab} {R:AEnd→AH→Prop} {ks:List Kont} {ops:Array Oper}
theorem Qp4 {o:Oper} {t:List SV} {ρ:List AV} {x:Sx} {K:List SV→Nat→Sx→Bool} {σ:AH} (h:QnP T o t ρ.length x K=true) (hw:WF ρ.length t) (hd:den P T R x ρ ks σ):
  og (JL T o.op (QB (t.map (dv ρ))) σ) fun v=>Goes P T R ks K (aput (t.map (dv ρ)) o.dst v) σ:=by
 unfold QnP at h;split at h
 ·rename_i s hs;rw[←Qey hs (dv ρ) (fun _=>rfl) (QN ρ t) σ];obtain ⟨y,rfl⟩:=QuG hs;exact ⟨ρ,_,x,h,hw.put _ (hw.ev y),UO ..,hd⟩
 ·rename_i e _ he;rw[←Qey he (dv ρ) (fun _=>rfl) (QN ρ t) σ];split at h
  case h_2=>cases h
  simp only[Bool.and_eq_true] at h;simp only[den] at hd;rw[Qez h.1] at hd;exact JR (fun _ h=>h) (fun v hv=>Goes.push hw h.2 hv) hd
 ·cases h
theorem QuH {o:Oper} {t:List SV} {ρ:List AV} {x:Sx} {σ:AH} {b:SV} {want g:Bool} {s:Nat} {K:List SV→Nat→Sx→Bool} (hg:gst ops o t= .ask b want g s) (h:Qrr T o t ρ.length b want g x K=true) (hw:WF ρ.length t) (hd:den P T R x ρ ks σ):
  og (gvo ops o (t.map (dv ρ)) (JL T o.op (QB (t.map (dv ρ))) σ)) fun v=>Goes P T R ks K (aput (t.map (dv ρ)) o.dst v) σ:=by
 obtain ⟨j,h1,h2,h3,h4⟩:=Qg4 hg;unfold Qrr at h;split at h
 case h_2=>cases h
 rename_i e b' w' g' e' k he;simp only[Bool.and_eq_true] at h;obtain ⟨⟨⟨⟨e1,e2⟩,e3⟩,e4⟩,e5⟩:=h;unfold gvo;simp only[h1,h2,UA];rw[←Qey he (dv ρ) (fun _=>rfl) (QN ρ t) σ,←Qez e4,←h3,←Qp e1,←h4,Qdf e2,Qdf e3];exact JR (fun _ h=>h) (fun v hv=>Goes.push hw e5 hv) hd
end
def Qck (T:Tab) (ops:Array Oper) (t:List SV) (d:Nat):List Nat→List Wat→Bool
 |[],[]=>true
 |y::r,ws=>match ops[y]? with
  |none=>false
  |some o=>match o.dst with
   |none=>false
   |some dd=>match gst ops o t,ws with
    | .skip,ws=>(match t.getD dd .any with| .unit=>true|_=>false)&&Qck T ops t d r ws
    | .free,w::ws=>(match w.gd,Qc7 T o.op (evS t) with|none,some e=>eqE d e w.e&&eqv d (t.getD dd .any) w.v|_,_=>false)&&Qck T ops t d r ws
    | .go,w::ws=>(match w.gd,Qc7 T o.op (evS t) with|none,some e=>eqE d e w.e&&eqv d (t.getD dd .any) w.v|_,_=>false)&&Qck T ops t d r ws
    | .ask b want g _,w::ws=>(match w.gd,Qc7 T o.op (evS t) with
      |some (b',want',g'),some e=>eqv d b b'&&eqB want want'&&eqB g g'&&eqE d e w.e&&eqv d (t.getD dd .any) w.v
      |_,_=>false)&&Qck T ops t d r ws
    |_,_=>false
 |_,_=>false
def okCw (T:Tab) (ops:Array Oper) (ancs:List Nat) (K:List SV→Nat→Sx→Bool):List Nat→List Nat→List SV→Nat→Sx→Bool
 |[],_,t,d,x=>K t d x
 |i::l,dn,t,d,x=>match ops[i]? with
  |none=>false
  |some o=>match Jl o.op,gst ops o t with
   |true,.free=>QnP T o t d x (okCw T ops ancs K l (i::dn))
   |true,.go=>QnP T o t d x (okCw T ops ancs K l (i::dn))
   |true,.ask b want g _=>Qrr T o t d b want g x (okCw T ops ancs K l (i::dn))
   |false,.free=>Qbk T o t d x (fun t d x=>match x with| .wat ws k=>Qck T ops t d (wl ops ancs dn i) ws&&okCw T ops ancs K l (i::dn) t d k|_=>false)
   |false,.go=>Qbk T o t d x (fun t d x=>match x with| .wat ws k=>Qck T ops t d (wl ops ancs dn i) ws&&okCw T ops ancs K l (i::dn) t d k|_=>false)
   |false,.ask b want g s=>QqZ T o t d b want g s x (fun t d x=>match x with| .wat ws k=>Qck T ops t d (wl ops ancs dn i) ws&&okCw T ops ancs K l (i::dn) t d k|_=>false) (okCw T ops ancs K l (i::dn))
   |_,.skip=>okCw T ops ancs K l (i::dn) (sput t o.dst .unit) d x
   |_,.bad=>false
section
variable {P:Program} {T:Tab} {R:AEnd→AH→Prop} {ks:List Kont} {ops:Array Oper} {ancs:List Nat}
theorem QvZ {t:List SV} {ρ:List AV} {σ:AH} (l:List Nat):∀(ws:List Wat),Qck T ops t ρ.length l ws=true→dwat T ρ σ ws→wat T ops l (t.map (dv ρ)) σ:=by
 induction l with
 |nil=>intro ws _ _;trivial
 |cons y r ih=>
  intro ws h hd;unfold Qck at h;cases hy:ops[y]? with
  |none=>rw[hy] at h;cases h
  |some o=>
   rw[hy] at h;simp only[] at h;cases ho:o.dst with
   |none=>rw[ho] at h;cases h
   |some dd=>
    rw[ho] at h;simp only[] at h;have goal1:gvo ops o (t.map (dv ρ)) (JL T o.op (QB (t.map (dv ρ))) σ)=some (dv ρ (t.getD dd .any))→wat1 T ops y (t.map (dv ρ)) σ:=by
     intro g;unfold wat1;simp only[hy,ho,UA];exact g
    have free:∀(w:Wat),(match w.gd,Qc7 T o.op (evS t) with|none,some e=>eqE ρ.length e w.e&&eqv ρ.length (t.getD dd .any) w.v|_,_=>false)=true→(gst ops o t= .free∨gst ops o t= .go)→Qf T ρ σ w→wat1 T ops y (t.map (dv ρ)) σ:=by
     intro w hw hg hd1;split at hw
     case h_2=>cases hw
     rename_i e e1 e2;simp only[Bool.and_eq_true] at hw;refine goal1 ?_;rw[gvo_gdec,Qbl hg];simp only[];rw[←Qey e2 (dv ρ) (fun _=>rfl) (QN ρ t) σ,←Qez hw.1,←Qp hw.2];unfold Qf at hd1;rw[e1] at hd1;exact hd1
    split at h
    ·rename_i hg;simp only[Bool.and_eq_true] at h;refine ⟨goal1 ?_,ih _ h.2 hd⟩;rw[gvo_gdec,QcQ hg];have h1:=h.1;split at h1
     ·rename_i hu;rw[hu];rfl
     ·cases h1
    ·rename_i w ws hg;simp only[Bool.and_eq_true] at h;exact ⟨free w h.1 (.inl hg) hd.1,ih _ h.2 hd.2⟩
    ·rename_i w ws hg;simp only[Bool.and_eq_true] at h;exact ⟨free w h.1 (.inr hg) hd.1,ih _ h.2 hd.2⟩
    ·rename_i b want g _ w ws hg;simp only[Bool.and_eq_true] at h;refine ⟨goal1 ?_,ih _ h.2 hd.2⟩;obtain ⟨j,h1,h2,h3,h4⟩:=Qg4 hg;have hw:=h.1;split at hw
     case h_2=>cases hw
     rename_i b' want' g' e e1 e2;simp only[Bool.and_eq_true] at hw;obtain ⟨⟨⟨⟨w1,w2⟩,w3⟩,w4⟩,w5⟩:=hw;unfold gvo;simp only[h1,h2,UA];rw[←Qey e2 (dv ρ) (fun _=>rfl) (QN ρ t) σ,←Qez w4,←Qp w5,←h3,←Qp w1,←h4,Qdf w2,Qdf w3];have hd1:=hd.1;unfold Qf at hd1;rw[e1] at hd1;exact hd1
    ·cases h
theorem Qg5 {K:List SV→Nat→Sx→Bool} {Kb:List AV→AH→Prop} {Kp:AV→AH→Prop} (hK:∀a σ,Goes P T R ks K a σ→Kb a σ) (hP:∀v σ,apan v σ R→Kp v σ) (l:List Nat):
  ∀(dn:List Nat) (a:List AV) (σ:AH),Goes P T R ks (okCw T ops ancs K l dn) a σ→cw P T ops ancs l dn a σ Kb Kp:=by
 induction l with
 |nil=>intro dn a σ h;exact hK a σ h
 |cons i l ih=>
  rintro dn a σ ⟨ρ,t,x,h,hw,rfl,hd⟩;simp only[okCw] at h;cases hi:ops[i]? with
  |none=>rw[hi] at h;cases h
  |some o=>
   rw[hi] at h;simp only[cw,hi];simp only[] at h;have watch:∀a σ,Goes P T R ks (fun t d x=>match x with| .wat ws k=>Qck T ops t d (wl ops ancs dn i) ws&&okCw T ops ancs K l (i::dn) t d k|_=>false) a σ→
     wat T ops (wl ops ancs dn i) a σ∧cw P T ops ancs l (i::dn) a σ Kb Kp:=by
    rintro a σ ⟨ρ,t,x,h,hw,rfl,hd⟩;simp only[] at h;split at h
    case h_2=>cases h
    simp only[Bool.and_eq_true] at h;exact ⟨QvZ _ _ h.1 hd.1,ih _ _ _ ⟨ρ,t,_,h.2,hw,rfl,hd.2⟩⟩
   have skip:gst ops o t= .skip→okCw T ops ancs K l (i::dn) (sput t o.dst .unit) ρ.length x=true→cw P T ops ancs l (i::dn) (aput (t.map (dv ρ)) o.dst (.tup [])) σ Kb Kp:=
    fun _ h=>ih _ _ _ ⟨ρ,_,x,h,hw.put _ trivial,UO ..,hd⟩
   cases hs:Jl o.op with
   |true=>
    simp only[];rw[hs] at h;cases hg:gst ops o t with
    |free=>
     rw[hg] at h;rw[gvo_gdec,Qbl (.inl hg)];exact JR (fun _ h=>h) (fun v g=>ih _ _ _ g) (Qp4 h hw hd)
    |go=>
     rw[hg] at h;rw[gvo_gdec,Qbl (.inr hg)];exact JR (fun _ h=>h) (fun v g=>ih _ _ _ g) (Qp4 h hw hd)
    |skip=>
     rw[hg] at h;rw[gvo_gdec,QcQ hg];exact skip hg h
    |ask b want g s=>
     rw[hg] at h;exact JR (fun _ h=>h) (fun v g=>ih _ _ _ g) (QuH hg h hw hd)
    |bad=>rw[hg] at h;cases h
   |false=>
    simp only[];rw[hs] at h;have loud:Qbk T o t ρ.length x (fun t d x=>match x with| .wat ws k=>Qck T ops t d (wl ops ancs dn i) ws&&okCw T ops ancs K l (i::dn) t d k|_=>false)=true→
      bop P T o.op (QB (t.map (dv ρ))) σ (onr (fun v σ'=>wat T ops (wl ops ancs dn i) (aput (t.map (dv ρ)) o.dst v) σ'∧cw P T ops ancs l (i::dn) (aput (t.map (dv ρ)) o.dst v) σ' Kb Kp) (fun v σ'=>Kp v σ')):=
     fun h=>QbJ (UF hs) (U9 (fun v σ' g=>watch _ _ g) (fun v σ' g=>hP _ _ g)) (QfC h hw hd)
    cases hg:gst ops o t with
    |free=>rw[hg] at h;exact bgd_iff.mpr (.inl ⟨Qbl (.inl hg),loud h⟩)
    |go=>rw[hg] at h;exact bgd_iff.mpr (.inl ⟨Qbl (.inr hg),loud h⟩)
    |skip=>
     rw[hg] at h;exact bgd_iff.mpr (.inr ⟨QcQ hg,skip hg h⟩)
    |ask b want g s=>
     rw[hg] at h;have:=Qrp (UF hs) hg h hw hd;rw[bgd_iff] at this ⊢;rcases this with ⟨g1,g2⟩|⟨g1,g2⟩
     ·exact .inl ⟨g1,QbJ (UF hs) (U9 (fun v σ' g=>watch _ _ g) (fun v σ' g=>hP _ _ g)) g2⟩
     ·exact .inr ⟨g1,ih _ _ _ g2⟩
    |bad=>rw[hg] at h;cases h
end
end
section
variable [Lam]
inductive AX0 where
 |normal
 |exit (id:Nat)
 |ret
def AX0.up:AX0→AX
 | .normal=> .normal
 | .exit id=> .exit id
 | .ret=> .ret
abbrev KS:=AX0→List SV→Nat→Nat→Sx→Bool
def Qak:List SV→List SV
 |[]=>[]
 |_::t=> .any::Qak t
def expS:List Nat→List SV→List SV
 |[],b=>b
 |i::l,b=>expS l (b.set i (.var l.length))
def QmA:List SV→List SV→Bool
 |[],[]=>true
 |_::a,_::b=>QmA a b
 |_,_=>false
def QnQ (ls:List Nat) (m:Nat) (t t':List SV) (d' m':Nat) (x':Sx):Bool:=match x' with
 | .jump j xs=>Nat.beq (j+m+1) m'&&QmA t' t&&eqvs d' (ls.map fun i=>t'.getD i .any) xs
 |_=>false
def onN (n:List SV→Nat→Nat→Sx→Bool) (K:KS):KS:=fun ax t d m x=>match ax with
 | .normal=>n t d m x
 |ax=>K ax t d m x
def onB (id:Nat) (K:KS):KS:=fun ax t d m x=>match ax with
 | .exit j=>match Nat.beq j id with|true=>K .normal t d m x|false=>K (.exit j) t d m x
 |ax=>K ax t d m x
def isJn (p:Nat) (x:Sx):Option (List Nat × Sx × Sx):=match x with
 | .jn q ls r k=>match Nat.beq q p with|true=>some (ls,r,k)|false=>none
 |_=>none
def Qxo (m:Nat) (x:Sx):Bool:=match x with
 | .jump j _=>Nat.beq (j+1) m
 |_=>false
def rplS (n d:Nat):List SV→List SV
 |[]=>[]
 |s::t=>(match s with| .var i=>(match Nat.beq i n with|true=> .var d|false=> .var i)|s=>s)::rplS n d t
def peel (K:List SV→Nat→Sx→Bool):Sx→List SV→Nat→Bool
 | .frz n x k,t,d=>eqv d (.var n) x&&Nat.blt n d&&peel K k (rplS n d t) (d+1)
 |x,t,d=>K t d x
def isNo:Sx→Bool
 | .no=>true
 |_=>false
def okC (T:Tab):Nat→Code→List SV→Nat→Nat→KS→Sx→Bool
 |_,.skip,t,d,m,K,x=>K .normal t d m x
 |_,.ret,t,d,m,K,x=>K .ret t d m x
 |_,.exit id,t,d,m,K,x=>K (.exit id) t d m x
 |_,.region _ ops draw,t,d,m,K,x=>peel (fun t d x=>match draw with
  |false=>Qat T ops (fun t d x=>K .normal t d m x) ops.toList t d x
  |true=>match x with
   | .ord C ancs k=>chk T ops ancs C&&okCw T ops ancs (fun t d x=>K .normal t d m x) C [] t d k
   | .both X c L1 i L2 ancs k1 k2=>chk2 T ops ancs X c L1 i L2&&okCw T ops ancs (fun t d x=>K .normal t d m x) (X++c::L1) [] t d k1&&okCw T ops ancs (fun t d x=>K .normal t d m x) (X++i::L2) [] t d k2
   |_=>false) x t d
 |p,.seq a b,t,d,m,K,x=>match isJn (2*p+1) x with
  |some (ls,r,k)=>okC T (2*p) a t d (m+1) (onN (fun t' d' m' x'=>QnQ ls m t t' d' m' x') K) k&&okC T (2*p+1) b (expS ls (Qak t)) ls.length m K r
  |none=>okC T (2*p) a t d m (onN (fun t d m x=>okC T (2*p+1) b t d m K x) K) x
 |p,.cond c a b,t,d,m,K,x=>match evS t c with
  | .cst (.bool true)=>okC T (2*p) a t d m K x
  | .cst (.bool false)=>okC T (2*p+1) b t d m K x
  |s=>match x with
   | .apick s' xa xb=>eqv d s s'&&(isNo xa||okC T (2*p) a t d m K xa)&&(isNo xb||okC T (2*p+1) b t d m K xb)
   |_=>false
 |p,.block id body,t,d,m,K,x=>okC T (2*p) body t d m (onB id K) x
 |p,.loop body,t,d,m,K,x=>match x with
  | .lp ls xb xs=>eqvs d (ls.map fun i=>t.getD i .any) xs&&okC T (2*p) body (expS ls (Qak t)) ls.length (m+1) (onN (fun t' d' m' x'=>QnQ ls m t t' d' m' x') K) xb
  |_=>false
 |p,.rangeFunc g ps as body,t,d,m,K,x=>match ps.toList,x with
  |[q],.rng s xb k=>eqv d (evS t g) s&&okC T (2*p) as (t.set q (.var d)) (d+1) 1 (onN (fun t' d' m' x'=>okC T (2*p+1) body t' d' m' (onN (fun _ _ m2 x2=>Qxo m2 x2) fun _ _ _ _ _=>false) x') fun _ _ _ _ _=>false) xb&&K .normal t d m k
  |_,_=>false
 |_,_,_,_,_,_,_=>false
theorem Ux:∀(ls:List Nat) (x:Tup ls),(tupL ls x).length=ls.length
 |[],_=>rfl
 |_::l,x=>by simp[tupL,Ux l x.2]
theorem Qik:∀(l:List Nat) (pre:List AV) (x:Tup l) (b:List SV),(expS l b).map (dv (pre++tupL l x))=expT l (b.map (dv (pre++tupL l x))) x
 |[],_,_,_=>rfl
 |i::l,pre,x,b=>by
  have e:pre++tupL (i::l) x=(pre++[x.1])++tupL l x.2:=by simp[tupL]
  rw[e];show (expS l (b.set i (.var l.length))).map _=expT l ((b.map _).set i x.1) x.2;rw[Qik l (pre++[x.1]) x.2,List.map_set]
  congr 2
  simp only[dv,List.length_append,Ux,List.length_cons,List.length_nil];rw[show pre.length+(0+1)+l.length - 1 - l.length=pre.length by omega];simp[List.getD]
theorem Qd7 (ρ:List AV):∀(t:List SV),(Qak t).map (dv ρ)=Uu (t.map (dv ρ))
 |[]=>rfl
 |_::t=>by simp only[Qak,List.map_cons,Uu,Qd7 ρ t];rfl
theorem QfD (d:Nat):∀(t:List SV),WF d (Qak t)
 |[]=>fun _ h=>by cases h
 |_::t=>fun s h=>by
  rcases List.mem_cons.mp h with rfl|h
  ·trivial
  ·exact QfD d t s h
theorem Qle {d:Nat}:∀(l:List Nat) (b:List SV),WF d b→l.length≤d→WF d (expS l b)
 |[],_,h,_=>h
 |i::l,b,h,hl=>Qle l _ (h.set i (show l.length<d by simp at hl;omega)) (by simp at hl;omega)
theorem QeA (A:List AV):∀(ls:List Nat),lTup ls (ls.map fun i=>A.getD i .any)=Qby A ls
 |[]=>rfl
 |i::l=>by
  show (_,lTup l _)=(_,Qby A l);rw[←QeA A l];rfl
theorem Ql9:∀{a b:List SV},QmA a b=true→a.length=b.length
 |[],[],_=>rfl
 |_::a,_::b,h=>by simp[Ql9 (a:=a) (b:=b) h]
theorem QnR:∀{a b:List AV},a.length=b.length→Qem a b=true
 |[],[],_=>rfl
 |_::a,_::b,h=>by simp only[Qem];exact QnR (by simpa using h)
section
variable {P:Program} {T:Tab} {R:AEnd→AH→Prop}
theorem Qo9 {ls:List Nat} {t t':List SV} {ρ':List AV} {ks ks' pre:List Kont} {kont:Kont} {x':Sx} {σ:AH} (h:QnQ ls ks.length t t' ρ'.length ks'.length x'=true) (hks:ks'=pre++kont::ks) (hd:den P T R x' ρ' ks' σ):
  t'.length=t.length∧kont (ls.map fun i=>(t'.map (dv ρ')).getD i .any) σ:=by
 unfold QnQ at h;split at h
 case h_2=>cases h
 rename_i j xs;simp only[Bool.and_eq_true] at h;obtain ⟨⟨h1,h2⟩,h3⟩:=h;refine ⟨Ql9 h2,?_⟩;have hj:=Nat.eq_of_beq_eq_true h1;simp only[den] at hd;subst hks;have:j=pre.length:=by simp at hj;omega
 subst this;rw[show (pre++kont::ks).getD pre.length (fun _ _=>False)=kont by simp[List.getD]] at hd;rw[QbZ h3,List.map_map] at hd;rw[show (ls.map fun i=>(t'.map (dv ρ')).getD i .any)=ls.map (dv ρ' ∘ fun i=>t'.getD i .any) from List.map_congr_left fun i _=>UA ρ' t' i];exact hd
theorem QmB (n d:Nat):∀t:List SV,(rplS n d t).length=t.length
 |[]=>rfl
 |_::t=>by simp only[rplS,List.length_cons,QmB n d t]
theorem Qpa {n d:Nat}:∀{t:List SV},WF d t→WF (d+1) (rplS n d t)
 |[],_=>fun _ h=>by cases h
 |s::t,h=>fun u hu=>by
  rcases List.mem_cons.mp hu with rfl|hu
  ·have hs:=h s List.mem_cons_self;cases s with
   |var i=>
    simp only[];split
    ·exact Nat.lt_succ_self d
    ·exact Nat.lt_succ_of_lt hs
   |_=>trivial
  ·exact Qpa (fun v hv=>h v (List.mem_cons_of_mem _ hv)) u hu
theorem Qpb {n:Nat} {ρ:List AV} {v:AV}:∀{t:List SV},WF ρ.length t→∀i,i<t.length→
  ((rplS n ρ.length t).map (dv (v::ρ))).getD i .any=(t.map (dv ρ)).getD i .any∨((t.map (dv ρ)).getD i .any=dv ρ (.var n)∧((rplS n ρ.length t).map (dv (v::ρ))).getD i .any=v)
 |s::t,h,0,_=>by
  have hs:=h s List.mem_cons_self;cases s with
  |var j=>
   simp only[rplS,List.map_cons,List.getD_cons_zero];split
   ·rename_i e;obtain rfl:=Nat.eq_of_beq_eq_true e;exact .inr ⟨rfl,QnJ v⟩
   ·exact .inl (QcP v hs)
  |_=>exact .inl rfl
 |s::t,h,i+1,hi=>by
  simp only[rplS,List.map_cons,List.getD_cons_succ];exact Qpb (fun v hv=>h v (List.mem_cons_of_mem _ hv)) i (by simpa using hi)
theorem QxR {c:Code} {Q:QT} {K:List SV→Nat→Sx→Bool} {ks:List Kont} (hK:∀t ρ x σ,K t ρ.length x=true→WF ρ.length t→den P T R x ρ ks σ→swp P c Q (t.map (dv ρ)) σ):
  ∀(x:Sx) (t:List SV) (ρ:List AV) (σ:AH),peel K x t ρ.length=true→WF ρ.length t→den P T R x ρ ks σ→swp P c Q (t.map (dv ρ)) σ:=by
 intro x
 induction x with
 |frz n x k ih=>
  intro t ρ σ h hw hd;simp only[peel,Bool.and_eq_true] at h;obtain ⟨⟨h1,h2⟩,h3⟩:=h;simp only[den] at hd;obtain ⟨v',σ',g1,g2,g3⟩:=hd;rw[Qp h1] at g2;refine QxG (t2:=(rplS n ρ.length t).map (dv (v'::ρ))) g1 g2 (by simp[QmB]) (fun i hi=>Qpb hw i (by simpa using hi)) ?_;exact ih _ (v'::ρ) σ' h3 (Qpa hw) g3
 |_=>intro t ρ σ h hw hd;exact hK t ρ _ σ h hw hd
theorem QAB (hT:TabOk P T) (c:Code):∀(R:AEnd→AH→Prop) (p:Nat) (t:List SV) (ρ:List AV) (K:KS) (x:Sx) (Q:QT) (ks:List Kont) (σ:AH),okC T p c t ρ.length ks.length K x=true→WF ρ.length t→den P T R x ρ ks σ→
  (∀ax t' ρ' ks' x' σ',(∃pre,ks'=pre++ks)→K ax t' ρ'.length ks'.length x'=true→WF ρ'.length t'→den P T R x' ρ' ks' σ'→Q ax.up (t'.map (dv ρ')) σ')→(∀v a σ,apan v σ R→Q (.pan v) a σ)→
  swp P c Q (t.map (dv ρ)) σ:=by
 induction c with
 |skip=>intro R p t ρ K x Q ks σ h hw hd hK hP;exact QvH (hK .normal t ρ ks x σ ⟨[],rfl⟩ h hw hd)
 |ret=>intro R p t ρ K x Q ks σ h hw hd hK hP;exact QxE (hK .ret t ρ ks x σ ⟨[],rfl⟩ h hw hd)
 |exit id=>intro R p t ρ K x Q ks σ h hw hd hK hP;exact QvI (hK (.exit id) t ρ ks x σ ⟨[],rfl⟩ h hw hd)
 |region id ops draw=>
  intro R p t ρ K x Q ks σ h hw hd hK hP;refine QxR ?_ x t ρ σ h hw hd;clear h hw hd x t ρ σ;intro t ρ x σ h hw hd;have hKb:∀a σ,Goes P T R ks (fun t d x=>K .normal t d ks.length x) a σ→Q .normal a σ:=by
   rintro a σ ⟨ρ',t',x',g1,g2,rfl,g3⟩;exact hK .normal t' ρ' ks x' σ ⟨[],rfl⟩ g1 g2 g3
  cases draw with
  |false=>
   have hb:=Qrq (Kp:=fun v a σ=>Q (.pan v) a σ) hKb hP ops.toList 0 _ σ ⟨ρ,t,x,h,hw,rfl,hd⟩;intro r m n0 κ w a hr he hde;refine wpIn_region_list (QsK hT [] ops.toList 0 _ σ _ _ hb a.defers r m κ w a hr he rfl _ ?_ ?_)
   ·intro κ' t' σ' a' w' hk hs he' hd';exact ⟨κ',.normal,t',σ',hk,hs,he',hde.stp hr hs hd',trivial⟩
   ·intro κ' v u t' σ' a' w' hk hs hv he' hd';exact ⟨κ',.pan v,t',σ',hk,hs,he',hde.stp hr hs hd',u,rfl,hv⟩
  |true=>
   simp only[] at h;split at h
   case h_3=>cases h
   ·simp only[Bool.and_eq_true] at h;have hb:=Qg5 (Kp:=fun v σ=>∀a,Q (.pan v) a σ) hKb (fun v σ g a=>hP v a σ g) _ [] _ σ ⟨ρ,t,_,h.2,hw,rfl,hd⟩;intro r m n0 κ w a hr he hde;refine Qty hT h.1 hr he rfl ?_ ?_ hb
    ·intro κ' t' σ' a' w' hk hs he' hd';exact ⟨κ',.normal,t',σ',hk,hs,he',hde.stp hr hs hd',trivial⟩
    ·intro κ' v u t' σ' a' w' hk hs hv he' hd';exact ⟨κ',.pan v,t',σ',hk t',hs,he',hde.stp hr hs hd',u,rfl,hv⟩
   ·simp only[Bool.and_eq_true] at h;have hb1:=Qg5 (Kp:=fun v σ=>∀a,Q (.pan v) a σ) hKb (fun v σ g a=>hP v a σ g) _ [] _ σ ⟨ρ,t,_,h.1.2,hw,rfl,hd.1⟩;have hb2:=Qg5 (Kp:=fun v σ=>∀a,Q (.pan v) a σ) hKb (fun v σ g a=>hP v a σ g) _ [] _ σ ⟨ρ,t,_,h.2,hw,rfl,hd.2⟩;intro r m n0 κ w a hr he hde;refine QAy hT h.1.1 hr he rfl ?_ ?_ hb1 hb2
    ·intro κ' t' σ' a' w' hk hs he' hd';exact ⟨κ',.normal,t',σ',hk,hs,he',hde.stp hr hs hd',trivial⟩
    ·intro κ' v u t' σ' a' w' hk hs hv he' hd';exact ⟨κ',.pan v,t',σ',hk t',hs,he',hde.stp hr hs hd',u,rfl,hv⟩
 |seq a b iha ihb=>
  intro R p t ρ K x Q ks σ h hw hd hK hP;simp only[okC] at h;split at h
  ·rename_i ls r k hj;unfold isJn at hj;split at hj
   case h_2=>cases hj
   split at hj
   case h_2=>cases hj
   cases hj
   simp only[Bool.and_eq_true] at h;obtain ⟨h1,h2⟩:=h;simp only[den,jn] at hd;refine QsI (iha R (2*p) t ρ _ k _ (_::ks) σ h1 hw hd ?_ (fun v a σ g=>hP v a σ g));rintro ax t' ρ' ks' x' σ' ⟨pre,hpre⟩ g1 g2 g3;cases ax with
   |normal=>
    obtain ⟨l1,l2⟩:=Qo9 g1 hpre g3;simp only[QeA] at l2;have hb:=ihb R (2*p+1) (expS ls (Qak t)) (tupL ls (Qby (t'.map (dv ρ')) ls)) K r Q ks σ' (by rw[Ux];exact h2) (by rw[Ux];exact Qle ls _ (QfD _ t) (Nat.le_refl _)) l2 hK hP;have e:=Qik ls [] (Qby (t'.map (dv ρ')) ls) (Qak t);simp only[List.nil_append] at e;rw[e,Qd7] at hb;intro r m n0 κ w a hr he hde;refine hb r m n0 κ w a hr (Qg1 he ls _ (Qmu ?_)) hde;have:=he.size;simp only[List.length_map] at this ⊢;omega
   |exit id=>exact hK (.exit id) t' ρ' ks' x' σ' ⟨pre++[_],by rw[hpre,List.append_assoc];rfl⟩ g1 g2 g3
   |ret=>exact hK .ret t' ρ' ks' x' σ' ⟨pre++[_],by rw[hpre,List.append_assoc];rfl⟩ g1 g2 g3
  ·refine QsI (iha R (2*p) t ρ _ x _ ks σ h hw hd ?_ (fun v a σ g=>hP v a σ g));rintro ax t' ρ' ks' x' σ' ⟨pre,hpre⟩ g1 g2 g3;cases ax with
   |normal=>
    refine ihb R (2*p+1) t' ρ' K x' Q ks' σ' g1 g2 g3 ?_ hP;rintro ax t2 ρ2 ks2 x2 σ2 ⟨pre2,hpre2⟩ q1 q2 q3;exact hK ax t2 ρ2 ks2 x2 σ2 ⟨pre2++pre,by rw[hpre2,hpre,List.append_assoc]⟩ q1 q2 q3
   |exit id=>exact hK (.exit id) t' ρ' ks' x' σ' ⟨pre,hpre⟩ g1 g2 g3
   |ret=>exact hK .ret t' ρ' ks' x' σ' ⟨pre,hpre⟩ g1 g2 g3
 |cond c a b iha ihb=>
  intro R p t ρ K x Q ks σ h hw hd hK hP;refine QvJ ?_;rw[QN];simp only[okC] at h;split at h
  ·rename_i e;rw[e];exact iha R _ t ρ K x Q ks σ h hw hd hK hP
  ·rename_i e;rw[e];exact ihb R _ t ρ K x Q ks σ h hw hd hK hP
  ·split at h
   case h_2=>cases h
   simp only[Bool.and_eq_true,Bool.or_eq_true] at h;obtain ⟨⟨h1,h2⟩,h3⟩:=h;rw[←Qp h1];simp only[den] at hd;unfold apick at hd ⊢;split at hd
   case h_2=>exact hd.elim
   rename_i b' hb;cases b'
   ·rcases h3 with h3|h3
    ·unfold isNo at h3;split at h3
     ·exact hd.elim
     ·cases h3
    ·exact ihb R _ t ρ K _ Q ks σ h3 hw hd hK hP
   ·rcases h2 with h2|h2
    ·unfold isNo at h2;split at h2
     ·exact hd.elim
     ·cases h2
    ·exact iha R _ t ρ K _ Q ks σ h2 hw hd hK hP
 |block id body ih=>
  intro R p t ρ K x Q ks σ h hw hd hK hP;refine Qum (ih R (2*p) t ρ _ x _ ks σ h hw hd ?_ (fun v a σ g=>hP v a σ g));intro ax t' ρ' ks' x' σ' hpre g1 g2 g3;cases ax with
  |normal=>exact hK .normal t' ρ' ks' x' σ' hpre g1 g2 g3
  |ret=>exact hK .ret t' ρ' ks' x' σ' hpre g1 g2 g3
  |exit j=>
   simp only[onB] at g1;show inb id Q (.exit j) _ _;simp only[inb];split at g1
   ·rename_i e;rw[e];exact hK .normal t' ρ' ks' x' σ' hpre g1 g2 g3
   ·rename_i e;rw[e];exact hK (.exit j) t' ρ' ks' x' σ' hpre g1 g2 g3
 |loop body ih=>
  intro R p t ρ K x Q ks σ h hw hd hK hP;simp only[okC] at h;split at h
  case h_2=>cases h
  rename_i ls xb xs;simp only[Bool.and_eq_true] at h;obtain ⟨h1,h2⟩:=h;simp only[den] at hd;have hinit:lTup ls (xs.map (di ρ))=Qby (t.map (dv ρ)) ls:=by
   rw[QbZ h1,List.map_map,←QeA]
   congr 1
   exact List.map_congr_left fun i _=>(UA ρ t i).symm
  rw[hinit] at hd;refine QuC ls (QsJ (fun RR X σ hb=>?_) hd);have e:=Qik ls [] X (Qak t);simp only[List.nil_append] at e;have hlen:(Uu (t.map (dv ρ)))=Uu (t.map (dv (tupL ls X))):=by
   have:∀(u:List SV) (f g:SV→AV),Uu (u.map f)=Uu (u.map g):=by
    intro u f g
    induction u with
    |nil=>rfl
    |cons s u ihu=>simp only[List.map_cons,Uu,ihu]
   exact this _ _ _
  rw[hlen,←Qd7,←e];refine ih R (2*p) (expS ls (Qak t)) (tupL ls X) _ xb _ (_::ks) σ (by rw[Ux];exact h2) (by rw[Ux];exact Qle ls _ (QfD _ t) (Nat.le_refl _)) hb ?_ (fun v a σ g=>hP v a σ g);rintro ax t' ρ' ks' x' σ' ⟨pre,hpre⟩ g1 g2 g3;cases ax with
  |normal=>
   obtain ⟨l1,l2⟩:=Qo9 g1 hpre g3;simp only[QeA] at l2;show (match Qem _ _ with|true=>_|false=>False);rw[QnR (by simpa using l1)];exact l2
  |exit id=>exact hK (.exit id) t' ρ' ks' x' σ' ⟨pre++[_],by rw[hpre,List.append_assoc];rfl⟩ g1 g2 g3
  |ret=>exact hK .ret t' ρ' ks' x' σ' ⟨pre++[_],by rw[hpre,List.append_assoc];rfl⟩ g1 g2 g3
 |rangeFunc g ps as body iha ihb=>
  intro R p t ρ K x Q ks σ h hw hd hK hP;simp only[okC] at h;split at h
  case h_2=>cases h
  rename_i q s xb k hq;obtain rfl:ps=#[q]:=by rw[←Array.toList_inj,hq]
  simp only[Bool.and_eq_true] at h;obtain ⟨⟨h1,h2⟩,h3⟩:=h;simp only[den] at hd;rw[Qp h1,←QN] at hd;refine QuD (Qsq hd ?_) (fun σ' g=>hK .normal t ρ ks _ σ' ⟨[],rfl⟩ h3 hw g) (fun v σ' g=>hP v _ σ' g);intro x σ1 N hb;have e:(t.map (dv ρ)).set q x=(t.set q (.var ρ.length)).map (dv (x::ρ)):=by
   rw[List.map_set,QnJ]
   congr 1
   exact List.map_congr_left fun u hu=>(QcP x (hw u hu)).symm
  rw[e];have hw2:WF (x::ρ).length (t.set q (.var ρ.length)):=(hw.mono (Nat.le_succ _)).set q (Nat.lt_succ_self _);refine iha (fun _ _=>False) (2*p) _ (x::ρ) _ xb _ [fun _ σ=>N σ] σ1 h2 hw2 hb ?_ (fun v a σ g=>by obtain ⟨_,_,_,g⟩:=g;exact g);intro ax t' ρ' ks' x' σ' hpre g1 g2 g3;cases ax with
  |normal=>
   refine ihb (fun _ _=>False) (2*p+1) t' ρ' _ x' _ ks' σ' g1 g2 g3 ?_ (fun v a σ g=>by obtain ⟨_,_,_,g⟩:=g;exact g);intro ax t2 ρ2 ks2 x2 σ2 hpre2 q1 q2 q3;cases ax with
   |normal=>
    obtain ⟨pre,rfl⟩:=hpre;obtain ⟨pre2,rfl⟩:=hpre2;simp only[onN,Qxo] at q1;split at q1
    case h_2=>cases q1
    rename_i j xs;have hj:=Nat.eq_of_beq_eq_true q1;simp only[den] at q3;have:j=(pre2++pre).length:=by simp at hj ⊢;omega
    subst this;have e3:(pre2++(pre++[fun (_:List AV) σ=>N σ])).getD (pre2++pre).length (fun _ _=>False)=(fun _ σ=>N σ):=by
     rw[←List.append_assoc];simp[List.getD]
    rw[e3] at q3;exact q3
   |exit id=>cases q1
   |ret=>cases q1
  |exit id=>cases g1
  |ret=>cases g1
 |_=>intro R p t ρ K x Q ks σ h;simp[okC] at h
end
end
section
variable [Lam]
def Qq0 (T:Tab) (r:ResultVar) (t:List SV) (d:Nat) (x:Sx) (K:SV→Nat→Sx→Bool):Bool:=match r with
 | .tmp s=>K (t.getD s .any) d x
 | .cell s ty=>match symE T (.load ty (.tmp s)) (evS t),x with
  |some e,.og e' k=>eqE d e e'&&K (.var d) (d+1) k
  |_,_=>false
def QjW (T:Tab) (t:List SV):List ResultVar→List SV→Nat→Sx→Bool
 |[],acc,d,x=>match x with
  | .rets xs=>eqvs d acc xs
  |_=>false
 |r::rs,acc,d,x=>Qq0 T r t d x fun s d x=>QjW T t rs (acc++[s]) d x
def Qq1 (T:Tab) (rs:List ResultVar) (t:List SV) (d:Nat) (x:Sx):Bool:=match rs with
 |[r]=>Qq0 T r t d x fun s d x=>match x with
  | .ret v=>eqv d s v
  |_=>false
 |rs=>QjW T t rs [] d x
def QfE (k n:Nat):List SV:=(List.range k).map .var++List.replicate (n - k) .unit
def endK (T:Tab) (rs:List ResultVar):KS:=fun ax t d _ x=>match ax with
 | .normal=>Qq1 T rs t d x
 | .ret=>Qq1 T rs t d x
 | .exit _=>false
def okF (T:Tab) (fn:Func) (k:Nat) (x:Sx):Bool:=match fn.body with
 |some c=>okC T 1 c (QfE k fn.ntmps) k 0 (endK T fn.results.toList) x
 |none=>false
section
variable {P:Program} {T:Tab} {R:AEnd→AH→Prop} {ks:List Kont}
theorem Qrs {r:ResultVar} {t:List SV} {ρ:List AV} {x:Sx} {σ:AH} {K:SV→Nat→Sx→Bool} {k:AV→Prop} (h:Qq0 T r t ρ.length x K=true) (hw:WF ρ.length t) (hd:den P T R x ρ ks σ)
  (hk:∀s ρ' x',K s ρ'.length x'=true→(s.lt ρ'.length)→(∀u∈t,dv ρ' u=dv ρ u)→ρ.length≤ρ'.length→(∀u:SV,u.lt ρ.length→dv ρ' u=dv ρ u)→den P T R x' ρ' ks σ→k (dv ρ' s)):bone T (t.map (dv ρ)) σ k r:=by
 cases r with
 |tmp s=>
  simp only[bone,UA];exact hk _ ρ x h (hw.at s) (fun _ _=>rfl) (Nat.le_refl _) (fun _ _=>rfl) hd
 |cell s ty=>
  simp only[Qq0] at h;split at h
  case h_2=>cases h
  rename_i e e' k' he;simp only[Bool.and_eq_true] at h;simp only[den] at hd;have hb:Qla T ty ((t.map (dv ρ)).getD s .any) σ=bval T (.load ty (.tmp s)) (QB (t.map (dv ρ))) σ:=rfl;simp only[bone,hb];rw[←Qen he (dv ρ) (fun _=>rfl) (QN ρ t) σ,←Qez h.1];refine JR (fun _ h=>h) (fun v hv=>?_) hd;have:=hk (.var ρ.length) (v::ρ) _ h.2 (Nat.lt_succ_self _) (fun u hu=>QcP v (hw u hu)) (Nat.le_succ _) (fun u hu=>QcP v hu) hv;rw[QnJ] at this;exact this
theorem QuI {σ:AH} (rs:List ResultVar):∀{t:List SV} {acc:List SV} {ρ:List AV} {x:Sx} {k:List AV→Prop},QjW T t rs acc ρ.length x=true→WF ρ.length t→WF ρ.length acc→den P T R x ρ ks σ→
  (∀vs,aret (.tup (acc.map (dv ρ)++vs)) σ R→k vs)→QnI T (t.map (dv ρ)) σ rs k:=by
 induction rs with
 |nil=>
  intro t acc ρ x k h hw ha hd hk;simp only[QjW] at h;split at h
  case h_2=>cases h
  refine hk [] ?_;rw[List.append_nil,←QbZ h];exact hd
 |cons r rs ih=>
  intro t acc ρ x k h hw ha hd hk;simp only[QnI];simp only[QjW] at h;refine Qrs h hw hd ?_;intro s ρ' x' h' hs ht hl hu hd';have e:t.map (dv ρ)=t.map (dv ρ'):=List.map_congr_left fun u hu'=>(ht u hu').symm
  rw[e];refine ih h' (hw.mono hl) ?_ hd' ?_
  ·intro u hu';rcases List.mem_append.mp hu' with hu'|hu'
   ·exact SV.lt_mono (ha u hu') hl
   ·obtain rfl:=List.mem_singleton.mp hu';exact hs
  ·intro vs hr;refine hk _ ?_;have e2:acc.map (dv ρ')=acc.map (dv ρ):=List.map_congr_left fun u hu'=>hu u (ha u hu')
   rw[List.map_append,e2,List.map_cons,List.map_nil,List.append_assoc] at hr;exact hr
theorem Qil {rs:List ResultVar} {t:List SV} {ρ:List AV} {x:Sx} {σ:AH} (h:Qq1 T rs t ρ.length x=true) (hw:WF ρ.length t) (hd:den P T R x ρ ks σ):bres T rs (t.map (dv ρ)) σ fun v=>aret v σ R:=by
 unfold Qq1 at h;unfold bres;split at h
 ·refine Qrs h hw hd ?_;intro s ρ' x' h' hs ht hl hu hd';split at h'
  case h_2=>cases h'
  rw[←Qp h'];exact hd'
 ·rename_i hne;split
  ·exact absurd rfl (hne _)
  ·exact QuI _ h hw (fun _ h=>by cases h) hd (fun vs hr=>by simpa using hr)
theorem Qp5 (args:List AV) (n:Nat):(QfE args.length n).map (dv args.reverse)=pad n args:=by
 unfold QfE pad;rw[List.map_append,List.map_map,List.map_replicate]
 congr 1
 apply List.ext_getElem (by simp)
 intro i h1 h2;simp only[List.getElem_map,List.getElem_range,Function.comp,dv,List.length_reverse];simp at h1;simp[List.getD,List.getElem?_reverse (show args.length - 1 - i<args.length by omega),show args.length - 1 - (args.length - 1 - i)=i by omega,h2]
theorem QmC (k n:Nat):WF k (QfE k n):=by
 intro s hs;rcases List.mem_append.mp hs with hs|hs
 ·obtain ⟨i,hi,rfl⟩:=List.mem_map.mp hs;exact List.mem_range.mp hi
 ·obtain rfl:=List.eq_of_mem_replicate hs;trivial
theorem Stp.mark {κ0 κ:Kap} {σ0 σ:AH} {w0 w:World} {k:Nat} (hr0:Rel κ0 σ0 w0) (h:Stp κ0 σ0 w0 κ σ w) (hk:w0.heap.size≤k) (hm:w.heap[k]? =some (.deferred (some []))):Stp κ0 σ0 w0 κ σ (w.putObj k (.deferred none)):=by
 have hr:=h.rel;have other:∀b,b≠k→(w.putObj k (.deferred none)).heap[b]? =w.heap[b]? :=fun b hb=>World.putObj_heap_other hb
 have hsz:(w.putObj k (.deferred none)).heap.size=w.heap.size:=by simp[World.putObj]
 have cellne:∀b o v,w.cell? ⟨b,o,none⟩=some v→b≠k:=by
  rintro b o v hc rfl;unfold World.cell? at hc;rw[hm] at hc;cases hc
 have famne:∀φ F r,σ φ=some F→κ.ρ φ F.st=some r→r.b≠k:=by
  rintro φ F r hF hρ rfl;obtain ⟨r',g1,_,g3⟩:=hr.has φ F hF;rw[hρ] at g1;obtain rfl:=Option.some.inj g1;obtain ⟨c,e,fz,hh,_⟩:=g3.row;rw[hm] at hh;cases hh
 refine ⟨h.ext,⟨?_,hr.inj,?_,hr.off,hr.up,hr.fin,?_,hr.bw,?_,hr.kp⟩,⟨by rw[hsz];exact h.fra.size,?_,h.fra.ids⟩⟩
 ·intro φ F hF;obtain ⟨r,h1,h2,h3⟩:=hr.has φ F hF;exact ⟨r,h1,h2,h3.same (.refl κ) (other _ (famne φ F r hF h1))⟩
 ·intro b o v hM;have hc:=hr.mem b o v hM;rw[cell?_heap (other b (cellne b o v hc))];exact hc
 ·refine hr.bel.trans ⟨rfl,rfl,rfl,Nat.le_of_eq hsz.symm,fun b hb=>other b ?_⟩;have h1:=h.ext.B;have h2:=hr0.bsize;have:b<κ.B:=hb;omega
 ·intro l o hl;obtain ⟨h1,h2⟩:=hr.obj l o hl;have hlt:=(Array.getElem?_eq_some_iff.1 (hr0.obj l o hl).1).1;exact ⟨by rw[other l (by omega)];exact h1,h2⟩
 ·intro b hb hu;obtain ⟨c1,c2,c3⟩:=h.fra.blk b hb hu;exact ⟨by rw[other b (by omega)];exact c1,c2,c3⟩
theorem Qcl {P:Program} {fn:Func} {tmps:Array Value} {R':Ending→World→Prop} {u:FrameMode} (hu:u≠ .run) {κ κ':Kap} {σ σ':AH} {w:World} (hr0:Rel κ σ w) {D:List Deferred} (l:List Deferred):∀w',Stp κ σ w κ' σ' w'→
  (∀d,d∈l→∃k,d={target:= .collected k,args:=#[]}∧w.heap.size≤k∧w'.heap[k]? =some (.deferred (some [])))→l.Pairwise (·≠·)→
  (∀w2,Stp κ σ w κ' σ' w2→LeavesInM (FR none) 0 P fn tmps R' D u w2)→LeavesInM (FR none) 0 P fn tmps R' (l++D) u w':=by
 induction l with
 |nil=>intro w' h _ _ fin;exact fin w' h
 |cons d l ih=>
  intro w' h hm hp fin;obtain ⟨k,rfl,h2,h3⟩:=hm d List.mem_cons_self;obtain ⟨p1,p2⟩:=List.pairwise_cons.1 hp;refine ⟨hu,.inl ⟨k,_,rfl,run_takeDeferred h3,ih _ (h.mark hr0 h2 h3) ?_ p2 fin⟩⟩;intro d hd;obtain ⟨k',rfl,g2,g3⟩:=hm d (List.mem_cons_of_mem _ hd);refine ⟨k',rfl,g2,?_⟩;rw[World.putObj_heap_other];· exact g3
  rintro rfl;exact p1 _ hd rfl
theorem Qb (hT : TabOk P T) {f : FuncId} {fn : Func} {args ρ : List AV} {σ : AH} (hf : P.funcs[f]? = some fn) (hn : (fn.name == "runtime.NumGoroutine") = false) (x : Sx) (h : okF T fn ρ.length x = true) (hρ : args.reverse = ρ)
  (hd:den P T R x ρ [] σ):acall P f args σ R:=by
 subst hρ;unfold okF at h;split at h
 case h_2=>cases h
 rename_i c hb;have hl:args.reverse.length=args.length:=List.length_reverse;refine ⟨fn,hf,by rw[hb];rfl,hn,fun κ w vs hr hv=>?_⟩;refine (Qd3 (r:=none) (n:=0)).1 (callsIn_of_wp_marks (F:=FR none) (n:=0) hf hb trivial ?_ rfl);have he:EnvR κ (pad fn.ntmps args) (vs.toArray++Array.replicate (fn.ntmps - vs.toArray.size) undef):=by
  refine .ofList ?_;have:(vs.toArray++Array.replicate (fn.ntmps - vs.toArray.size) undef).toList=vs++List.replicate (fn.ntmps - args.length) undef:=by simp[hv.1]
  rw[this];refine hv.append ⟨by simp,fun i hi=>?_⟩;have hi':i<fn.ntmps - args.length:=by simpa using hi
  simp only[List.getD,List.getElem?_replicate,hi',if_true,Option.getD_some];exact QgW κ
 have hs:swp P c (bqq T fn.results.toList R) (pad fn.ntmps args) σ:=by
  rw[←Qp5];refine QAB hT c R 1 _ args.reverse _ x _ [] σ (by rw[hl] at h ⊢;exact h) (by rw[hl];exact QmC _ _) hd ?_ (fun v a σ g=>g);intro ax t' ρ' ks' x' σ' _ g1 g2 g3;cases ax with
  |normal=>exact Qil g1 g2 g3
  |ret=>exact Qil g1 g2 g3
  |exit id=>cases g1
 refine Code.wpIn_mono ?_ (hs none 0 (w.heap.size,[]) κ w _ hr he ⟨Nat.le_refl _,⟨[],rfl,(fun d hd=>by cases hd),.nil⟩,(fun l hl=>by cases hl)⟩);rintro e a w' ⟨κ',x,t',σ',h1,h2,h3,h4,h5⟩;obtain ⟨ms,m1,m2,m3⟩:=h4.mark;rw[List.append_nil] at m1;have fin:∀(hq:og (ares T fn.results.toList t' σ') fun v=>aret v σ' R),LeavesInM (FR none) 0 P fn a.tmps (fun e w'=>∃κ' ae σ',R ae σ'∧Stp κ σ w κ' σ' w'∧EdR κ' ae e) a.defers .returning w':=by
  intro hq;obtain ⟨v,hv1,v',σ'',hi,hR⟩:=Ud hq;rw[m1,←List.append_nil ms];refine Qcl (by simp) hr _ _ h2 m2 m3 fun w2 r2=>?_
  obtain ⟨u,g1,g2⟩:=QgI hT (w:=w2) r2.rel h3 hv1;obtain ⟨κ2,k1,k2⟩:=hi κ' w2 u r2.rel g2;exact ⟨u,g1,κ2,.ret v',σ'',hR,r2.trans k1,k2⟩
 cases e<;>cases x<;>try exact h5.elim
 ·exact fin (Qlb h1)
 ·exact h1.elim
 ·exact fin (Qlb h1)
 ·obtain ⟨u,rfl,hv⟩:=h5;obtain ⟨v',σ'',hi,hR⟩:=h1;show LeavesInM (FR none) 0 P fn a.tmps _ a.defers _ w';rw[m1,←List.append_nil ms];refine Qcl (by simp) hr _ _ h2 m2 m3 fun w2 r2=>?_
  obtain ⟨κ2,k1,k2⟩:=hi κ' w2 u r2.rel hv;exact ⟨κ2,.pan v',σ'',hR,r2.trans k1,u,rfl,k2⟩
end
end
end Go.Proofs.YtggnjjalfnhiiaaGreatDoor.E

import Derived.Test.YtggnjjalfnhiiaaGreatDoorPG1
import Derived.Laws.StructEq
import Derived.Lib.ConvBytes
import Derived.Tactics
import Derived.TacticsIn
/- The engine, part 10: operators, conversions and the like. -/
set_option linter.unusedSectionVars false
namespace Go.Proofs.YtggnjjalfnhiiaaGreatDoor.E
open Go Go.RowKit
section
variable [Lam]
def aeqF (T:Tab) (r:TypeId→AV→AV→Option Bool) (xs ys:List AV):List Field→Option Bool
 |[]=>some true
 |f::fs=>match apart T f.type xs f.offset,apart T f.type ys f.offset with
  |some a,some b=>match r f.type a b,aeqF T r xs ys fs with
   | some r, some q => if f.name ≠ "_" then some (r && q) else none
   |_,_=>none
  |_,_=>none
def aeq (T:Tab):Nat→TypeId→AV→AV→Option Bool
 |0,_,_,_=>none
 |d+1,t,x,y=>match T t with
  |some ti=>match ti.under,x,y with
   | .bool,.val (.bool a),.val (.bool b)=>some (a==b)
   | .int _,.val (.int k a),.val (.int k' b)=>if k=k' then some (a==b) else none
   | .string,.val (.string a),.val (.string b)=>some (a.toList==b.toList)
   | .struct fs,.agg xs,.agg ys=>match ti.cmp with
    |true=>aeqF T (aeq T d) xs ys fs.toList
    |false=>none
   |_,_,_=>none
  |none=>none
section
variable {P:Program} {T:Tab} (hT:TabOk P T)
include hT
theorem QvD {κ:Kap} (w:World) (D:Nat) (r:TypeId→AV→AV→Option Bool) (hrec:∀(t:TypeId) (x y:AV) (v u:Value) (b:Bool),VR κ x v→VR κ y u→r t x y=some b→(Op.equalIn D t v u).run P w= .ok b w)
  (xs ys:List AV) (vs us:Array Value) (hx:VRs κ xs vs.toList) (hy:VRs κ ys us.toList):∀(fs:List Field) (b:Bool),aeqF T r xs ys fs=some b→(Op.eqFields D vs us fs).run P w= .ok b w:=by
 intro fs
 induction fs with
 |nil=>intro b e;obtain rfl:=Option.some.inj e;rfl
 |cons f fs ih=>
  intro b e;simp only[aeqF] at e;split at e
  case h_2=>cases e
  rename_i a a' ha ha';split at e
  case h_2=>cases e
  rename_i r1 q hr hq;split at e
  case isFalse=>cases e
  rename_i hn;obtain rfl:=Option.some.inj e;obtain ⟨z,g1,g2⟩:=Qid hT (w:=w) hx ha;obtain ⟨z',g1',g2'⟩:=Qid hT (w:=w) hy ha';have e1:=hrec f.type a a' z z' r1 g2 g2' hr;have e2:=ih q hq;simp only[Op.eqFields,hn,ne_eq,not_false_eq_true,if_true,Sem.run_bind,g1,g1',Result.andThen_ok,e1];cases r1
  ·simp
  ·simpa using e2
theorem QxC {κ:Kap} (w:World) (d:Nat):∀(t:TypeId) (x y:AV) (v u:Value) (b:Bool) (D:Nat),d≤D→VR κ x v→VR κ y u→aeq T d t x y=some b→(Op.equalIn D t v u).run P w= .ok b w:=by
 induction d with
 |zero=>intro t x y v u b D _ _ _ e;cases e
 |succ d ih=>
  intro t x y v u b D hd hx hy e;obtain ⟨D,rfl⟩:∃D',D=D'+1:=⟨D - 1,by omega⟩;simp only[aeq] at e;split at e
  case h_2=>cases e
  rename_i ti ht;have hU:=hT.under t ti ht;split at e
  case h_5=>cases e
  ·rename_i a b' hu;rw[hu] at hU;cases hx;cases hy;obtain rfl:=Option.some.inj e;exact run_equalIn_bool' w D t a b' hU
  ·rename_i k0 k a k' b' hu;rw[hu] at hU;cases hx;cases hy;split at e
   case isFalse=>cases e
   rename_i hk;subst hk;obtain rfl:=Option.some.inj e;exact run_equalIn_int w D t k k0 a b' hU
  ·rename_i a b' hu;rw[hu] at hU;cases hx;cases hy;obtain rfl:=Option.some.inj e;exact run_equalIn_string w D t a b' hU
  ·rename_i fs xs ys hu;rw[hu] at hU;split at e
   case h_2=>cases e
   rename_i hc;have hc:=hT.cmp t ti ht hc;cases hx with
   |@agg _ vs hl h=>cases hy with
    |@agg _ us hl2 h2=>
     have hf:P.fieldsOf t=fs:=by simp[Program.fieldsOf,hU]
     rw[run_equalIn_struct w D t vs.toArray us.toArray (by rw[hf];exact hU) hc.1,hf];exact QvD hT w D (aeq T d) (fun t x y v u b a1 a2 a3=>ih t x y v u b D (by omega) a1 a2 a3) xs ys vs.toArray us.toArray (by exact ⟨by simpa using hl,by simpa using h⟩) (by exact ⟨by simpa using hl2,by simpa using h2⟩) fs.toList b e
omit hT in
def binV (op:BinOp):Value→Value→Option Value
 | .int k x,.int k' y=>if k=k' then match op with
  | .add=>some (.int k (k.wrap (x+y)))
  | .sub=>some (.int k (k.wrap (x - y)))
  | .mul=>some (.int k (k.wrap (x*y)))
  | .quo=>if y=0 then none else some (.int k (k.wrap (x.tdiv y)))
  | .rem=>if y=0 then none else some (.int k (x.tmod y))
  | .and=>some (.int k (k.wrap (BitVec.ofInt k.bits x&&& BitVec.ofInt k.bits y).toNat))
  | .eql=>some (.bool (x==y))
  | .neq=>some (.bool (x !=y))
  | .lss=>some (.bool (x<y))
  | .leq=>some (.bool (x≤y))
  | .gtr=>some (.bool (x>y))
  | .geq=>some (.bool (x≥y))
  |_=>none
  else none
 | .string a,.string b=>match op with
  | .add=>if a.size+b.size≤4611686018427387904 then some (.string (a++b)) else none
  | .eql=>some (.bool (a.toList==b.toList))
  | .neq=>some (.bool (!(a.toList==b.toList)))
  | .lss=>some (.bool (Op.bytesLess a.toList b.toList))
  |_=>none
 |_,_=>none
omit hT in
theorem Qre {w:World} {op:BinOp} {t:TypeId} {a b c:Value} (e:binV op a b=some c):(binOp op t a b).run P w= .ok c w:=by
 unfold binV at e;split at e
 case h_3=>cases e
 ·split at e
  case isFalse=>cases e
  rename_i hk;subst hk;split at e
  case h_13=>cases e
  case h_4=>
   split at e
   ·cases e
   ·rename_i h0;obtain rfl:=Option.some.inj e;simp[binOp,Op.intDiv,h0]
  case h_5=>
   split at e
   ·cases e
   ·rename_i h0;obtain rfl:=Option.some.inj e;simp[binOp,Op.intDiv,h0]
  case h_6=>obtain rfl:=Option.some.inj e;simp[binOp,Op.intBits]
  all_goals (obtain rfl:=Option.some.inj e;simp[binOp,Op.intArith,Op.intCmp])
 ·split at e
  case h_5=>cases e
  case h_1=>
   split at e
   case isFalse=>cases e
   rename_i a b _ h0;obtain rfl:=Option.some.inj e;have hm:IntKind.i64.max=9223372036854775807:=by decide
   have:¬(((a.size+b.size:Nat):Int)>IntKind.i64.max):=by rw[hm];omega
   simp only[binOp,Op.stringOp];rw[if_neg this];rfl
  all_goals (obtain rfl:=Option.some.inj e;simp[binOp,Op.stringOp])
end
end
section
variable [Lam]
def og (o:Option AV) (k:AV→Prop):Prop:=match o with|some v=>k v|none=>False
def apick (c:AV) (x y:Prop):Prop:=match c with
 | .val (.bool b)=>match b with|true=>x|false=>y
 |_=>False
def anil:AV→Option AV
 | .ptr φ st i off=>some (.ptr φ st i off)
 | .rop cs off=>some (.rop cs off)
 | .clo (.func f) a b=>some (.clo (.func f) a b)
 |_=>none
def aun (op:UnOp) (x:AV):Option AV:=match op,x with
 | .neg,.val (.int k n)=>some (.val (.int k (k.wrap (0 - n))))
 | .not,.val (.bool b)=>some (.val (.bool !b))
 |_,_=>none
def QCa:AV→Bool
 | .val (.slice none 0 0)| .val (.pointer none)| .val .nilFunc| .val .nilIface=>true
 |_=>false
def aeql (T:Tab) (t:TypeId) (x y:AV) (k:Bool→Prop):Prop:=
 match T t with
 |some ti=>match ti.under,x,y with
  | .slice _,.own _ _ _ _,.val (.slice none 0 0)=>k false
  | .slice _,.vw _ _ _ _,.val (.slice none 0 0)=>k false
  | .slice _,.ro es,.val (.slice none 0 0)=>∀b:Bool,(es≠[]→b=false)→k b
  | .slice _,.emp,.val (.slice none 0 0)=>∀b:Bool,k b
  | .slice _,.val (.slice none 0 0),.val (.slice none 0 0)=>k true
  | .pointer _,.ptr _ _ _ _,.val (.pointer none)=>k false
  | .pointer _,.rop _ _,.val (.pointer none)=>k false
  | .pointer _,.val (.pointer none),.val (.pointer none)=>k true
  | .func _ _ _,.clo _ _ _,.val .nilFunc=>k false
  | .func _ _ _,.val .nilFunc,.val .nilFunc=>k true
  | .bool,.val (.bool a),.val (.bool b)=>k (a==b)
  | .struct _,.agg xs,.agg ys=>match ti.cmp,aeq T 8 t (.agg xs) (.agg ys) with
   |true,some b=>k b
   |_,_=>False
  |_,_,_=>False
 |none=>False
def abin (T:Tab) (op:BinOp) (t:TypeId) (x y:AV) (k:AV→Prop):Prop:=
 match x,y with
 | .val (.int ka a),.val (.int kb b)=>og ((binV op (.int ka a) (.int kb b)).map .val) k
 | .val (.string a),.val (.string b)=>og ((binV op (.string a) (.string b)).map .val) k
 |x,y=>match op with
  | .eql=>aeql T t x y (fun b=>k (.val (.bool b)))
  | .neq=>aeql T t x y (fun b=>k (.val (.bool !b)))
  |_=>False
def amm (mx:Bool):AV→AV→Option AV
 | .val (.int k x),.val (.int _ y)=>some (.val (.int k (if mx then (if y>x then y else x) else (if y<x then y else x))))
 |_,_=>none
def amm3 (mx:Bool) (x y z:AV):Option AV:=match amm mx x y with
 |some v=>amm mx v z
 |none=>none
def Qde:List (List AV)→Option (List UInt8)
 |[]=>some []
 |[.val (.int .u8 n)]::r=>(Qde r).map (UInt8.ofNat n.toNat::·)
 |_=>none
def b8L (s:ByteArray):List (List AV):=s.data.toList.map fun b=>[.val (.int .u8 (b.toNat:Nat))]
def Qd4 (T:Tab) (src dst:TypeId) (x:AV) (σ:AH) (k:AV→AH→Prop):Prop:=
 match T src,T dst with
 |some ts,some td=>match ts.under,td.under,x with
  |_,.int kd,.val (.int _ n)=>k (.val (.int kd (kd.wrap n))) σ
  |_,.string,.val (.string s)=>k (.val (.string s)) σ
  | .slice e,.string,x=>match T e,QL σ x with
   |some te,some es=>match te.under,Qde es with
    | .int .u8,some bs=>te.size=1∧(∀s,x≠ .val (.string s))∧k (.val (.string ⟨bs.toArray⟩)) σ
    |_,_=>False
   |_,_=>False
  | .string,.slice e,.val (.string s)=>match T e with
   |some te=>match te.under with
    | .int .u8=>∀φ,σ φ=none→k (.own φ 0 0 s.size) (σ.set φ ⟨0,1,b8L s⟩)
    |_=>False
   |none=>False
  |_,_,_=>False
 |_,_=>False
section
variable {P:Program} {T:Tab} (hT:TabOk P T)
include hT
omit hT in
theorem Qrf {κ:Kap} {w:World} {ρ:Operand→Value} {o:Oper} {x:Operand} {a y:AV} (ho:o.op= .nilCheck x) (h:VR κ a (ρ x)) (e:anil a=some y):
  ∃u,(execOp ρ o).run P w= .ok (.value u) w∧VR κ y u:=by
 unfold anil at e;split at e<;>first|(cases e;done)|(obtain rfl:=Option.some.inj e)
 all_goals (refine ⟨ρ x,?_,h⟩;unfold execOp;rw[ho];dsimp only;generalize ρ x=v at h;cases h;rfl)
omit hT in
theorem Quk {κ:Kap} {w:World} {op:UnOp} {x y:AV} {v:Value} (h:VR κ x v) (e:aun op x=some y):∃u,(Op.unary op v).run P w= .ok u w∧VR κ y u:=by
 unfold aun at e;split at e<;>first|(cases e;done)|(obtain rfl:=Option.some.inj e)
 all_goals (cases h)
 ·exact ⟨_,by simp[Op.unary,Op.intArith],.val _⟩
 ·exact ⟨_,by simp[Op.unary],.val _⟩
omit hT in
def QsG:Value→Value→Bool
 | .slice _ _ _,.slice _ _ _=>true
 | .pointer none,.pointer none=>true
 | .pointer (some _),.pointer none=>true
 | .func _ _ _,.nilFunc=>true
 | .nilFunc,.nilFunc=>true
 | .bool _,.bool _=>true
 |_,_=>false
omit hT in
theorem Jd {w:World} {t:TypeId} {v u:Value} {b:Bool} (h:QsG v u=true) (e:∀d,(Op.equalIn (d+1) t v u).run P w= .ok b w):
  (binOp .eql t v u).run P w= .ok (.bool b) w∧(binOp .neq t v u).run P w= .ok (.bool !b) w∧∀op ox oy,(eqGuard op t ox oy v u).run P w= .ok () w:=by
 have e':(Op.equal t v u).run P w= .ok b w:=e 9999;unfold QsG at h;split at h<;>first|(cases h;done)|skip
 all_goals
  refine ⟨?_,?_,fun op ox oy=>by cases op<;>rfl⟩
  all_goals
   first
    |(show (do pure (.bool (←Op.equal t _ _)):Sem Value).run P w=_;rw[Sem.run_bind,e'];rfl)
    |(show (do pure (.bool (!(←Op.equal t _ _))):Sem Value).run P w=_;rw[Sem.run_bind,e'];rfl)
theorem QsH {κ:Kap} {w:World} {t:TypeId} {x y:AV} {v u:Value} {k:Bool→Prop} (hx:VR κ x v) (hy:VR κ y u) (e:aeql T t x y k):
  ∃b,k b∧(binOp .eql t v u).run P w= .ok (.bool b) w∧(binOp .neq t v u).run P w= .ok (.bool !b) w∧∀op ox oy,(eqGuard op t ox oy v u).run P w= .ok () w:=by
 unfold aeql at e;split at e
 case h_2=>exact e.elim
 rename_i ti ht;have hU:=hT.under t ti ht;split at e
 case h_13=>exact e.elim
 all_goals (rename_i hu;rw[hu] at hU)
 ·cases hx<;>cases hy<;>exact ⟨false,e,Jd rfl fun d=>by simp[Op.equalIn,Go.underlying,hU]⟩
 ·cases hx<;>cases hy<;>exact ⟨false,e,Jd rfl fun d=>by simp[Op.equalIn,Go.underlying,hU]⟩
 ·cases hy
  cases hx with
  |roEnd a=>
   cases a with
   |none=>exact ⟨true,e true (fun h=>absurd rfl h),Jd rfl fun d=>by simp[Op.equalIn,Go.underlying,hU]⟩
   |some a=>exact ⟨false,e false (fun _=>rfl),Jd rfl fun d=>by simp[Op.equalIn,Go.underlying,hU]⟩
  |ro _ _ _ _=>exact ⟨false,e false (fun _=>rfl),Jd rfl fun d=>by simp[Op.equalIn,Go.underlying,hU]⟩
 ·cases hy
  cases hx with
  |emp a=>
   cases a with
   |none=>exact ⟨true,e true,Jd rfl fun d=>by simp[Op.equalIn,Go.underlying,hU]⟩
   |some a=>exact ⟨false,e false,Jd rfl fun d=>by simp[Op.equalIn,Go.underlying,hU]⟩
 ·cases hx;cases hy;exact ⟨true,e,Jd rfl fun d=>by simp[Op.equalIn,Go.underlying,hU]⟩
 ·cases hx;cases hy;exact ⟨false,e,Jd rfl fun d=>by simp[Op.equalIn,Go.underlying,hU]⟩
 ·cases hx;cases hy;exact ⟨false,e,Jd rfl fun d=>by simp[Op.equalIn,Go.underlying,hU]⟩
 ·cases hx;cases hy;exact ⟨true,e,Jd rfl fun d=>by simp[Op.equalIn,Go.underlying,hU]⟩
 ·cases hx;cases hy;exact ⟨false,e,Jd rfl fun d=>by simp[Op.equalIn,Go.underlying,hU]⟩
 ·cases hx;cases hy;exact ⟨true,e,Jd rfl fun d=>by simp[Op.equalIn,Go.underlying,hU]⟩
 ·rename_i a b;cases hx;cases hy;exact ⟨a==b,e,Jd rfl fun d=>by simp[Op.equalIn,Go.underlying,hU]⟩
 ·rename_i xs ys;split at e
  case h_2=>exact e.elim
  rename_i b hc hb;have hc:=hT.cmp t ti ht hc;cases hx with
  |@agg _ vs hl h=>cases hy with
   |@agg _ us hl2 h2=>
    have hE:=QxC hT w 8 t (.agg xs) (.agg ys) (.agg vs.toArray) (.agg us.toArray) b 10000 (by omega) (.agg hl h) (.agg hl2 h2) hb;exact ⟨b,e,by rw[run_eql_struct,hE];rfl,by rw[run_neq_struct,hE];rfl,fun op ox oy=>run_eqGuard_agg w op t ox oy _ _ hc.2⟩
theorem QxD {κ:Kap} {w:World} {op:BinOp} {t:TypeId} {x y:AV} {v u:Value} {k:AV→Prop} (ox oy:Operand) (hx:VR κ x v) (hy:VR κ y u) (e:abin T op t x y k):
  ∃z a,k a∧(do eqGuard op t ox oy v u;binOp op t v u:Sem Value).run P w= .ok z w∧VR κ a z:=by
 have hg:∀(a b:Value),(∀cs,a≠ .agg cs)→a≠ .nilIface→(eqGuard op t ox oy a b).run P w= .ok () w:=by
  intro a b h1 h2;cases op<;>first|rfl|(cases a<;>first|rfl|exact absurd rfl (h1 _)|exact absurd rfl h2)
 unfold abin at e;split at e
 ·cases hx;cases hy
  unfold og at e;split at e
  case h_2=>exact e.elim
  rename_i v' hv';obtain ⟨c,hc,rfl⟩:=Option.map_eq_some_iff.mp hv';exact ⟨c,_,e,by rw[Sem.run_bind,hg _ _ (fun _ h=>by cases h) (fun h=>by cases h)];exact Qre hc,.val _⟩
 ·cases hx;cases hy
  unfold og at e;split at e
  case h_2=>exact e.elim
  rename_i v' hv';obtain ⟨c,hc,rfl⟩:=Option.map_eq_some_iff.mp hv';exact ⟨c,_,e,by rw[Sem.run_bind,hg _ _ (fun _ h=>by cases h) (fun h=>by cases h)];exact Qre hc,.val _⟩
 ·split at e
  case h_3=>exact e.elim
  ·obtain ⟨b,k1,e1,e2,e3⟩:=QsH (P:=P) hT (w:=w) hx hy e;exact ⟨_,_,k1,by rw[Sem.run_bind,e3];exact e1,.val _⟩
  ·obtain ⟨b,k1,e1,e2,e3⟩:=QsH (P:=P) hT (w:=w) hx hy e;exact ⟨_,_,k1,by rw[Sem.run_bind,e3];exact e2,.val _⟩
end
end
section
variable [Lam]
section
variable {P:Program} {T:Tab} (hT:TabOk P T)
include hT
omit hT in
theorem Qul {κ:Kap} (es:List (List AV)):∀(bs:List UInt8) (vs:List Value),Qde es=some bs→RowR κ 1 es vs→vs=es.map (fun c=>match c with|[.val v]=>v|_=>undef)∧es.length=bs.length∧
  (∀(acc:ByteArray),vs.foldl (fun (acc:Option ByteArray) v=>match acc,v with|some a,.int .u8 n=>some (a.push (UInt8.ofNat n.toNat))|_,_=>none) (some acc)=some ⟨acc.data++bs.toArray⟩):=by
 induction es with
 |nil=>
  intro bs vs e h;obtain rfl:=Option.some.inj e;have:vs=[]:=by have:=h.len;simpa using this
  subst this;exact ⟨rfl,rfl,fun acc=>by cases acc;simp⟩
 |cons c es ih=>
  intro bs vs e h;unfold Qde at e;split at e
  ·rename_i hh;cases hh
  ·rename_i n r hh;obtain ⟨rfl,rfl⟩:=List.cons.inj hh;obtain ⟨bs',hb,rfl⟩:=Option.map_eq_some_iff.mp e;have hl:=h.len;cases vs with
   |nil=>simp at hl
   |cons v vs=>
    have h0:=h.get 0 0 (by simp) (by simp);simp at h0;cases h0;have hr:RowR κ 1 es vs:=by
     refine ⟨by simpa using hl,fun i hi=>h.esz (i+1) (by simpa using hi),fun i j hi hj=>?_⟩;have:=h.get (i+1) j (by simpa using hi) hj;obtain rfl:j=0:=by omega
     simpa[Nat.add_mul] using this
    obtain ⟨a1,a2,a3⟩:=ih bs' vs hb hr;refine ⟨by rw[a1];rfl,by simp[a2],fun acc=>?_⟩;simp only[List.foldl_cons];rw[a3];cases acc;simp[ByteArray.push]
  ·cases e
omit hT in
theorem Qqz {w:World} (f:Value→ByteArray→Sem (ForInStep ByteArray)) (hf:∀n s,f (.int .u8 n) s=pure (.yield (s.push (UInt8.ofNat n.toNat)))) (vs:List Value):
  ∀(acc out:ByteArray),vs.foldl (fun (acc:Option ByteArray) v=>match acc,v with|some a,.int .u8 n=>some (a.push (UInt8.ofNat n.toNat))|_,_=>none) (some acc)=some out→
  (forIn vs acc f).run P w= .ok out w:=by
 induction vs with
 |nil=>intro acc out e;obtain rfl:=Option.some.inj e;rfl
 |cons v vs ih=>
  intro acc out e;simp only[List.foldl_cons] at e;have hnone:∀(l:List Value),l.foldl (fun (acc:Option ByteArray) v=>match acc,v with|some a,.int .u8 n=>some (a.push (UInt8.ofNat n.toNat))|_,_=>none) none=none:=by
   intro l;induction l with
   |nil=>rfl
   |cons a l ih=>simpa[List.foldl_cons] using ih
  split at e
  ·rename_i a n h1;obtain rfl:=Option.some.inj h1;have:=ih _ _ e;simp only[List.forIn_cons,hf,Sem.run_bind,Sem.run_pure,Result.andThen_ok];exact this
  ·rw[hnone] at e;cases e
omit hT in
theorem Stp.bytes {κ:Kap} {σ:AH} {w:World} (hr:Rel κ σ w) {φ:Nat} (h1:∀st,κ.ρ φ st=none) (e:TypeId) (s:ByteArray):
  Stp κ σ w (κ.put φ 0 ⟨w.heap.size,0,0,grownCap w s.size 0 e,1⟩) (σ.set φ ⟨0,1,b8L s⟩) (Lib.bytesWorld w e s):=by
 have hge:s.size≤grownCap w s.size 0 e:=by unfold grownCap Question.cut;simp only;omega
 have hl:(b8L s).length=s.size:=by unfold b8L;rw[List.length_map,Array.length_toList];rfl
 have hsz:(Lib.bytesCells w e s).size=grownCap w s.size 0 e:=by
  unfold Lib.bytesCells;rw[Array.size_append,Array.size_map,Array.size_replicate];show s.size+_=_;omega
 refine Stp.turn hr (F':=⟨0,1,b8L s⟩) (.inl (h1 0)) (fun t _=>h1 t) (.inr ⟨Nat.le_refl _,fun _=>h1⟩) (by rw[Lib.bytesWorld_size];omega) (fun b hb _=>Lib.bytesWorld_at_old w e s b hb) rfl rfl rfl ⟨rfl,?_,⟨_,e,_,Lib.bytesWorld_at_new w e s,?_⟩,?_,?_,?_⟩
 ·simp only[hl];omega
 ·rw[hsz];simp
 ·intro o ho;have ho:o<0+grownCap w s.size 0 e*1:=ho;simp only[World.frozen?,Lib.bytesWorld_at_new,hsz];simp;omega
 ·intro i _ hi;have hi:i<(b8L s).length:=hi;have hi2:i<s.data.toList.length:=by rw[Array.length_toList];rw[hl] at hi;exact hi
  have hb:(b8L s)[i]? =some [.val (.int .u8 ((s.data.toList[i]'hi2).toNat:Nat))]:=by unfold b8L;rw[List.getElem?_map,List.getElem?_eq_getElem hi2];rfl
  show ((b8L s).getD i []).length=1;rw[List.getD_eq_getElem?_getD,hb];rfl
 ·intro i j _ hi hj;have hi:i<(b8L s).length:=hi;have hj:j<1:=hj;obtain rfl:j=0:=by omega
  have hi':i<s.size:=by omega
  refine ⟨.int .u8 ((s.data.toList.getD i 0).toNat:Nat),?_,?_⟩
  ·show (Lib.bytesWorld w e s).cell? ⟨w.heap.size,0+(i - 0)*1+0,none⟩=_;rw[show 0+(i - 0)*1+0=i by omega];exact Lib.bytesWorld_cell w e s i hi'
  have hi2:i<s.data.toList.length:=by rw[Array.length_toList];exact hi'
  have hb:(b8L s)[i]? =some [.val (.int .u8 ((s.data.toList[i]'hi2).toNat:Nat))]:=by unfold b8L;rw[List.getElem?_map,List.getElem?_eq_getElem hi2];rfl
  have e1:((b8L s).getD i []).getD 0 .any= .val (.int .u8 ((s.data.toList.getD i 0).toNat:Nat)):=by
   have hb2:(b8L s).getD i []=[.val (.int .u8 ((s.data.toList[i]'hi2).toNat:Nat))]:=by rw[List.getD_eq_getElem?_getD,hb];rfl
   have hb3:s.data.toList.getD i 0=s.data.toList[i]'hi2:=by rw[List.getD_eq_getElem?_getD,List.getElem?_eq_getElem hi2];rfl
   rw[hb2,hb3];rfl
  show VR _ (((b8L s).getD i []).getD 0 .any) _;rw[e1];exact .val _
theorem QvE {κ:Kap} {σ:AH} {w:World} (hr:Rel κ σ w) {src dst:TypeId} {x:AV} {v:Value} {k:AV→AH→Prop} (h:VR κ x v) (e:Qd4 T src dst x σ k):
  ∃u w' κ' σ' y,(convert src dst v).run P w= .ok u w'∧k y σ'∧Stp κ σ w κ' σ' w'∧VR κ' y u:=by
 unfold Qd4 at e;split at e
 case h_2=>exact e.elim
 rename_i ts td hs hd;have hUs:=fun w=>Qt (P:=P) hT w hs
 have hUd:=fun w=>Qt (P:=P) hT w hd
 split at e
 case h_5=>exact e.elim
 case h_4=>
  rename_i el s hu1 hu2;rw[hu1] at hUs;rw[hu2] at hUd;cases h;split at e
  case h_2=>exact e.elim
  rename_i te hte;split at e
  case h_2=>exact e.elim
  rename_i htu;have hUe:=fun w=>Qt (P:=P) hT w hte
  rw[htu] at hUe;obtain ⟨φ,h0,h1⟩:=hr.newId;have hge:s.size≤grownCap w s.size 0 el:=by unfold grownCap Question.cut;simp only;omega
  refine ⟨.slice (some ⟨w.heap.size,0,none⟩) s.size (grownCap w s.size 0 el),_,_,_,_,?_,e φ h0,Stp.bytes hr h1 el s,?_⟩
  ·have hsh:∀c:Array Value,(w.drew.alloc (.cells c el)).shape? w.heap.size=some (el,c.size):=by
    intro c;simp[World.shape?,World.alloc,World.drew, -World.alloc_eq, -World.drew_eq]
   simp[convert,hUs,hUd,hUe,Conv.stringToBytes,newRow,markStringish,Question.forced,Lib.bytesWorld,Lib.bytesCells,grownCap,hsh,Result.andThen]
  ·have h3:=VR.own (κ:=κ.put φ 0 ⟨w.heap.size,0,0,grownCap w s.size 0 el,1⟩) (off:=0) (n:=s.size) (Kap.put_same κ φ 0 ⟨w.heap.size,0,0,grownCap w s.size 0 el,1⟩) (Nat.le_refl _) (by simpa using hge);simpa using h3
 ·rename_i kd k0 n hu;rw[hu] at hUd;cases h;refine ⟨.int kd (kd.wrap n),w,κ,σ,_,?_,e,.refl hr,.val _⟩;simp only[convert,Sem.run_bind,hUs,hUd,Result.andThen_ok];cases ts.under<;>rfl
 ·rename_i s hu;rw[hu] at hUd;cases h;refine ⟨.string s,w,κ,σ,_,?_,e,.refl hr,.val _⟩;simp only[convert,Sem.run_bind,hUs,hUd,Result.andThen_ok];cases ts.under<;>rfl
 ·rename_i el hu1 hu2 _;rw[hu1] at hUs;rw[hu2] at hUd;split at e
  case h_2=>exact e.elim
  rename_i te es hte hes;split at e
  case h_2=>exact e.elim
  rename_i bs htu hbs;obtain ⟨h1,hns,hk⟩:=e;have hUe:=fun w=>Qt (P:=P) hT w hte
  rw[htu] at hUe;have hall:∀c,c∈es→c.length=1:=by
   clear hes hns hk;intro c hc
   induction es generalizing bs with
   |nil=>cases hc
   |cons c' es ih=>
    unfold Qde at hbs;split at hbs
    ·rename_i hh;cases hh
    ·rename_i n r hh;obtain ⟨rfl,rfl⟩:=List.cons.inj hh;obtain ⟨bs',hb,rfl⟩:=Option.map_eq_some_iff.mp hbs;rcases List.mem_cons.mp hc with rfl|hc
     ·rfl
     ·exact ih bs' hb hc
    ·cases hbs
  obtain ⟨_,new,rn,fn⟩:=Ut (P:=P) hr h hes hall;obtain ⟨_,a2,a3⟩:=Qul es bs new hbs rn;have hfold:=a3 ByteArray.empty;refine ⟨.string ⟨bs.toArray⟩,w,κ,σ,_,?_,hk,.refl hr,.val _⟩;have hcells:=fn w (fun _ _ _ h=>h);rw[a2] at hcells;cases v with
  |slice a n c=>
   cases a with
   |none=>
    have hb0:bs=[]:=by
     have hh:new=[]:=by
      have:=hcells;simp[Builtin.firstCells] at this;exact this
     rw[hh] at hfold;simp at hfold;have:(ByteArray.empty).data++bs.toArray=ByteArray.empty.data:=by
      have:=congrArg ByteArray.data (hfold.symm);simpa using this
     simpa using this
    subst hb0;simp only[convert,Sem.run_bind,hUs,hUd,Result.andThen_ok,hUe,Conv.bytesToString,Sem.run_pure];rfl
   |some a=>
    have hlen:n=bs.length:=by
     cases h with
     |ro _ _ _ _=>obtain rfl:=Option.some.inj hes;exact a2
     |roEnd _=>obtain rfl:=Option.some.inj hes;rw[←a2];rfl
     |own hρ hlo hn=>
      simp only[QL] at hes;split at hes
      case h_2=>cases hes
      split at hes
      case isFalse=>cases hes
      rename_i hc;obtain rfl:=Option.some.inj hes;rw[←a2];simp;omega
     |vw hρ hlo hn=>
      simp only[QL] at hes;split at hes
      case h_2=>cases hes
      split at hes
      case isFalse=>cases hes
      rename_i hc;obtain rfl:=Option.some.inj hes;rw[←a2];simp;omega
     |ownEnd _ _=>
      simp only[QL] at hes;split at hes
      case h_2=>cases hes
      split at hes
      case isFalse=>cases hes
      obtain rfl:=Option.some.inj hes;rw[←a2];simp
     |emp _=>obtain rfl:=Option.some.inj hes;rw[←a2];rfl
     |val _=>simp[QL] at hes
     |any _=>cases hes
    subst hlen;have hlc:(loadCells a bs.length).run P w= .ok new.toArray w:=by
     have:=hcells;simpa[Builtin.firstCells] using this
    simp only[convert,Sem.run_bind,hUs,hUd,Result.andThen_ok,hUe,Conv.bytesToString,hlc];rw[←Array.forIn_toList];rw[Qqz (P:=P) (w:=w) _ (fun _ _=>rfl) new ByteArray.empty ⟨bs.toArray⟩ (by rw[hfold];simp)];rfl
  |string s=>
   cases h with
   |val _=>exact absurd rfl (hns s)
   |any _=>cases hes
  |_=>cases h<;>simp[QL] at hes
end
end
section
variable [Lam]
def ayield (P:Program) (l:Nat) (args:List AV) (σ:AH) (K:AEnd→AH→Prop):Prop:=
 ∀m κ w vs,Rel κ σ w→VRs κ args vs→YieldAt (FR none) m P l vs.toArray w fun e w'=>∃κ' ae σ',K ae σ'∧Stp κ σ w κ' σ' w'∧EdR κ' ae e
theorem ayield.mono {P:Program} {l:Nat} {args:List AV} {σ:AH} {K K':AEnd→AH→Prop} (h:ayield P l args σ K) (k:∀e σ',K e σ'→K' e σ'):ayield P l args σ K':=by
 intro m κ w vs hr hv;obtain ⟨fn,tmps,assign,body,hy,hR⟩:=h m κ w vs hr hv;exact ⟨fn,tmps,assign,body,hy,hR.mono fun e w' ⟨κ',ae,σ',a,b,c⟩=>⟨κ',ae,σ',k _ _ a,b,c⟩⟩
def Uo (P:Program) (f:AV) (args:List AV) (σ:AH) (K:AEnd→AH→Prop):Prop:=
 match f with
 | .clo (.func f) first cap=>acall P f (first++(args++cap)) σ K
 | .yld l=>ayield P l args σ K
 |_=>False
def aext (x:AV) (i:Nat):Option AV:=match x with| .tup vs=>vs[i]? |_=>none
def aifc (T:Tab) (t:TypeId) (x:AV):Option AV:=match T t with
 |some ti=>match ti.under with| .interface _=>none|_=>some (.ifc t x)
 |none=>none
def Qtu (T:Tab) (x:AV) (at_:TypeId) (ok:Bool):Option AV:=match T at_ with
 |some ti=>match ti.under,x with
  | .interface _,_=>none
  |_,.ifc t v=>if t=at_ then some (if ok then .tup [v,.val (.bool true)] else v) else if ok then some (.tup [ofV ti.zero,.val (.bool false)]) else none
  |_,.val .nilIface=>if ok then some (.tup [ofV ti.zero,.val (.bool false)]) else none
  |_,_=>none
 |none=>none
def QnB (x:AV) (k:AV→Prop):Prop:=match x with| .ifc t v=>k (.ifc t v)|_=>False
def aop (P:Program) (T:Tab) (o:Op) (ev:Operand→AV) (σ:AH) (K:AEnd→AH→Prop):Prop:=
 match o with
 | .move x| .assign x=>K (.ret (ev x)) σ
 | .pick c a b=>apick (ev c) (K (.ret (ev a)) σ) (K (.ret (ev b)) σ)
 | .alloc t=>Qnx T t σ fun v σ'=>K (.ret v) σ'
 | .box _ x=>abox (ev x) σ fun v σ'=>K (.ret v) σ'
 | .build t ps=>og (QgT T t (ps.toList.map fun p=>(p.1,ev p.2))) fun v=>K (.ret v) σ
 | .buildSlice t n ps=>Qc2 T t n (ps.toList.map fun p=>(p.1,ev p.2)) σ fun v σ'=>K (.ret v) σ'
 | .load t a=>og (Qcc T t (ev a) σ) fun v=>K (.ret v) σ
 | .store t a x=>QjQ T t (ev a) (ev x) σ fun σ'=>K (.ret .any) σ'
 | .nilCheck x=>og (anil (ev x)) fun v=>K (.ret v) σ
 | .binOp op t x y _=>abin T op t (ev x) (ev y) fun v=>K (.ret v) σ
 | .unOp op _ x=>og (aun op (ev x)) fun v=>K (.ret v) σ
 | .convert s d x=>Qd4 T s d (ev x) σ fun v σ'=>K (.ret v) σ'
 | .makeInterface t x=>og (aifc T t (ev x)) fun v=>K (.ret v) σ
 | .makeFunc fn fs cs=>K (.ret (.clo fn (fs.toList.map ev) (cs.toList.map ev))) σ
 | .makeSlice t l c=>Qc3 T t (ev l) (ev c) σ fun v σ'=>K (.ret v) σ'
 | .slice t x lo hi mx=>og (Qaz T t (ev x) (lo.map ev) (hi.map ev) (mx.map ev) σ) fun v=>K (.ret v) σ
 | .fieldAddr t x f=>og (Qcd T t (ev x) f) fun v=>K (.ret v) σ
 | .field t x f=>og (Qeu T t (ev x) f) fun v=>K (.ret v) σ
 | .indexAddr t x i=>og (Us T t (ev x) (ev i) σ) fun v=>K (.ret v) σ
 | .index t x i=>og (QgS T t (ev x) (ev i)) fun v=>K (.ret v) σ
 | .typeAssert x _ t ok=>og (Qtu T (ev x) t ok) fun v=>K (.ret v) σ
 | .extract x i=>og (aext (ev x) i) fun v=>K (.ret v) σ
 | .panic x=>QnB (ev x) fun v=>K (.pan v) σ
 | .call c=>match c.callee with
  | .value f=>Uo P (ev f) (c.args.toList.map ev) σ K
  | .builtin b=>match b,c.args.toList with
   | .len,[x]=>match c.argTypes[0]? with
    |some t=>og (alen T t (ev x)) fun v=>K (.ret v) σ
    |none=>False
   | .append,[s,x]=>QgU T c.argTypes (ev s) (ev x) σ fun v σ'=>K (.ret v) σ'
   | .max,[x,y]=>og (amm true (ev x) (ev y)) fun v=>K (.ret v) σ
   | .max,[x,y,z]=>og (amm3 true (ev x) (ev y) (ev z)) fun v=>K (.ret v) σ
   | .min,[x,y]=>og (amm false (ev x) (ev y)) fun v=>K (.ret v) σ
   |_,_=>False
  | .invoke _ _=>False
 |_=>False
theorem Ud {o:Option AV} {k:AV→Prop} (h:og o k):∃v,o=some v∧k v:=by
 unfold og at h;split at h
 ·exact ⟨_,rfl,h⟩
 ·exact h.elim
theorem VRs.map {κ:Kap} {t:List AV} {a:Act} (h:EnvR κ t a.tmps) (xs:List Operand):VRs κ (xs.map (QB t)) (xs.map a.eval):=by
 refine ⟨by simp,fun i hi=>?_⟩;have hi':i<xs.length:=by simpa using hi
 simp only[List.getD,List.getElem?_map,List.getElem?_eq_getElem hi',Option.map_some,Option.getD_some];exact h.eval _
theorem optR {κ:Kap} {t:List AV} {a:Act} (h:EnvR κ t a.tmps) (x:Option Operand):
  (x.map (QB t)=none∧x.map a.eval=none)∨∃b u,x.map (QB t)=some b∧x.map a.eval=some u∧VR κ b u:=by
 cases x with
 |none=>exact .inl ⟨rfl,rfl⟩
 |some x=>exact .inr ⟨_,_,rfl,rfl,h.eval x⟩
section
variable {P:Program} {T:Tab} (hT:TabOk P T)
include hT
omit hT in
theorem Jq {s:Sem Value} {w w':World} {u:Value} (h:s.run P w= .ok u w'):(do pure (.value (←s)):Sem Next).run P w= .ok (.value u) w':=by
 rw[Sem.run_bind,h];rfl
omit hT in
theorem QvF {s:Sem Unit} {w w':World} (h:s.run P w= .ok () w'):(do s;pure .skip:Sem Next).run P w= .ok .skip w':=by
 rw[Sem.run_bind,h];rfl
omit hT in
theorem Up {o:Oper} {t:List AV} {σ:AH} {K:AEnd→AH→Prop} {x:Option AV} (h:og x fun v=>K (.ret v) σ)
  (hr:∀v,x=some v→∀κ w (a:Act),Rel κ σ w→EnvR κ t a.tmps→∃u,(execOp a.eval o).run P w= .ok (.value u) w∧VR κ v u):sop P o t σ K:=by
 obtain ⟨v,hv,hk⟩:=Ud h;exact QbT (hr v hv) hk
omit hT in
theorem QvG {o:Oper} {c:Call} {f:Operand} {t:List AV} {σ:AH} {K:AEnd→AH→Prop} (ho:o.op= .call c) (hc:c.callee= .value f) (h:Uo P (QB t f) (c.args.toList.map (QB t)) σ K):sop P o t σ K:=by
 have fin:∀{κ:Kap} {σ:AH} {w:World} {next:Act→World→Prop} {Qx:Exit→Act→World→Prop} {a:Act} {e:Ending} {w':World} {K:AEnd→AH→Prop},(∀κ' x v σ' w',K (.ret x) σ'→Stp κ σ w κ' σ' w'→VR κ' x v→next (a.put o.dst v) w')→
   (∀κ' x v σ' w',K (.pan x) σ'→Stp κ σ w κ' σ' w'→VR κ' x v→Qx (.panic [{v:=v,recovered:=false}]) a w')→
   (∃κ' ae σ',K ae σ'∧Stp κ σ w κ' σ' w'∧EdR κ' ae e)→(match e,w' with| .returned v,w''=>next (a.put o.dst v) w''| .panicked chain,w''=>Qx (.panic chain) a w''| .outgrown,_=>LetsOut Qx):=by
  rintro κ σ w next Qx a e w' K k1 k2 ⟨κ',ae,σ',hQ,hs,hE⟩
  cases e with
  |returned v=>cases ae with
   |ret x=>exact k1 κ' x v σ' w' hQ hs hE
   |pan x=>exact hE.elim
  |panicked ch=>cases ae with
   |ret x=>exact hE.elim
   |pan x=>obtain ⟨v,rfl,hv⟩:=hE;exact k2 κ' x v σ' w' hQ hs hv
  |outgrown=>cases ae<;>exact hE.elim
 unfold Uo at h;split at h
 case h_3=>exact h.elim
 case h_2=>
  rename_i l hf;intro r m κ w a hr he next Qx k1 k2
  have hv:=he.eval f;rw[hf] at hv;generalize hav:a.eval f=fv at hv;cases hv with
  |yld _=>
   obtain ⟨fn,tmps,assign,body,hy,hR⟩:=h (m - 1) κ w _ hr (VRs.map he c.args.toList);have hrun:(execOp a.eval o).run P w= .ok (.round l fn tmps assign body) w:=by
    unfold execOp;rw[ho];have e1:(c.args.toList.map a.eval).toArray=c.args.map a.eval:=by apply Array.ext';simp
    rw[e1] at hy;simp only[resolve,hc,hav,Deferred.ofValue,invoke,Sem.run_bind,Sem.run_pure,Result.andThen_ok,Array.empty_append];exact hy
   refine ⟨fun _ _=>trivial,?_⟩;rw[Qes r hrun (fun d h=>by cases h),Oper.uponIn_round];refine ⟨(fun h=>by cases h),hR.mono fun e w' h=>?_⟩;have:=fin k1 k2 h;cases e<;>exact this
 rename_i fid first cap hf
 obtain ⟨fn,h1,h2,h3,h4⟩:=h;intro r m κ w a hr he next Qx k1 k2
 have hv:=he.eval f;rw[hf] at hv;generalize hav:a.eval f=fv at hv;cases hv with
 |@clo _ _ _ fs cs hl hl2 g1 g2=>
  have hargs:VRs κ (first++(c.args.toList.map (QB t)++cap)) (fs++(c.args.toList.map a.eval++cs)):=VRs.append ⟨hl,g1⟩ (VRs.append (VRs.map he _) ⟨hl2,g2⟩);have hcall:=h4 κ w _ hr hargs;have hrun:(execOp a.eval o).run P w= .ok (.enter fid (fs++(c.args.toList.map a.eval++cs)).toArray) w:=by
   have e1:(fs++(c.args.toList.map a.eval++cs)).toArray=fs.toArray++c.args.map a.eval++cs.toArray:=by
    apply Array.ext';simp
   unfold execOp;rw[ho];simp only[resolve,hc,hav,Deferred.ofValue,invoke,callFunc,Sem.run_bind,Sem.run_pure,Result.andThen_ok,run_program,h1,h3,h2,Bool.false_eq_true,if_false];rw[e1]
  refine ⟨fun _ _=>trivial,?_⟩;rw[Qes r hrun (fun d h=>by cases h),Oper.uponIn_enter];refine ⟨(fun h=>by cases h),Qd3.2 (hcall.mono fun e w' h=>?_)⟩;have:=fin k1 k2 h;cases e<;>exact this
theorem QaS {o:Oper} {t:List AV} {σ:AH} {K:AEnd→AH→Prop} (h:aop P T o.op (QB t) σ K):sop P o t σ K:=by
 unfold aop at h;split at h
 ·rename_i x ho;exact QbT (fun κ w a hr he=>⟨_,by unfold execOp;rw[ho];rfl,he.eval x⟩) h
 ·rename_i x ho;exact QbT (fun κ w a hr he=>⟨_,by unfold execOp;rw[ho];rfl,he.eval x⟩) h
 ·rename_i c x y ho;unfold apick at h;split at h
  case h_2=>exact h.elim
  rename_i b hb;cases b with
  |true=>
   refine QbT (fun κ w a hr he=>⟨_,?_,he.eval x⟩) h;have:=he.eval c;rw[hb] at this;generalize hc:a.eval c=cv at this;cases this;unfold execOp;rw[ho];simp[hc,asBool]
  |false=>
   refine QbT (fun κ w a hr he=>⟨_,?_,he.eval y⟩) h;have:=he.eval c;rw[hb] at this;generalize hc:a.eval c=cv at this;cases this;unfold execOp;rw[ho];simp[hc,asBool]
 ·rename_i e ho;unfold Qnx at h;split at h
  case h_2=>exact h.elim
  rename_i ti ht;refine QbI fun κ w a hr he=>?_
  obtain ⟨u,w',κ',σ',y,g1,g2,g3,g4⟩:=Qny (P:=P) hr e (VR.ofV κ ti.zero) h;refine ⟨u,w',κ',σ',y,?_,g2,g3,g4⟩;unfold execOp;rw[ho];refine Jq ?_;simp only[Instr.alloc,Sem.run_bind,UE hT w ht,Result.andThen_ok];exact g1
 ·rename_i e x ho;refine QbI fun κ w a hr he=>?_
  obtain ⟨u,w',κ',σ',y,g1,g2,g3,g4⟩:=Qny (P:=P) hr e (he.eval x) h;exact ⟨u,w',κ',σ',y,by unfold execOp;rw[ho];exact Jq g1,g2,g3,g4⟩
 ·rename_i e ps ho;refine Up h fun v hv κ w a hr he=>?_
  obtain ⟨u,g1,g2⟩:=Qug hT (w:=w) (qs:=ps.map fun (i,x)=>(i,a.eval x)) (by have:=PR.map he ps.toList;simpa using this) hv;exact ⟨u,by unfold execOp;rw[ho];exact Jq g1,g2⟩
 ·rename_i e n ps ho;refine QbI fun κ w a hr he=>?_
  obtain ⟨u,w',κ',σ',y,g1,g2,g3,g4⟩:=Qo3 hT (w:=w) hr (qs:=ps.map fun (i,x)=>(i,a.eval x)) (by have:=PR.map he ps.toList;simpa using this) h;exact ⟨u,w',κ',σ',y,by unfold execOp;rw[ho];exact Jq g1,g2,g3,g4⟩
 ·rename_i e x ho;refine Up h fun v hv κ w a hr he=>?_
  obtain ⟨b,o',g0,u,g1,g2⟩:=Ql5 hT (w:=w) hr (he.eval x) hv;refine ⟨u,?_,g2⟩;unfold execOp;rw[ho];refine Jq ?_;simp only[Instr.loadAt,g0,Instr.sureAddr,Sem.run_bind,Sem.run_pure,Result.andThen_ok];exact g1
 ·rename_i e x y ho;refine QvB fun κ w a hr he=>?_
  obtain ⟨b,o',g0,w',σ',g1,g2,g3⟩:=Qq9 hT (w:=w) hr (he.eval x) (he.eval y) h;refine ⟨w',κ,σ',?_,g3,g2⟩;unfold execOp;rw[ho];refine QvF ?_;simp only[Instr.storeAt,g0,Instr.sureAddr,Sem.run_bind,Sem.run_pure,Result.andThen_ok];exact g1
 ·rename_i x ho;exact Up h fun v hv κ w a hr he=>Qrf ho (he.eval x) hv
 ·rename_i op e x y e2 ho;refine QbI fun κ w a hr he=>?_
  obtain ⟨z,av,g1,g2,g3⟩:=QxD hT (w:=w) x y (he.eval x) (he.eval y) h;exact ⟨z,w,κ,σ,av,by unfold execOp;rw[ho];exact Jq g2,g1,.refl hr,g3⟩
 ·rename_i op e x ho;refine Up h fun v hv κ w a hr he=>?_
  obtain ⟨u,g1,g2⟩:=Quk (P:=P) (w:=w) (he.eval x) hv;exact ⟨u,by unfold execOp;rw[ho];exact Jq g1,g2⟩
 ·rename_i s d x ho;refine QbI fun κ w a hr he=>?_
  obtain ⟨u,w',κ',σ',y,g1,g2,g3,g4⟩:=QvE hT (w:=w) hr (he.eval x) h;exact ⟨u,w',κ',σ',y,by unfold execOp;rw[ho];exact Jq g1,g2,g3,g4⟩
 ·rename_i e x ho;refine Up h fun v hv κ w a hr he=>?_
  unfold aifc at hv;split at hv
  case h_2=>cases hv
  rename_i ti ht;have hU:=Qt hT w ht;split at hv
  ·cases hv
  rename_i hni;obtain rfl:=Option.some.inj hv;refine ⟨.iface e (a.eval x),?_,.ifc (he.eval x)⟩;unfold execOp;rw[ho];refine Jq ?_;simp only[Instr.makeInterface,Sem.run_bind,hU,Result.andThen_ok];cases hh:ti.under<;>first|rfl|exact absurd hh (hni _)
 ·rename_i fn fs cs ho;refine QbT (fun κ w a hr he=>⟨.func fn (fs.map a.eval) (cs.map a.eval),by unfold execOp;rw[ho];rfl,?_⟩) h;have h1:=VRs.map he fs.toList;have h2:=VRs.map he cs.toList;have:=VR.clo (fn:=fn) h1.1 h2.1 h1.2 h2.2;have e1:∀(l:Array Operand),(l.toList.map a.eval).toArray=l.map a.eval:=fun l=>by apply Array.ext';simp
  rw[e1,e1] at this;exact this
 ·rename_i e l c ho;refine QbI fun κ w a hr he=>?_
  obtain ⟨u,w',κ',σ',y,g1,g2,g3,g4⟩:=QvC hT (w:=w) hr (he.eval l) (he.eval c) h;exact ⟨u,w',κ',σ',y,by unfold execOp;rw[ho];exact Jq g1,g2,g3,g4⟩
 ·rename_i e x lo hi mx ho;refine Up h fun v hv κ w a hr he=>?_
  obtain ⟨u,g1,g2⟩:=Que hT (w:=w) hr (he.eval x) (optR he lo) (optR he hi) (optR he mx) hv;exact ⟨u,by unfold execOp;rw[ho];exact Jq g1,g2⟩
 ·rename_i e x f ho;refine Up h fun v hv κ w a hr he=>?_
  obtain ⟨u,g1,g2⟩:=Qsl hT (w:=w) (he.eval x) hv;exact ⟨u,by unfold execOp;rw[ho];exact Jq g1,g2⟩
 ·rename_i e x f ho;refine Up h fun v hv κ w a hr he=>?_
  obtain ⟨u,g1,g2⟩:=Quc hT (w:=w) (he.eval x) hv;exact ⟨u,by unfold execOp;rw[ho];exact Jq g1,g2⟩
 ·rename_i e x i ho;refine Up h fun v hv κ w a hr he=>?_
  obtain ⟨u,g1,g2⟩:=Qsm hT (w:=w) hr (he.eval x) (he.eval i) hv;exact ⟨u,by unfold execOp;rw[ho];exact Jq g1,g2⟩
 ·rename_i e x i ho;refine Up h fun v hv κ w a hr he=>?_
  obtain ⟨u,g1,g2⟩:=Qud hT (w:=w) (he.eval x) (he.eval i) hv;exact ⟨u,by unfold execOp;rw[ho];exact Jq g1,g2⟩
 ·rename_i x xt e ok ho;refine Up h fun v hv κ w a hr he=>?_
  unfold Qtu at hv;split at hv
  case h_2=>cases hv
  rename_i ti ht;have hU:=Qt hT w ht;have hZ:=UE hT w ht;have hz:=VR.ofV κ ti.zero;have htwo:∀(x:AV) (u:Value) (b:Bool),VR κ x u→VR κ (.tup [x,.val (.bool b)]) (.tuple #[u,.bool b]):=by
   intro x u b hx;have hh:=VRs.cons hx (VRs.one (VR.val (κ:=κ) (.bool b)));exact .tup hh.1 hh.2
  have hx:=he.eval x;generalize QB t x=ax at hx hv;generalize hx2:a.eval x=vx at hx;split at hv
  ·cases hv
  ·rename_i t' v' hni;cases hx with
   |@ifc _ _ u hu=>
    by_cases c:t'=e
    ·rw[if_pos c] at hv;obtain rfl:=Option.some.inj hv;refine ⟨if ok then .tuple #[u,.bool true] else u,?_,by cases ok;exact hu;exact htwo _ _ _ hu⟩;unfold execOp;rw[ho];refine Jq ?_;rw[hx2];simp only[Instr.typeAssert,Sem.run_bind,hU,Result.andThen_ok];cases hh:ti.under<;>first|(exact absurd hh (hni _))|simp[c]
    ·rw[if_neg c] at hv;split at hv
     case isFalse=>cases hv
     rename_i hok;obtain rfl:=Option.some.inj hv;refine ⟨.tuple #[ti.zero,.bool false],?_,htwo _ _ _ hz⟩;unfold execOp;rw[ho];refine Jq ?_;rw[hx2];simp only[Instr.typeAssert,Sem.run_bind,hU,Result.andThen_ok];cases hh:ti.under<;>first|(exact absurd hh (hni _))|simp[c,hok,hZ]
  ·rename_i hni;cases hx;split at hv
   case isFalse=>cases hv
   rename_i hok;obtain rfl:=Option.some.inj hv;refine ⟨.tuple #[ti.zero,.bool false],?_,htwo _ _ _ hz⟩;unfold execOp;rw[ho];refine Jq ?_;rw[hx2];simp only[Instr.typeAssert,Sem.run_bind,hU,Result.andThen_ok];cases hh:ti.under<;>first|(exact absurd hh (hni _))|simp[hok,hZ]
  ·cases hv
 ·rename_i x i ho;refine Up h fun v hv κ w a hr he=>?_
  have:=he.eval x;generalize hx:QB t x=ax at this hv;generalize hx2:a.eval x=vx at this;cases this<;>first|(cases hv;done)|skip
  rename_i cs vs hl g;have hi:i<cs.length:=by
   rcases Nat.lt_or_ge i cs.length with c|c
   ·exact c
   ·simp[aext,List.getElem?_eq_none c] at hv
  have hv':cs[i]? =some v:=hv;refine ⟨vs.getD i undef,?_,?_⟩
  ·unfold execOp;rw[ho];refine Jq ?_;rw[hx2];simp[Instr.extract,List.getD,show i<vs.length by omega]
  ·have:=g i hi;simpa[List.getD,hv'] using this
 ·rename_i x ho;unfold QnB at h;split at h
  case h_2=>exact h.elim
  rename_i e v hx;intro r m κ w a hr he next Qx k1 k2
  have hv:=he.eval x;rw[hx] at hv;generalize hx2:a.eval x=vx at hv;refine ⟨fun _ _=>trivial,?_⟩;rw[Oper.semAt_eq r _ _ (fun c e=>by rw[ho] at e;cases e)];cases hv with
  |@ifc _ _ u hu=>
   have:(execOp a.eval o).run P w= .halt (.panic (.iface e u)) w:=by
    unfold execOp;rw[ho];simp[Instr.panic,hx2]
   rw[this,Oper.uponIn_panic];exact k2 κ _ _ σ w h (.refl hr) (.ifc hu)
 ·rename_i c ho;split at h
  ·rename_i f hc;exact QvG ho hc h
  ·rename_i b hc;split at h
   ·rename_i x hargs;split at h
    case h_2=>exact h.elim
    rename_i ty hty;refine Up h fun v hv κ w a hr he=>?_
    obtain ⟨u,g1,g2⟩:=QxB hT (w:=w) (ts:=c.argTypes) (rt:=o.type) hty (he.eval x) hv;refine ⟨u,?_,g2⟩;have e1:c.args=#[x]:=by apply Array.ext';rw[hargs]
    unfold execOp;rw[ho];simp only[resolve,hc,invoke,Sem.run_bind,Sem.run_pure,Result.andThen_ok,builtin,e1,List.map_toArray,List.map_cons,List.map_nil,g1]
   ·rename_i s x hargs;refine QbI fun κ w a hr he=>?_
    obtain ⟨u,w',κ',σ',y,g1,g2,g3,g4⟩:=Qtt hT (w:=w) (rt:=o.type) hr (he.eval s) (he.eval x) h;refine ⟨u,w',κ',σ',y,?_,g2,g3,g4⟩;have e1:c.args=#[s,x]:=by apply Array.ext';rw[hargs]
    unfold execOp;rw[ho];simp only[resolve,hc,invoke,Sem.run_bind,Sem.run_pure,Result.andThen_ok,builtin,e1,List.map_toArray,List.map_cons,List.map_nil,g1]
   ·rename_i x y hargs;refine Up h fun v hv κ w a hr he=>?_
    have hx:=he.eval x;have hy:=he.eval y;generalize QB t x=ax at hx hv;generalize QB t y=ay at hy hv;generalize hx2:a.eval x=vx at hx;generalize hy2:a.eval y=vy at hy;unfold amm at hv;split at hv
    case h_2=>cases hv
    obtain rfl:=Option.some.inj hv;cases hx;cases hy;refine ⟨_,?_,.val _⟩;have e1:c.args=#[x,y]:=by apply Array.ext';rw[hargs]
    unfold execOp;rw[ho];simp only[resolve,hc,invoke,Sem.run_bind,Sem.run_pure,Result.andThen_ok,builtin,e1,List.map_toArray,List.map_cons,List.map_nil,hx2,hy2];simp[Builtin.max_,Builtin.max2]
   ·rename_i x y z hargs;refine Up h fun v hv κ w a hr he=>?_
    have hx:=he.eval x;have hy:=he.eval y;have hz:=he.eval z;generalize QB t x=ax at hx hv;generalize QB t y=ay at hy hv;generalize QB t z=az at hz hv;generalize hx2:a.eval x=vx at hx;generalize hy2:a.eval y=vy at hy;generalize hz2:a.eval z=vz at hz;unfold amm3 at hv;split at hv
    case h_2=>cases hv
    rename_i v1 hv1;unfold amm at hv1;split at hv1
    case h_2=>cases hv1
    obtain rfl:=Option.some.inj hv1;unfold amm at hv;split at hv
    case h_2=>cases hv
    rename_i e0;cases e0;obtain rfl:=Option.some.inj hv;cases hx;cases hy;cases hz;refine ⟨_,?_,.val _⟩;have e1:c.args=#[x,y,z]:=by apply Array.ext';rw[hargs]
    unfold execOp;rw[ho];simp only[resolve,hc,invoke,Sem.run_bind,Sem.run_pure,Result.andThen_ok,builtin,e1,List.map_toArray,List.map_cons,List.map_nil,hx2,hy2,hz2];simp[Builtin.max_,Builtin.max2]
   ·rename_i x y hargs;refine Up h fun v hv κ w a hr he=>?_
    have hx:=he.eval x;have hy:=he.eval y;generalize QB t x=ax at hx hv;generalize QB t y=ay at hy hv;generalize hx2:a.eval x=vx at hx;generalize hy2:a.eval y=vy at hy;unfold amm at hv;split at hv
    case h_2=>cases hv
    obtain rfl:=Option.some.inj hv;cases hx;cases hy;refine ⟨_,?_,.val _⟩;have e1:c.args=#[x,y]:=by apply Array.ext';rw[hargs]
    unfold execOp;rw[ho];simp only[resolve,hc,invoke,Sem.run_bind,Sem.run_pure,Result.andThen_ok,builtin,e1,List.map_toArray,List.map_cons,List.map_nil,hx2,hy2];simp[Builtin.min_,Builtin.min2]
   ·exact h.elim
  ·exact h.elim
 ·exact h.elim
end
end
section
variable [Lam]
inductive AX where
 |normal
 |exit (id:Nat)
 |ret
 |pan (v:AV)
def ExR (κ:Kap):AX→Exit→Prop
 | .normal,.normal=>True
 | .exit i,.exit j=>i=j
 | .ret,.ret=>True
 | .pan a,.panic ch=>∃v,ch=[{v:=v,recovered:=false}]∧VR κ a v
 |_,_=>False
abbrev QT:=AX→List AV→AH→Prop
structure DF (r:Option Nat) (n0:Nat × List Deferred) (a:Act) (w:World):Prop where
 le:n0.1≤w.heap.size
 mark:∃ms,a.defers=ms++n0.2∧(∀d,d∈ms→∃k,d={target:= .collected k,args:=#[]}∧n0.1≤k∧w.heap[k]? =some (.deferred (some [])))∧ms.Pairwise (·≠·)
 ro:∀l,r=some l→∃c,w.heap[l]? =some (.loop c)
theorem DF.stp {r:Option Nat} {n0:Nat × List Deferred} {a a':Act} {κ κ':Kap} {σ σ':AH} {w w':World} (h:DF r n0 a w) (hr:Rel κ σ w) (hs:Stp κ σ w κ' σ' w') (e:a'.defers=a.defers):DF r n0 a' w':=by
 obtain ⟨ms,m1,m2,m3⟩:=h.mark;refine ⟨Nat.le_trans h.le hs.fra.size,⟨ms,e.trans m1,fun d hd=>?_,m3⟩,fun l hl=>?_⟩
 rotate_left
 ·obtain ⟨c,hc⟩:=h.ro l hl;refine ⟨c,?_⟩;have hlt:=(Array.getElem?_eq_some_iff.1 hc).1;rw[(hs.fra.blk l hlt ?_).1];· exact hc
  rintro φ F r hF hρ rfl;obtain ⟨r',g1,_,g3⟩:=hr.has φ F hF;rw[hρ] at g1;obtain rfl:=Option.some.inj g1;obtain ⟨c,e,fz,hh,_⟩:=g3.row;rw[hc] at hh;cases hh
 obtain ⟨k,h1,h2,h3⟩:=m2 d hd;refine ⟨k,h1,h2,?_⟩;have hlt:=(Array.getElem?_eq_some_iff.1 h3).1;rw[(hs.fra.blk k hlt ?_).1];· exact h3
 rintro φ F r hF hρ rfl;obtain ⟨r',g1,_,g3⟩:=hr.has φ F hF;rw[hρ] at g1;obtain rfl:=Option.some.inj g1;obtain ⟨c,e,fz,hh,_⟩:=g3.row;rw[h3] at hh;cases hh
def PostR (κ:Kap) (σ:AH) (w:World) (r:Option Nat) (n0:Nat × List Deferred) (Q:QT):Exit→Act→World→Prop:=fun e a w'=>
 ∃κ' x t' σ',Q x t' σ'∧Stp κ σ w κ' σ' w'∧EnvR κ' t' a.tmps∧DF r n0 a w'∧ExR κ' x e
theorem PostR.mono {r:Option Nat} {n0:Nat × List Deferred} {κ κ':Kap} {σ σ':AH} {w w':World} {Q Q':QT} (hs:Stp κ σ w κ' σ' w') (hq:∀x t s,Q x t s→Q' x t s) {e:Exit} {a:Act} {w'':World} (h:PostR κ' σ' w' r n0 Q e a w''):PostR κ σ w r n0 Q' e a w'':=by
 obtain ⟨κ2,x,t',σ2,h1,h2,h3,h4,h5⟩:=h;exact ⟨κ2,x,t',σ2,hq _ _ _ h1,hs.trans h2,h3,h4,h5⟩
def swp (P:Program) (c:Code) (Q:QT) (t:List AV) (σ:AH):Prop:=
 ∀r m n0 κ w (a:Act),Rel κ σ w→EnvR κ t a.tmps→DF r n0 a w→c.wpIn (FR r) m P (PostR κ σ w r n0 Q) a w
def thn (n:List AV→AH→Prop) (Q:QT):QT:=fun x t σ=>match x with
 | .normal=>n t σ
 |x=>Q x t σ
def inb (id:Nat) (Q:QT):QT:=fun x t σ=>match x with
 | .exit j=>match Nat.beq j id with|true=>Q .normal t σ|false=>Q (.exit j) t σ
 |x=>Q x t σ
def lp {X:Type} (F:(X→AH→Prop)→X→AH→Prop) (x:X) (σ:AH):Prop:=
 ∃(I:X→AH→Prop) (μ:X→AH→Nat),I x σ∧∀x σ,I x σ→F (fun x' σ'=>∃σ'',AH.Sub σ'' σ'∧I x' σ''∧μ x' σ''<μ x σ) x σ
section rules
variable {P:Program} {Q:QT} {t:List AV} {σ:AH}
theorem swp.mono {c:Code} {Q':QT} (h:swp P c Q t σ) (hq:∀x t s,Q x t s→Q' x t s):swp P c Q' t σ:=
 fun r m n0 κ w a hr he hd=>Code.wpIn_mono (fun _ _ _ hp=>PostR.mono (.refl hr) hq hp) (h r m n0 κ w a hr he hd)
theorem QvH (h:Q .normal t σ):swp P .skip Q t σ:=
 fun _ _ _ κ _ _ hr he hd=>wpIn_skip ⟨κ,.normal,t,σ,h,.refl hr,he,hd,trivial⟩
theorem QxE (h:Q .ret t σ):swp P .ret Q t σ:=
 fun _ _ _ κ _ _ hr he hd=>wpIn_ret ⟨κ,.ret,t,σ,h,.refl hr,he,hd,trivial⟩
theorem QvI {id:Nat} (h:Q (.exit id) t σ):swp P (.exit id) Q t σ:=
 fun _ _ _ κ _ _ hr he hd=>wpIn_exit ⟨κ,.exit id,t,σ,h,.refl hr,he,hd,rfl⟩
theorem QsI {x y:Code} (h:swp P x (thn (fun t σ=>swp P y Q t σ) Q) t σ):swp P (.seq x y) Q t σ:=by
 intro r m n0 κ w a hr he hd;refine wpIn_seq (Code.wpIn_mono ?_ (h r m n0 κ w a hr he hd));rintro e a' w' ⟨κ',z,t',σ',h1,h2,h3,h4,h5⟩;cases e<;>cases z<;>try exact h5.elim
 ·exact Code.wpIn_mono (fun _ _ _ hp=>PostR.mono h2 (fun _ _ _ h=>h) hp) (h1 r m n0 κ' w' a' h2.rel h3 h4)
 all_goals exact ⟨κ',_,t',σ',h1,h2,h3,h4,h5⟩
theorem QvJ {c:Operand} {x y:Code} (h:apick (QB t c) (swp P x Q t σ) (swp P y Q t σ)):swp P (.cond c x y) Q t σ:=by
 intro r m n0 κ w a hr he hd;unfold apick at h;split at h
 case h_2=>exact h.elim
 rename_i b hb;have hv:=he.eval c;rw[hb] at hv;generalize hc:a.eval c=cv at hv;cases hv;refine wpIn_cond hc ?_;cases b
 ·exact h r m n0 κ w a hr he hd
 ·exact h r m n0 κ w a hr he hd
theorem Qum {id:Nat} {c:Code} (h:swp P c (inb id Q) t σ):swp P (.block id c) Q t σ:=by
 intro r m n0 κ w a hr he hd;refine wpIn_block (Code.wpIn_mono ?_ (h r m n0 κ w a hr he hd));rintro e a' w' ⟨κ',z,t',σ',h1,h2,h3,h4,h5⟩;cases e<;>cases z<;>try exact h5.elim
 ·exact ⟨κ',_,t',σ',h1,h2,h3,h4,h5⟩
 ·rename_i i j;obtain rfl:j=i:=h5;by_cases c:j=id
  ·have hb:Nat.beq j id=true:=by rw[c];exact Nat.beq_refl id
   simp only[Exit.inBlock,c,if_true];simp only[inb,hb] at h1;exact ⟨κ',.normal,t',σ',h1,h2,h3,h4,trivial⟩
  ·have hb:Nat.beq j id=false:=by
    cases hh:Nat.beq j id with
    |false=>rfl
    |true=>exact absurd (Nat.eq_of_beq_eq_true hh) c
   simp only[Exit.inBlock,c,if_false];simp only[inb,hb] at h1;exact ⟨κ',.exit j,t',σ',h1,h2,h3,h4,rfl⟩
 all_goals exact ⟨κ',_,t',σ',h1,h2,h3,h4,h5⟩
theorem Qie {S:Nat→Prop} (h:∃n,S n):∃m,S m∧∀k,S k→m≤k:=by
 obtain ⟨n,hn⟩:=h
 induction n using Nat.strongRecOn with
 |_ n ih=>
  by_cases c:∃k,k<n∧S k
  ·obtain ⟨k,hk,hs⟩:=c;exact ih k hk hs
  ·refine ⟨n,hn,fun k hs=>?_⟩;rcases Nat.lt_or_ge k n with h|h
   ·exact absurd ⟨k,h,hs⟩ c
   ·exact h
open Classical in
noncomputable def QfA (S:Nat→Prop):Nat:=if h:∃n,S n then Classical.choose (Qie h) else 0
theorem QpX {S:Nat→Prop} (h:∃n,S n):S (QfA S):=by
 unfold QfA;rw[dif_pos h];exact (Classical.choose_spec (Qie h)).1
theorem Qrg {S:Nat→Prop} {n:Nat} (h:S n):QfA S≤n:=by
 unfold QfA;rw[dif_pos ⟨n,h⟩];exact (Classical.choose_spec (Qie ⟨n,h⟩)).2 n h
end rules
def onr (k:AV→AH→Prop) (p:AV→AH→Prop):AEnd→AH→Prop:=fun e σ=>match e with
 | .ret v=>k v σ
 | .pan v=>p v σ
def Qcf (ops:Array Oper) (j:Nat):Option Nat:=(ops[j]?).bind (·.dst)
theorem Q9 {t:List AV} {s:Nat} {x:AV} (h:t.getD s .any=x):t.set s x=t:=by
 apply List.ext_getElem?
 intro i;rw[List.getElem?_set];split
 ·rename_i e;subst e;split
  ·rename_i hl;rw[←h];simp[List.getD,hl]
  ·rename_i hl;rw[List.getElem?_eq_none (by omega)]
 ·rfl
theorem QgW (κ:Kap):VR κ (.tup []) undef:=by
 have:VR κ (.tup []) (.tuple ([]:List Value).toArray):= .tup rfl (fun i hi=>absurd hi (Nat.not_lt_zero i));exact this
end
section
variable [Lam]
def lk {α:Type} (p:Nat):List (Nat × α)→Option α
 |[]=>none
 |(q,m)::r=>match Nat.beq q p with|true=>some m|false=>lk p r
def Qrh:Nat→List AV→List AV
 |_,[]=>[]
 |m,v::t=>(match Nat.beq (m % 2) 1 with|true=>v|false=> .any)::Qrh (m / 2) t
theorem Qun {κ:Kap}:∀(t:List AV) (m:Nat) (vs:List Value),VRs κ t vs→VRs κ (Qrh m t) vs:=by
 intro t
 induction t with
 |nil=>intro m vs h;exact h
 |cons v t ih=>
  intro m vs h;obtain ⟨u,us,rfl,h1,h2⟩:=h.uncons;refine VRs.cons ?_ (ih _ _ h2);split
  ·exact h1
  ·exact .any _
theorem EnvR.toList {κ:Kap} {t:List AV} {a:Array Value} (h:EnvR κ t a):VRs κ t a.toList:=
 ⟨by rw[h.size];simp,fun i hi=>by have:=h.get i hi;simpa[List.getD,Array.getD_eq_getD_getElem?] using this⟩
theorem EnvR.ofList {κ:Kap} {t:List AV} {a:Array Value} (h:VRs κ t a.toList):EnvR κ t a:=
 ⟨by rw[h.1];simp,fun i hi=>by have:=h.2 i hi;simpa[List.getD,Array.getD_eq_getD_getElem?] using this⟩
theorem QsJ {X:Type} {F F':(X→AH→Prop)→X→AH→Prop} (h:∀R x σ,F R x σ→F' R x σ) {x:X} {σ:AH} (k:lp F x σ):lp F' x σ:=by
 obtain ⟨I,μ,hI,hr⟩:=k;exact ⟨I,μ,hI,fun x σ hi=>h _ _ _ (hr x σ hi)⟩
theorem QvK {n n':List AV→AH→Prop} {Q Q':QT} (h:∀t σ,n t σ→n' t σ) (k:∀x t σ,Q x t σ→Q' x t σ):∀x t σ,thn n Q x t σ→thn n' Q' x t σ:=by
 intro x t σ hx;cases x<;>first|exact h _ _ hx|exact k _ _ _ hx
def Imp (v:AV) (σ:AH) (v':AV) (σ':AH):Prop:=∀κ w u,Rel κ σ w→VR κ v u→∃κ',Stp κ σ w κ' σ' w∧VR κ' v' u
def aret (v:AV) (σ:AH) (R:AEnd→AH→Prop):Prop:=∃v' σ',Imp v σ v' σ'∧R (.ret v') σ'
def apan (v:AV) (σ:AH) (R:AEnd→AH→Prop):Prop:=∃v' σ',Imp v σ v' σ'∧R (.pan v') σ'
theorem Imp.sub {v:AV} {σ σ':AH} (h:AH.Sub σ' σ):Imp v σ v σ':=fun κ _ _ hr hv=>⟨κ,Stp.sub hr h,hv⟩
theorem Uk {v:AV} {σ σ':AH} {R:AEnd→AH→Prop} (h:AH.Sub σ' σ) (k:R (.ret v) σ'):aret v σ R:=⟨v,σ',.sub h,k⟩
theorem QcO {v:AV} {σ σ':AH} {R:AEnd→AH→Prop} (h:AH.Sub σ' σ) (k:R (.pan v) σ'):apan v σ R:=⟨v,σ',.sub h,k⟩
def aone (T:Tab) (t:List AV) (σ:AH):ResultVar→Option AV
 | .tmp s=>some (t.getD s .any)
 | .cell s ty=>Qcc T ty (t.getD s .any) σ
def Qbx (T:Tab) (t:List AV) (σ:AH):List ResultVar→Option (List AV)
 |[]=>some []
 |r::rs=>match aone T t σ r,Qbx T t σ rs with
  |some v,some vs=>some (v::vs)
  |_,_=>none
def ares (T:Tab) (rs:List ResultVar) (t:List AV) (σ:AH):Option AV:=
 match rs with
 |[r]=>aone T t σ r
 |rs=>(Qbx T t σ rs).map .tup
section
variable {P:Program} {T:Tab} (hT:TabOk P T)
include hT
theorem QxF {κ:Kap} {σ:AH} {w:World} (hr:Rel κ σ w) {t:List AV} {a:Array Value} (he:EnvR κ t a) {r:ResultVar} {v:AV} (h:aone T t σ r=some v):
  ∃u,((match r with| .tmp t=>pure (a.getD t undef)| .cell x t=>do loadVar t (←asAddr (a.getD x undef))):Sem Value).run P w= .ok u w∧VR κ v u:=by
 cases r with
 |tmp s=>obtain rfl:=Option.some.inj h;exact ⟨_,rfl,he.at s⟩
 |cell s ty=>
  obtain ⟨b,o,g0,u,g1,g2⟩:=Ql5 hT (w:=w) hr (he.at s) h;exact ⟨u,by simp only[g0,asAddr,Sem.run_bind,Sem.run_pure,Result.andThen_ok];exact g1,g2⟩
theorem Qri {κ:Kap} {σ:AH} {w:World} (hr:Rel κ σ w) {t:List AV} {a:Array Value} (he:EnvR κ t a) (rs:List ResultVar):∀vs,Qbx T t σ rs=some vs→
  ∃us,(rs.mapM fun r=>((match r with| .tmp t=>pure (a.getD t undef)| .cell x t=>do loadVar t (←asAddr (a.getD x undef))):Sem Value)).run P w= .ok us w∧VRs κ vs us:=by
 induction rs with
 |nil=>intro vs h;obtain rfl:=Option.some.inj h;exact ⟨[],rfl,.nil κ⟩
 |cons r rs ih=>
  intro vs h;simp only[Qbx] at h;split at h
  case h_2=>cases h
  rename_i v vs' h1 h2;obtain rfl:=Option.some.inj h;obtain ⟨u,g1,g2⟩:=QxF hT (w:=w) hr he h1;obtain ⟨us,k1,k2⟩:=ih _ h2;refine ⟨u::us,?_,.cons g2 k2⟩;rw[List.mapM_cons];simp only[Sem.run_bind,g1,Result.andThen_ok];rw[k1];rfl
theorem QgI {κ:Kap} {σ:AH} {w:World} (hr:Rel κ σ w) {t:List AV} {a:Array Value} (he:EnvR κ t a) {fn:Func} {v:AV} (h:ares T fn.results.toList t σ=some v):
  ∃u,(results fn a).run P w= .ok u w∧VR κ v u:=by
 have key:∀vs us,Qbx T t σ fn.results.toList=some vs→(fn.results.toList.mapM fun r=>((match r with| .tmp t=>pure (a.getD t undef)| .cell x t=>do loadVar t (←asAddr (a.getD x undef))):Sem Value)).run P w= .ok us w→
   (results fn a).run P w= .ok (if h:us.toArray.size=1 then us.toArray[0] else .tuple us.toArray) w:=by
  intro vs us _ hm;unfold results;have hm':=hm;rw[Array.mapM_eq_mapM_toList,Sem.run_bind,Sem.run_map];unfold Sem.run at hm' ⊢
  erw [hm']
  rfl
 unfold ares at h;split at h
 ·rename_i r hrs;obtain ⟨us,k1,k2⟩:=Qri hT (w:=w) hr he fn.results.toList [v] (by rw[hrs];simp[Qbx,h]);obtain ⟨u,us',rfl,g1,g2⟩:=k2.uncons;obtain rfl:=g2.unnil;exact ⟨u,key [v] [u] (by rw[hrs];simp[Qbx,h]) k1,g1⟩
 ·rename_i hne;obtain ⟨vs,h1,rfl⟩:=Option.map_eq_some_iff.mp h;obtain ⟨us,k1,k2⟩:=Qri hT (w:=w) hr he fn.results.toList vs h1;refine ⟨.tuple us.toArray,?_,.tup k2.1 k2.2⟩;rw[key vs us h1 k1];have hl:us.length≠1:=by
   rw[←k2.1];intro h;have:∀(rs:List ResultVar) vs,Qbx T t σ rs=some vs→vs.length=rs.length:=by
    intro rs
    induction rs with
    |nil=>intro vs h;obtain rfl:=Option.some.inj h;rfl
    |cons r rs ih=>
     intro vs h;simp only[Qbx] at h;split at h
     case h_2=>cases h
     rename_i v vs' _ h2;obtain rfl:=Option.some.inj h;simp[ih _ h2]
   have h3:=this _ _ h1;rw[h] at h3;match hh:fn.results.toList,h3 with
   |[r],_=>exact hne r hh
  rw[dif_neg (by simpa using hl)]
end
end
section
variable [Lam]
theorem QjS {P:Program} {f:FuncId} {args:List AV} {σ:AH} {Q Q':AEnd→AH→Prop} (h:acall P f args σ Q)
  (k:∀e σ',Q e σ'→∃v,e= .ret v∧∃v' σ'',Imp v σ' v' σ''∧Q' (.ret v') σ''):acall P f args σ Q':=by
 obtain ⟨fn,h1,h2,h3,h4⟩:=h;refine ⟨fn,h1,h2,h3,fun κ w vs hr hv=>(h4 κ w vs hr hv).mono fun e w' ⟨κ',ae,σ',a,b,c⟩=>?_⟩;obtain ⟨v,rfl,v',σ'',hi,hq⟩:=k _ _ a;cases e with
 |returned u=>
  obtain ⟨κ2,s2,r2⟩:=hi κ' w' u b.rel c;exact ⟨κ2,.ret v',σ'',hq,b.trans s2,r2⟩
 |_=>exact c.elim
inductive Fz (σ0 σ:AH):AV→AV→Prop
 |same (a:AV):Fz σ0 σ a a
 |agg {cs ds:List AV} (hl:cs.length=ds.length) (h:∀i,i<cs.length→Fz σ0 σ (cs.getD i .any) (ds.getD i .any)):Fz σ0 σ (.agg cs) (.agg ds)
 |tup {cs ds:List AV} (hl:cs.length=ds.length) (h:∀i,i<cs.length→Fz σ0 σ (cs.getD i .any) (ds.getD i .any)):Fz σ0 σ (.tup cs) (.tup ds)
 |own {φ st off n:Nat} {F:Fam} {fs:List (List AV)} (hF:σ φ=some F) (h0:σ0 φ=none) (hst:F.st=st) (hl:off+n≤F.es.length) (hn:fs.length=n)
   (hz:∀i,i<n→(fs.getD i []).length=F.sz) (h:∀i j,i<n→j<F.sz→Fz σ0 σ ((F.es.getD (off+i) []).getD j .any) ((fs.getD i []).getD j .any)):Fz σ0 σ (.own φ st off n) (.ro fs)
 |ro {es fs:List (List AV)} (hn:es.length=fs.length) (hz:∀i,i<es.length→(es.getD i []).length=(fs.getD i []).length)
   (h:∀i j,i<es.length→j<(es.getD i []).length→Fz σ0 σ ((es.getD i []).getD j .any) ((fs.getD i []).getD j .any)):Fz σ0 σ (.ro es) (.ro fs)
 |ptr {φ st i off:Nat} {F:Fam} {cs:List AV} (hF:σ φ=some F) (h0:σ0 φ=none) (hst:F.st=st) (hi:i<F.es.length) (hlen:(F.es.getD i []).length=F.sz) (hc:cs.length=F.sz)
   (h:∀j,j<cs.length→Fz σ0 σ ((F.es.getD i []).getD j .any) (cs.getD j .any)):Fz σ0 σ (.ptr φ st i off) (.rop cs off)
 |emp:Fz σ0 σ .emp (.ro [])
 |nil:Fz σ0 σ (.val (.slice none 0 0)) (.ro [])
open Classical in
noncomputable def kapF (σ0 σ:AH) (κ:Kap) (w:World):Kap:=
 {κ with M:=fun b o=>if ∃φ F r,σ φ=some F∧σ0 φ=none∧κ.ρ φ F.st=some r∧r.b=b then w.cell? ⟨b,o,none⟩ else κ.M b o}
open Classical in
theorem Qbh {σ0 σ:AH} {κ:Kap} {w:World} (hs:AH.Sub σ0 σ) (hr:Rel κ σ w):Stp κ σ w (kapF σ0 σ κ w) σ0 w∧∀a a' u,Fz σ0 σ a a'→VR κ a u→VR (kapF σ0 σ κ w) a' u:=by
 have hin:∀{φ F r},σ φ=some F→σ0 φ=none→κ.ρ φ F.st=some r→∀o,(kapF σ0 σ κ w).M r.b o=w.cell? ⟨r.b,o,none⟩:=by
  intro φ F r h1 h2 h3 o;show (if _ then _ else _)=_;rw[if_pos ⟨φ,F,r,h1,h2,h3,rfl⟩]
 have hE:Ext κ (kapF σ0 σ κ w):=by
  refine ⟨fun _ _ _ h=>h,fun b o v hm=>?_,rfl,rfl⟩;show (if _ then _ else _)=_;split
  ·rename_i hc;obtain ⟨φ,F,r,h1,_,h3,rfl⟩:=hc;rw[hr.off φ F r h1 h3 o] at hm;cases hm
  ·exact hm
 have hout:∀φ F r,σ0 φ=some F→κ.ρ φ F.st=some r→∀o,(kapF σ0 σ κ w).M r.b o=κ.M r.b o:=by
  intro φ F r h1 h2 o;show (if _ then _ else _)=_;rw[if_neg];rintro ⟨ψ,G,s,g1,g2,g3,e⟩;have hne:ψ≠φ:=by rintro rfl;rw[h1] at g2;cases g2
  exact hr.inj ψ φ G F s r g1 (hs φ F h1) g3 h2 hne e
 refine ⟨⟨hE,?_,?_⟩,?_⟩
 ·have h0:=hr.sub hs;refine ⟨?_,h0.inj,?_,?_,h0.up,h0.fin,h0.bel,h0.bw,h0.obj,Lam.kpm _ _ hE h0.kp⟩
  ·intro φ F hF;obtain ⟨r,h1,h2,h3⟩:=h0.has φ F hF;exact ⟨r,h1,h2,h3.same hE rfl⟩
  ·intro b o v hm;have hm:(if _ then _ else _)=_:=hm;split at hm
   ·exact hm
   ·exact hr.mem b o v hm
  ·intro φ F r hF h1 o;rw[hout φ F r hF h1 o];exact h0.off φ F r hF h1 o
 ·refine ⟨Nat.le_refl _,fun b hb hu=>⟨rfl,fun o=>?_,fun φ F r hF=>hu φ F r (hs φ F hF)⟩,fun φ hn _=>⟨hs.none hn,fun _=>rfl⟩⟩;show (if _ then _ else _)=_;rw[if_neg];rintro ⟨φ,F,r,h1,_,h3,e⟩;exact hu φ F r h1 h3 e
 ·clear hout;intro a a' u hf hv
  induction hf generalizing u with
  |same a=>exact hv.mono hE
  |agg hl h ih=>
   cases hv with
   |agg hl2 h2=>exact .agg (hl▸hl2) fun i hi=>ih i (hl▸hi) _ (h2 i (hl▸hi))
  |tup hl h ih=>
   cases hv with
   |tup hl2 h2=>exact .tup (hl▸hl2) fun i hi=>ih i (hl▸hi) _ (h2 i (hl▸hi))
  |@own φ st off n F fs hF h0 hst hl hn hz h ih=>
   subst hst;cases hv with
   |@own _ _ _ _ r hρ hlo hn2=>
    obtain ⟨r',e1,_,H⟩:=hr.has φ F hF;rw[hρ] at e1;obtain rfl:=Option.some.inj e1;have cell:∀i j,∃v,i<n→j<F.sz→w.cell? ⟨r.b,r.base+(off+i - r.lo)*r.sz+j,none⟩=some v∧VR κ ((F.es.getD (off+i) []).getD j .any) v:=by
     intro i j;by_cases c:i<n∧j<F.sz
     ·obtain ⟨v,h1,h2⟩:=H.cell (off+i) j (by omega) (by omega) c.2;exact ⟨v,fun _ _=>⟨h1,h2⟩⟩
     ·exact ⟨undef,fun h1 h2=>absurd ⟨h1,h2⟩ c⟩
    obtain ⟨vals,hvals⟩:=Classical.axiomOfChoice fun i=>Classical.axiomOfChoice (cell i)
    have key:VR (kapF σ0 σ κ w) (.ro fs) (.slice (some ⟨r.b,r.base+(off - r.lo)*r.sz,none⟩) fs.length (r.lo+r.cap - off)):=by
     refine VR.ro (sz:=F.sz) (vals:=vals) (by omega) (fun i hi=>hz i (by omega)) ?_ (fun i j hi hj=>ih i j (by omega) hj _ (hvals i j (by omega) hj).2);intro i j hi hj;rw[hin hF h0 hρ];have:=(hvals i j (by omega) hj).1;rw[←this];congr 2;rw[show off+i - r.lo=(off - r.lo)+i by omega,Nat.add_mul,H.sz];omega
    rw[hn] at key;exact key
   |ownEnd hρ hoff=>
    obtain rfl:=List.eq_nil_of_length_eq_zero hn;exact .roEnd _
  |@ro es fs hn hz h ih=>
   cases hv with
   |roEnd a=>
    obtain rfl:=List.eq_nil_of_length_eq_zero hn.symm;exact .roEnd _
   |@ro _ b off cap sz vals hc hz2 hm hv=>
    have key:VR (kapF σ0 σ κ w) (.ro fs) (.slice (some ⟨b,off,none⟩) fs.length cap):=by
     refine VR.ro (sz:=sz) (vals:=vals) (by omega) (fun i hi=>?_) (fun i j hi hj=>hE.M _ _ _ (hm i j (by omega) hj)) (fun i j hi hj=>?_)
     ·rw[←hz i (by omega),hz2 i (by omega)]
     ·exact ih i j (by omega) (by rw[hz2 i (by omega)];exact hj) _ (hv i j (by omega) hj)
    rw[←hn] at key;exact key
  |@ptr φ st i off F cs hF h0 hst hi hlen hc h ih=>
   subst hst;cases hv with
   |@ptr _ _ _ _ r hρ hlo=>
    obtain ⟨r',e1,_,H⟩:=hr.has φ F hF;rw[hρ] at e1;obtain rfl:=Option.some.inj e1;have cell:∀j,∃v,j<F.sz→w.cell? ⟨r.b,r.base+(i - r.lo)*r.sz+j,none⟩=some v∧VR κ ((F.es.getD i []).getD j .any) v:=by
     intro j;by_cases c:j<F.sz
     ·obtain ⟨v,h1,h2⟩:=H.cell i j hlo hi c;exact ⟨v,fun _=>⟨h1,h2⟩⟩
     ·exact ⟨undef,fun h1=>absurd h1 c⟩
    obtain ⟨vals,hvals⟩:=Classical.axiomOfChoice cell;refine VR.rop (vals:=vals) (fun j hj=>?_) (fun j hj=>ih j hj _ (hvals j (hc▸hj)).2);rw[hin hF h0 hρ];exact (hvals j (hc▸hj)).1
  |emp=>cases hv;exact .roEnd _
  |nil=>cases hv;exact .roEnd _
theorem QaT {σ0 σ:AH} {a a':AV} (hs:AH.Sub σ0 σ) (hf:Fz σ0 σ a a'):Imp a σ a' σ0:=by
 intro κ w u hr hv;obtain ⟨h1,h2⟩:=Qbh hs hr;exact ⟨_,h1,h2 a a' u hf hv⟩
theorem QW {σ0 σ:AH} {a a':AV} {R:AEnd→AH→Prop} (hs:AH.Sub σ0 σ) (hf:Fz σ0 σ a a') (h:R (.ret a') σ0):aret a σ R:=⟨a',σ0,QaT hs hf,h⟩
def frz (a:AV) (σ:AH) (k:AV→AH→Prop):Prop:=∃v' σ',AH.Sub σ' σ∧Fz σ' σ a v'∧k v' σ'
theorem QxG {P:Program} {c:Code} {Q:QT} {t t2:List AV} {σ σ':AH} {a v':AV} (hs:AH.Sub σ' σ) (hf:Fz σ' σ a v') (hl:t2.length=t.length)
  (ht:∀i,i<t.length→t2.getD i .any=t.getD i .any∨(t.getD i .any=a∧t2.getD i .any=v')) (h:swp P c Q t2 σ'):swp P c Q t σ:=by
 intro r m n0 κ w act hr he hd;obtain ⟨k1,k2⟩:=Qbh (κ:=κ) (w:=w) hs hr;have he2:EnvR (kapF σ' σ κ w) t2 act.tmps:=by
  refine ⟨hl.trans he.size,fun i hi=>?_⟩;rcases ht i (by omega) with e|⟨e1,e2⟩
  ·rw[e];exact (he.at i).mono k1.ext
  ·rw[e2];exact k2 _ _ _ hf (e1▸he.at i)
 refine Code.wpIn_mono ?_ (h r m n0 _ w act k1.rel he2 hd);exact fun _ _ _ hp=>PostR.mono k1 (fun _ _ _ h=>h) hp
theorem QK {φ n:Nat} {cs:List AV} {σ:AH} {k:AV→AH→Prop} (hφ:σ φ=none) (hn:cs.length=n) (h:k (.rop cs 0) σ):frz (.ptr φ 0 0 0) (σ.set φ ⟨0,n,[cs]⟩) k:=
 ⟨.rop cs 0,σ,.set (.refl σ) _ hφ,.ptr (AH.set_same ..) hφ rfl (by simp) (by simpa using hn) hn (fun _ _=> .same _),h⟩
end
section
variable [Lam]
theorem Stp.frame {κ κ':Kap} {σ σ2:AH} {w w':World} {φ:Nat} {Z:Fam} (hr:Rel κ (σ.set φ Z) w) (hφ:σ φ=none) (h:Stp κ σ w κ' σ2 w'):σ2 φ=none∧Stp κ (σ.set φ Z) w κ' (σ2.set φ Z) w':=by
 obtain ⟨r,hρ,hB,hH⟩:=hr.has φ Z (AH.set_same ..);have hlt:=hr.block_lt (AH.set_same σ φ Z) hρ;have hne:∀ψ F s,σ ψ=some F→κ.ρ ψ F.st=some s→s.b≠r.b:=by
  intro ψ F s h1 h2;have hn:ψ≠φ:=by rintro rfl;rw[hφ] at h1;cases h1
  exact hr.inj ψ φ F Z s r (by rw[AH.set_ne _ _ hn];exact h1) (AH.set_same ..) h2 hρ hn
 obtain ⟨b1,b2,b3⟩:=h.fra.blk r.b hlt hne;obtain ⟨i1,i2⟩:=h.fra.ids φ hφ ⟨_,r,hρ⟩;have hρ':κ'.ρ φ Z.st=some r:=by rw[i2];exact hρ
 have R2:=h.rel;refine ⟨i1,h.ext,⟨?_,?_,R2.mem,?_,?_,?_,R2.bel,R2.bw,R2.obj,R2.kp⟩,⟨h.fra.size,?_,?_⟩⟩
 ·intro ψ F hF;by_cases e:ψ=φ
  ·subst e;rw[AH.set_same] at hF;obtain rfl:=Option.some.inj hF;exact ⟨r,hρ',by rw[h.ext.B];exact hB,hH.same h.ext b1⟩
  ·rw[AH.set_ne _ _ e] at hF;exact R2.has ψ F hF
 ·intro ψ χ F G s u hF hG hs hu hn;by_cases e1:ψ=φ
  ·subst e1;rw[AH.set_same] at hF;obtain rfl:=Option.some.inj hF;rw[hρ'] at hs;obtain rfl:=Option.some.inj hs;rw[AH.set_ne _ _ hn.symm] at hG;exact (b3 χ G u hG hu).symm
  ·rw[AH.set_ne _ _ e1] at hF;by_cases e2:χ=φ
   ·subst e2;rw[AH.set_same] at hG;obtain rfl:=Option.some.inj hG;rw[hρ'] at hu;obtain rfl:=Option.some.inj hu;exact b3 ψ F s hF hs
   ·rw[AH.set_ne _ _ e2] at hG;exact R2.inj ψ χ F G s u hF hG hs hu hn
 ·intro ψ F s hF hs o;by_cases e:ψ=φ
  ·subst e;rw[AH.set_same] at hF;obtain rfl:=Option.some.inj hF;rw[hρ'] at hs;obtain rfl:=Option.some.inj hs;rw[b2];exact hr.off ψ _ _ (AH.set_same ..) hρ o
  ·rw[AH.set_ne _ _ e] at hF;exact R2.off ψ F s hF hs o
 ·intro ψ F st hF hlt2;by_cases e:ψ=φ
  ·subst e;rw[AH.set_same] at hF;obtain rfl:=Option.some.inj hF;rw[i2];exact hr.up ψ _ st (AH.set_same ..) hlt2
  ·rw[AH.set_ne _ _ e] at hF;exact R2.up ψ F st hF hlt2
 ·obtain ⟨N,hN⟩:=R2.fin;refine ⟨max N (φ+1),fun ψ hψ=>?_⟩;have e:ψ≠φ:=by omega
  rw[AH.set_ne _ _ e];exact hN ψ (by omega)
 ·intro b hb hu;have hbr:r.b≠b:=hu φ Z r (AH.set_same ..) hρ;obtain ⟨c1,c2,c3⟩:=h.fra.blk b hb (fun ψ F s h1 h2=>by
   have hn:ψ≠φ:=by rintro rfl;rw[hφ] at h1;cases h1
   exact hu ψ F s (by rw[AH.set_ne _ _ hn];exact h1) h2)
  refine ⟨c1,c2,?_⟩;intro ψ F s hF hs;by_cases e:ψ=φ
  ·subst e;rw[AH.set_same] at hF;obtain rfl:=Option.some.inj hF;rw[hρ'] at hs;obtain rfl:=Option.some.inj hs;exact hbr
  ·rw[AH.set_ne _ _ e] at hF;exact c3 ψ F s hF hs
 ·intro ψ hn he;have e:ψ≠φ:=by rintro rfl;rw[AH.set_same] at hn;cases hn
  rw[AH.set_ne _ _ e] at hn ⊢;exact h.fra.ids ψ hn he
theorem Qso {P:Program} {f:FuncId} {args:List AV} {σ:AH} {φ:Nat} {Z:Fam} (hφ:σ φ=none) {k p:AV→AH→Prop} (h:acall P f args σ fun e σ'=>match e with| .ret v=>k v σ'| .pan v=>p v σ'):
  acall P f args (σ.set φ Z) fun e σ'=>match e with| .ret v=>∃σ2,σ'=σ2.set φ Z∧σ2 φ=none∧k v σ2| .pan v=>p v σ':=by
 obtain ⟨fn,h1,h2,h3,h4⟩:=h;refine ⟨fn,h1,h2,h3,fun κ w vs hr hv=>?_⟩;refine (h4 κ w vs (hr.sub (AH.Sub.set (.refl σ) _ hφ)) hv).mono ?_;rintro e w' ⟨κ',ae,σ2,hk,hs,hE⟩;obtain ⟨i1,hs'⟩:=Stp.frame hr hφ hs;cases ae with
 |ret v=>exact ⟨κ',.ret v,σ2.set φ Z,⟨σ2,rfl,i1,hk⟩,hs',hE⟩
 |pan v=>exact ⟨κ',.pan v,σ2,hk,hs'.trans (Stp.sub hs'.rel (AH.Sub.set (.refl σ2) _ i1)),hE⟩
theorem Qrj {P:Program} {f:AV} {args:List AV} {σ:AH} {φ:Nat} {Z:Fam} (hφ:σ φ=none) {k p:AV→AH→Prop} (h:Uo P f args σ (onr k p)):
  Uo P f args (σ.set φ Z) fun e σ'=>match e with| .ret v=>∃σ2,σ'=σ2.set φ Z∧σ2 φ=none∧k v σ2| .pan v=>p v σ':=by
 unfold Uo at h ⊢;split at h
 ·exact Qso (k:=k) (p:=p) hφ (h.mono fun e σ' h=>by cases e<;>exact h)
 ·intro m κ w vs hr hv;obtain ⟨fn,tmps,assign,body,hy,hR⟩:=h m κ w vs (hr.sub (AH.Sub.set (.refl σ) _ hφ)) hv;refine ⟨fn,tmps,assign,body,hy,hR.mono ?_⟩;rintro e w' ⟨κ',ae,σ2,hk,hs,hE⟩;obtain ⟨i1,hs'⟩:=Stp.frame hr hφ hs;cases ae with
  |ret v=>exact ⟨κ',.ret v,σ2.set φ Z,⟨σ2,rfl,i1,hk⟩,hs',hE⟩
  |pan v=>exact ⟨κ',.pan v,σ2,hk,hs'.trans (Stp.sub hs'.rel (AH.Sub.set (.refl σ2) _ i1)),hE⟩
 ·exact h.elim
theorem Ql6 {P:Program} {f:AV} {args:List AV} {σ:AH} {Q Q':AEnd→AH→Prop} (h:Uo P f args σ Q) (k:∀e σ',Q e σ'→Q' e σ'):Uo P f args σ Q':=by
 unfold Uo at h ⊢;split at h
 ·exact acall.mono h k
 ·exact ayield.mono h k
 ·exact h.elim
end
end Go.Proofs.YtggnjjalfnhiiaaGreatDoor.E

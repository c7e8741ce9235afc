import Derived.Test.YtggnjjalfnhiiaaGreatDoorPG6
import Derived.ChangeArms
import Derived.ReadAgain
import Derived.ChangeOld
import Derived.WideShapes
import Derived.Deep.Slices
import Derived.Laws.Small
import Derived.Lib.LaidTab
/- The engine, part 33: arguments of rows, as abstract values; from calls in abstract values to rows. -/
set_option linter.unusedSectionVars false
set_option linter.unusedSectionVars false
set_option linter.unusedSimpArgs false
set_option linter.unusedVariables false
namespace Go.Proofs.YtggnjjalfnhiiaaGreatDoor.E
open Go Go.RowKit
section
abbrev lam0:Lam:=⟨fun _=>none,fun _=>True,fun _ _ _ _=>trivial⟩
def kap0 (W:World):Kap:=⟨fun _ _=>none,fun b o=>W.cell? ⟨b,o,none⟩,W.heap.size,W⟩
def ah0:AH:=fun _=>none
section
attribute [local instance] lam0
theorem rel0 (W:World):Rel (kap0 W) ah0 W where
 has:=fun _ _ h=>by cases h
 inj:=fun _ _ _ _ _ _ h=>by cases h
 mem:=fun _ _ _ h=>h
 off:=fun _ _ _ h=>by cases h
 up:=fun _ _ _ h=>by cases h
 fin:=⟨0,fun _ _=>⟨rfl,fun _=>rfl⟩⟩
 bel:=Below.refl _ _
 bw:=Nat.le_refl _
 obj:=fun _ _ h=>by cases h
 kp:=trivial
end
variable [Lam]
def Sh (P:Program):Nat→TypeId→List AV→Prop
 |0,_,_=>False
 |m+1,t,as=>match P.underlying t with
  |some .bool=>∃b,as=[.val (.bool b)]
  |some (.int k)=>∃n,as=[.val (.int k n)]∧(Lit.int k n).wf=true
  |some .string=>∃s:ByteArray,as=[.val (.string s)]∧s.size≤maxLen
  |some (.slice e)=>∃es,as=[.ro es]∧es.length≤maxLen∧∀c,c∈es→Sh P m e c
  |some (.struct fs)=>as.length=P.cellsOf t∧∀f,f∈fs.toList→Sh P m f.type ((as.drop f.offset).take (P.cellsOf f.type))
  |_=>False
def laid (P:Program):Nat→List Field→Nat→Bool
 |off,[],n=>off==n
 |off,f::fs,n=>f.offset==off&&laid P (off+P.cellsOf f.type) fs n
def QfF (P:Program):Nat→TypeId→Bool
 |0,_=>false
 |m+1,t=>match P.underlying t with
  |some .bool=>true
  |some (.int _)=>true
  |some .string=>true
  |some (.slice e)=>QfF P m e&&decide (0<P.cellsOf e)
  |some (.struct fs)=>laid P 0 fs.toList (P.cellsOf t)&&fs.toList.all fun f=>QfF P m f.type
  |_=>false
theorem QxS {P:Program}:∀(fs:List Field) (off n:Nat),laid P off fs n=true→off≤n:=by
 intro fs
 induction fs with
 |nil=>intro off n h;simp[laid] at h;omega
 |cons f fs ih=>intro off n h;simp only[laid,Bool.and_eq_true] at h;have:=ih _ _ h.2;omega
theorem glue {P:Program} {κ:Kap} {m:Nat} {cs:List Value}:∀(fs:List Field) (off:Nat),laid P off fs cs.length=true→
  (∀f,f∈fs→∃as,Sh P m f.type as∧VRs κ as ((cs.drop f.offset).take (P.cellsOf f.type)))→
  ∃as,VRs κ as (cs.drop off)∧∀f,f∈fs→off≤f.offset∧Sh P m f.type ((as.drop (f.offset - off)).take (P.cellsOf f.type)):=by
 intro fs
 induction fs with
 |nil=>
  intro off h _;simp[laid] at h;exact ⟨[],by rw[List.drop_eq_nil_of_le (by omega)];exact .nil κ,fun f hf=>by cases hf⟩
 |cons f fs ih=>
  intro off h hf;simp only[laid,Bool.and_eq_true,beq_iff_eq] at h;obtain ⟨h0,h1⟩:=h;obtain ⟨a1,hs1,hv1⟩:=hf f (List.mem_cons_self ..);obtain ⟨a2,hv2,hs2⟩:=ih _ h1 (fun g hg=>hf g (List.mem_cons_of_mem _ hg));have hle:=QxS _ _ _ h1;rw[h0] at hv1;have hl1:a1.length=P.cellsOf f.type:=by rw[hv1.1];simp;omega
  refine ⟨a1++a2,?_,?_⟩
  ·have e:cs.drop off=(cs.drop off).take (P.cellsOf f.type)++cs.drop (off+P.cellsOf f.type):=by
    rw[←List.drop_drop];exact (List.take_append_drop _ _).symm
   rw[e];exact hv1.append hv2
  ·intro g hg;rcases List.mem_cons.1 hg with rfl|hg
   ·refine ⟨by omega,?_⟩;rw[h0,Nat.sub_self,List.drop_zero,←hl1,List.take_left];exact hs1
   ·obtain ⟨k1,k2⟩:=hs2 g hg;refine ⟨by omega,?_⟩;rw[show g.offset - off=a1.length+(g.offset - (off+P.cellsOf f.type)) by omega,←List.drop_drop,List.drop_left];exact k2
theorem Qim {W:World} {base:Nat} {a:Addr} {n:Nat} {cs:List Value} (h:W.cells? base a n=some cs):cs.length=n∧∀j,j<n→W.cell? (a.add j)=some (cs.getD j undef):=by
 obtain ⟨_,h2,h3⟩:=World.cells?_some h;refine ⟨h2,fun j hj=>?_⟩;have:=h3 j hj;rw[this];simp[List.getD,h2▸hj]
theorem Qrt {b off n:Nat}:(⟨b,off,none⟩:Addr).add n=⟨b,off+n,none⟩:=by
 unfold Addr.add;split
 ·rename_i h;simp[h]
 ·rfl
theorem QxT {H:Type} {enc:TypeId × Value→H} {P:Program} {W:World} {base:Nat} {hd:Bool}:∀(n:Nat) (t:TypeId) (cs:List Value) (x:DataW H × List MemPlace),
  DataW.trod enc P W base (fun _=>true) hd n t cs=some x→∀m,QfF P m t=true→∃as,Sh P m t as∧VRs (kap0 W) as cs:=by
 intro n
 induction n with
 |zero=>intro t cs x h;simp[DataW.trod] at h
 |succ n ih=>
  intro t cs x h m hp;cases m with
  |zero=>cases hp
  |succ m=>
   unfold QfF at hp;cases hu:P.underlying t with
   |none=>rw[hu] at hp;cases hp
   |some d=>
    rw[hu] at hp;cases d with
    |bool=>
     obtain ⟨b,rfl,_⟩:=DataW.trod_bool hu h;exact ⟨[.val (.bool b)],by simp[Sh,hu],.one (.val _)⟩
    |int k=>
     obtain ⟨z,rfl,_,hw⟩:=DataW.trod_int hu h;exact ⟨[.val (.int k z)],by simp[Sh,hu,hw],.one (.val _)⟩
    |string=>
     obtain ⟨s,rfl,_,hw⟩:=DataW.trod_string hu h;exact ⟨[.val (.string s)],by simp[Sh,hu,hw],.one (.val _)⟩
    |slice e=>
     simp only[Bool.and_eq_true,decide_eq_true_eq] at hp;obtain ⟨hpe,hpos⟩:=hp;rcases DataW.trod_slice hu h with ⟨rfl,_⟩|⟨a,len,cap,elems,rest,n',hn,rfl,_,hb,hlc,hcap,hlen,hel,hsp,_⟩
     ·exact ⟨[.ro []],by simp[Sh,hu],.one (.roEnd _)⟩
     ·obtain rfl:n=n':=by omega
      obtain ⟨hrl,hrest⟩:=hsp rfl;have hel':∀i,i<len→∃cs' y,W.cells? base (a.add (i*P.cellsOf e)) (P.cellsOf e)=some cs'∧DataW.trod enc P W base (fun _=>true) hd n e cs'=some y:=by
       intro i hi;have h1:=hel i hi;rw[List.getElem?_eq_getElem (by omega),Option.bind_eq_some_iff] at h1;obtain ⟨cs',h2,h3⟩:=h1;exact ⟨cs',_,h2,h3⟩
      by_cases hc0:cap=0
      ·obtain rfl:len=0:=by omega
       subst hc0;exact ⟨[.ro []],by simp[Sh,hu],.one (.roEnd _)⟩
      have hspot:a.spot=none:=by
       have h0:∃cs',W.cells? base a (P.cellsOf e)=some cs':=by
        by_cases hl:0<len
        ·obtain ⟨cs',_,h2,_⟩:=hel' 0 hl;refine ⟨cs',?_⟩;rw[←h2];simp[Addr.add]
        ·have h1:=hrest 0 (by omega);rw[List.getElem?_eq_getElem (by omega),Option.bind_eq_some_iff] at h1;obtain ⟨cs',h2,_⟩:=h1;refine ⟨cs',?_⟩;obtain rfl:len=0:=by omega
         rw[←h2];simp[Addr.add]
       obtain ⟨cs',h0⟩:=h0;have:=(Qim h0).2 0 hpos;simp only[Addr.add,if_true] at this;unfold World.cell? at this;cases hs:a.spot with
       |none=>rfl
       |some z=>rw[hs] at this;split at this<;>simp at this
      obtain ⟨ab,ao,as⟩:=a;obtain rfl:as=none:=hspot;have hall:∀i,∃p:List AV × List Value,i<len→Sh P m e p.1∧VRs (kap0 W) p.1 p.2∧W.cells? base (⟨ab,ao+i*P.cellsOf e,none⟩) (P.cellsOf e)=some p.2:=by
       intro i;by_cases hi:i<len
       ·obtain ⟨cs',y,h2,h3⟩:=hel' i hi;obtain ⟨as,k1,k2⟩:=ih _ _ _ h3 m hpe;rw[Qrt] at h2;exact ⟨(as,cs'),fun _=>⟨k1,k2,h2⟩⟩
       ·exact ⟨([],[]),fun h=>absurd h hi⟩
      obtain ⟨f,hf⟩:=Classical.axiomOfChoice hall;refine ⟨[.ro ((List.range len).map fun i=>(f i).1)],?_,.one ?_⟩
      ·simp only[Sh,hu];refine ⟨_,rfl,by simp;omega,fun c hc=>?_⟩;obtain ⟨i,hi,rfl⟩:=List.mem_map.1 hc;exact (hf i (List.mem_range.1 hi)).1
      ·have hget:∀i,i<len→((List.range len).map fun i=>(f i).1).getD i []=(f i).1:=by
        intro i hi;simp[List.getD,hi]
       have key:VR (kap0 W) (.ro ((List.range len).map fun i=>(f i).1)) (.slice (some ⟨ab,ao,none⟩) ((List.range len).map fun i=>(f i).1).length cap):=by
        refine VR.ro (sz:=P.cellsOf e) (vals:=fun i j=>(f i).2.getD j undef) (by simpa using hlc) ?_ ?_ ?_
        ·intro i hi;have hi:i<len:=by simpa using hi
         obtain ⟨_,k2,k3⟩:=hf i hi;rw[hget i hi,k2.1,(Qim k3).1]
        ·intro i j hi hj;have hi:i<len:=by simpa using hi
         obtain ⟨_,k2,k3⟩:=hf i hi;have:=(Qim k3).2 j hj;rw[Qrt] at this;exact this
        ·intro i j hi hj;have hi:i<len:=by simpa using hi
         obtain ⟨_,k2,k3⟩:=hf i hi;rw[hget i hi];exact k2.2 j (by rw[k2.1,(Qim k3).1];exact hj)
       simpa using key
    |struct fs=>
     simp only[Bool.and_eq_true,List.all_eq_true] at hp;obtain ⟨hla,hpf⟩:=hp;obtain ⟨xs,n',hn,_,hl,hxl,hg⟩:=DataW.trod_struct hu h;obtain rfl:n=n':=by omega
     rw[←hl] at hla;obtain ⟨as,h1,h2⟩:=glue (P:=P) (κ:=kap0 W) (m:=m) fs.toList 0 hla (fun f hf=>by
      obtain ⟨i,hi,rfl⟩:=List.getElem_of_mem hf;have e1:fs[i]? =some fs.toList[i]:=by simp at hi;simp[hi]
      have e2:=hg i _ e1;rw[List.getElem?_eq_getElem (by simp at hi;omega)] at e2;exact ih _ _ _ e2 m (hpf _ hf))
     refine ⟨as,?_,by simpa using h1⟩;simp only[Sh,hu];refine ⟨by rw[h1.1,List.drop_zero,hl],fun f hf=>?_⟩;have:=(h2 f hf).2;simpa using this
    |_=>cases hp
def Qlf (P:Program) (t:TypeId) (as:List AV):AV:=match P.underlying t with
 |some (.struct _)=> .agg as
 |_=>as.headD .any
theorem QuJ {H:Type} {enc:TypeId × Value→H} {P:Program} {W:World} {base:Nat} {hd:Bool} {r:Reach} {b:Nat} {t:TypeId} {v:Value} {d:DataW H} {ps:List MemPlace} (m:Nat)
  (hp:QfF P m t=true) (hok:Value.okWide P W r b t v) (h:DataW.Trod enc P W base (fun _=>true) hd t v d ps):∃as,Sh P m t as∧VR (kap0 W) (Qlf P t as) v:=by
 obtain ⟨n,hn⟩:=h;obtain ⟨as,h1,h2⟩:=QxT n _ _ _ hn m hp;refine ⟨as,h1,?_⟩;have one:∀u,v=u→v.cells.toList=[v]→VR (kap0 W) (as.headD .any) v:=by
  intro u _ hc;rw[hc] at h2;obtain ⟨hl,hv⟩:=h2;match as,hl with
  |[a],_=>exact hv 0 (by simp)
 cases m with
 |zero=>cases hp
 |succ m=>
  unfold QfF at hp;unfold Qlf;cases hu:P.underlying t with
  |none=>rw[hu] at hp;cases hp
  |some dd=>
   rw[hu] at hp;cases dd with
   |bool=>obtain ⟨_,rfl⟩:=WideShapes.okWide_bool hu hok;exact one _ rfl rfl
   |int k=>obtain ⟨_,rfl⟩:=WideShapes.okWide_int hu hok;exact one _ rfl rfl
   |string=>obtain ⟨_,rfl⟩:=WideShapes.okWide_string hu hok;exact one _ rfl rfl
   |slice e=>obtain ⟨_,_,_,rfl⟩:=WideShapes.okWide_slice hu hok;exact one _ rfl rfl
   |struct fs=>
    obtain ⟨cs,rfl,_⟩:=WideShapes.okWide_struct hu hok;have:VR (kap0 W) (.agg as) (.agg cs.toList.toArray):= .agg (by simpa[Value.cells] using h2.1) (by simpa[Value.cells] using h2.2);simpa using this
   |_=>cases hp
theorem Qv0 {H:Type} {enc:TypeId × Value→H} {P:Program} {W W':World} (K:Kids P (·<P.types.size)) (hz:∀t e,t<P.types.size→P.underlying t=some (.slice e)→0<P.cellsOf e)
  {ts:List TypeId} {vs:List Value} {ds:List (DataW H)} {ps:List MemPlace} (hts:∀t,t∈ts→t<P.types.size)
  (h:DataW.TrodAll enc P W 0 (fun _=>true) true ts vs ds ps) (bel:Below W.heap.size W W'):DataW.TrodAll enc P W' 0 (fun b=>decide (b<W.heap.size)) true ts vs ds ps:=by
 have hlt:=DataW.TrodAll.lt h;refine DataW.TrodAll.respare K hz hts ?_ (fun p hp=>by simpa using hlt p hp);clear hts
 induction ts generalizing vs ds ps with
 |nil=>
  match vs,ds,h with
  |[],[],h=>exact h
 |cons t ts ih=>
  match vs,ds,h with
  |v::vs,d::ds,h=>
   obtain ⟨p,q,⟨n,h1⟩,h2,e⟩:=h;refine ⟨p,q,⟨n,DataW.trod_carry n _ _ _ h1 fun x hx=>bel.same (hlt x (by rw[e];exact List.mem_append_left _ hx))⟩,ih h2 (fun x hx=>hlt x (by rw[e];exact List.mem_append_right _ hx)),e⟩
end
section
variable [Lam]
abbrev iv (n:Int):AV:= .val (.int .i64 n)
abbrev bv (b:Bool):AV:= .val (.bool b)
abbrev str (s:ByteArray):AV:= .val (.string s)
abbrev nilS:AV:= .val (.slice none 0 0)
@[simp] theorem Qv1 (a b : Int) : ibin .leq (.val (.int .i64 a)) (.val (.int .i64 b)) = some (.val (.bool (decide (a ≤ b)))) := id rfl
@[simp] theorem Qv2 (a b : Int) : ibin .geq (.val (.int .i64 a)) (.val (.int .i64 b)) = some (.val (.bool (decide (b ≤ a)))) := id rfl
@[simp] theorem Qv3 (a b : Int) : ibin .lss (.val (.int .i64 a)) (.val (.int .i64 b)) = some (.val (.bool (decide (a < b)))) := id rfl
@[simp] theorem Qv4 (a b : Int) : ibin .gtr (.val (.int .i64 a)) (.val (.int .i64 b)) = some (.val (.bool (decide (b < a)))) := id rfl
@[simp] theorem Qv5 (a b : Int) : ibin .eql (.val (.int .i64 a)) (.val (.int .i64 b)) = some (.val (.bool (decide (a = b)))) := id rfl
@[simp] theorem Qv6 (a b : Int) : ibin .neq (.val (.int .i64 a)) (.val (.int .i64 b)) = some (.val (.bool (!decide (a = b)))) := id rfl
theorem QbK {n:Int} (h0: -9223372036854775808≤n) (h1:n≤9223372036854775807):IntKind.i64.wrap n=n:=by
 rw[IntKind.wrap_i64];omega
theorem Jk {a b:Int} (h0: -9223372036854775808≤a+b) (h1:a+b≤9223372036854775807):ibin .add (.val (.int .i64 a)) (.val (.int .i64 b))=some (.val (.int .i64 (a+b))):=by
 show some (AV.val (.int .i64 (IntKind.i64.wrap (a+b))))=_;rw[QbK h0 h1]
theorem QU {a b:Int} (h0: -9223372036854775808≤a - b) (h1:a - b≤9223372036854775807):ibin .sub (.val (.int .i64 a)) (.val (.int .i64 b))=some (.val (.int .i64 (a - b))):=by
 show some (AV.val (.int .i64 (IntKind.i64.wrap (a - b))))=_;rw[QbK h0 h1]
theorem Qv7 {a b:Int} (h0: -9223372036854775808≤a*b) (h1:a*b≤9223372036854775807):ibin .mul (.val (.int .i64 a)) (.val (.int .i64 b))=some (.val (.int .i64 (a*b))):=by
 show some (AV.val (.int .i64 (IntKind.i64.wrap (a*b))))=_;rw[QbK h0 h1]
theorem Qh {i n:Nat} (h:i<n) (hn:n≤9223372036854775807):ibin .add (.val (.int .i64 (i:Int))) (.val (.int .i64 1))=some (.val (.int .i64 ((i+1:Nat):Int))):=by
 rw[Jk (by omega) (by omega)];rfl
theorem Qd8 (a b:ByteArray):(a.toList==b.toList)=decide (a=b):=by
 by_cases h:a=b
 ·simp[h]
 ·have:¬a.toList=b.toList:=fun e=>h (by
   rw[ByteArray.toList_eq,ByteArray.toList_eq] at e;exact WideShapes.bytes_inj e)
  simp[h,this]
@[simp] theorem Qv8 (a b : ByteArray) : sbin .eql (.val (.string a)) (.val (.string b)) = some (.val (.bool (decide (a = b)))) := by
 show some (AV.val (.bool (a.toList==b.toList)))=_;rw[Qd8]
@[simp] theorem Qv9 (a b : ByteArray) : sbin .neq (.val (.string a)) (.val (.string b)) = some (.val (.bool (!decide (a = b)))) := by
 show some (AV.val (.bool (!(a.toList==b.toList))))=_;rw[Qd8]
@[simp] theorem QxU (b : Bool) : aun .not (.val (.bool b)) = some (.val (.bool (!b))) := id rfl
@[simp] theorem Qwa (vs : List AV) (i : Nat) : aext (.tup vs) i = vs[i]? := id rfl
theorem Qa {v:AV} {σ:AH} {R:AEnd→AH→Prop} (h:R (.ret v) σ):aret v σ R:=Uk (.refl σ) h
@[simp] theorem Qru (cs : List AV) (σ : AH) (k : AV → AH → Prop) : abox (.agg cs) σ k = ∀ φ, σ φ = none → k (.ptr φ 0 0 0) (σ.set φ ⟨0, cs.length, [cs]⟩) := id rfl
attribute [simp] AH.set_same AH.set_none AH.set_set
theorem AH.set_ne' {σ:AH} {φ ψ:Nat} {F:Fam} (h:¬ψ=φ):(σ.set φ F) ψ=σ ψ:=AH.set_ne σ F h
theorem QsR {a b:AH} {φ:Nat} {F:Fam} (h:AH.Sub a b) (hn:a φ=none):AH.Sub a (b.set φ F):=AH.Sub.set h F hn
def At (σ:AH) (p:AV) (cs:List AV):Prop:=Ja σ p=some cs∧∀o,∃q,fldA o p=some q∧Ja σ q=some (cs.drop o)
theorem At.rop (σ:AH) (cs:List AV):At σ (.rop cs 0) cs:=⟨rfl,fun o=>⟨_,rfl,by simp[Ja]⟩⟩
theorem At.ptr {σ:AH} {φ st i:Nat} {F:Fam} (hF:σ φ=some F) (hs:F.st=st) (hi:i<F.es.length):At σ (.ptr φ st i 0) (F.es.getD i []):=by
 refine ⟨by simp[Ja,hF,hs,hi],fun o=>⟨_,rfl,by simp[Ja,hF,hs,hi]⟩⟩
theorem At.lod {σ:AH} {p c:AV} {cs:List AV} (h:At σ p (c::cs)):lod p σ=some c:=by
 unfold E.lod;rw[h.1]
theorem At.lodA {σ:AH} {p:AV} {cs:List AV} {n:Nat} (h:At σ p cs) (hn:n≤cs.length):lodA n p σ=some (.agg (cs.take n)):=by
 unfold E.lodA;rw[h.1];simp[hn]
inductive Sl (σ:AH) (sz:Nat):AV→List (List AV)→Prop
 |ro (es:List (List AV)) (h:∀c,c∈es→c.length=sz):Sl σ sz (.ro es) es
 |own (φ st off n:Nat) (F:Fam) (hF:σ φ=some F) (hst:F.st=st) (hsz:F.sz=sz) (hl:off+n≤F.es.length) (h:∀c,c∈F.es→c.length=sz):Sl σ sz (.own φ st off n) ((F.es.drop off).take n)
 |emp:Sl σ sz .emp []
 |nil:Sl σ sz (.val (.slice none 0 0)) []
theorem Sl.len {σ:AH} {sz:Nat} {a:AV} {es:List (List AV)} (h:Sl σ sz a es):lenS a=some (.val (.int .i64 es.length)):=by
 cases h with
 |ro _ h=>rfl
 |own φ st off n F hF hst hsz hl h=>simp[lenS];omega
 |emp=>rfl
 |nil=>rfl
theorem Sl.size {σ:AH} {sz:Nat} {a:AV} {es:List (List AV)} (h:Sl σ sz a es):∀c,c∈es→c.length=sz:=by
 cases h with
 |ro _ h=>exact h
 |own φ st off n F hF hst hsz hl h=>exact fun c hc=>h c (List.mem_of_mem_drop (List.mem_of_mem_take hc))
 |emp=>exact fun c hc=>by cases hc
 |nil=>exact fun c hc=>by cases hc
theorem Sl.idx {σ:AH} {sz:Nat} {a:AV} {es:List (List AV)} (h:Sl σ sz a es) {i:Nat} {c:List AV} (hi:es[i]? =some c):∃p,E.idx sz a (.val (.int .i64 (i:Int))) σ=some p∧At σ p c:=by
 have hsz:=h.size c (List.mem_of_getElem? hi);have hlt:=(List.getElem?_eq_some_iff.1 hi).1;cases h with
 |ro _ h=>
  refine ⟨.rop c 0,?_,.rop σ c⟩;simp only[E.idx];have h1:((i:Int)<es.length):=by omega
  rw[if_pos ⟨by omega,h1,by simpa[hi] using hsz⟩];simp[hi]
 |own φ st off n F hF hst hs hl h=>
  have hlt':i<n:=by simp at hlt;omega
  have e:F.es.getD (off+i) []=c:=by
   rw[List.getElem?_take,if_pos hlt',List.getElem?_drop] at hi;simp[List.getD,hi]
  refine ⟨.ptr φ st (off+i) 0,?_,?_⟩
  ·simp only[E.idx,hF];simp;omega
  ·rw[←e];exact .ptr hF hst (by omega)
 |emp=>simp at hlt
 |nil=>simp at hlt
theorem Sl.slc {σ:AH} {sz:Nat} {a:AV} {es:List (List AV)} (h:Sl σ sz a es) {lo hi:Option AV} {l k:Nat} (e1:abd lo 0=some l) (e2:abd hi es.length=some k) (h1:l≤k) (h2:k≤es.length):
  ∃b,E.slc sz a lo hi none σ=some b∧Sl σ sz b ((es.take k).drop l):=by
 cases h with
 |ro _ h=>
  refine ⟨.ro ((es.take k).drop l),?_,.ro _ fun c hc=>h c (List.mem_of_mem_take (List.mem_of_mem_drop hc))⟩;have e3:abd none es.length=some es.length:=id rfl;simp only[E.slc,e1,e2,e3];rw[if_pos];refine ⟨h1,h2,Nat.le_refl _,by simp,?_⟩;rw[List.all_eq_true];intro c hc;simpa using h c hc
 |own φ st off n F hF hst hs hl h=>
  have hlen:((F.es.drop off).take n).length=n:=by simp;omega
  rw[hlen] at e2 h2;refine ⟨.own φ st (off+l) (k - l),?_,?_⟩
  ·simp only[E.slc,hF,e1,e2];rw[if_pos];exact ⟨h1,h2,hst,hs⟩
  ·have e:(((F.es.drop off).take n).take k).drop l=(F.es.drop (off+l)).take (k - l):=by
    rw[List.take_take,Nat.min_eq_left (by omega),List.drop_take,List.drop_drop]
   rw[e];exact .own _ _ _ _ F hF hst hs (by omega) h
 |emp=>
  obtain rfl:k=0:=by simpa using h2
  obtain rfl:l=0:=by omega
  refine ⟨.emp,?_,by simpa using Sl.emp⟩;simp only[List.length_nil] at e2;simp only[E.slc,e1,e2]
 |nil=>
  obtain rfl:k=0:=by simpa using h2
  obtain rfl:l=0:=by omega
  refine ⟨.val (.slice none 0 0),?_,by simpa using Sl.nil⟩;simp only[List.length_nil] at e2;simp only[E.slc,e1,e2]
theorem QF {X:Type} {F:(X→AH→Prop)→X→AH→Prop} {x:X} {σ:AH} (I:Nat→X→AH→Prop) (n:Nat) (h0:I n x σ)
  (step:∀k x σ,I k x σ→∀R:X→AH→Prop,(∀x' σ' k' σ'',k'<k→AH.Sub σ'' σ'→I k' x' σ''→R x' σ')→F R x σ):lp F x σ:=by
 refine ⟨fun x σ=>∃k,I k x σ,fun x σ=>QfA fun k=>I k x σ,⟨n,h0⟩,?_⟩;intro x σ hx;refine step _ x σ (QpX hx) _ fun x' σ' k' σ'' hk hs hI=>⟨σ'',hs,⟨k',hI⟩,Nat.lt_of_le_of_lt (Qrg hI) hk⟩
theorem QeB {X:Type} {F:(X→AH→Prop)→X→AH→Prop} {x:X} {σ:AH} (n:Nat) (S:Nat→X) (H:Nat→AH→Prop) (hx:x=S 0) (h0:H 0 σ)
  (step:∀i σ,i≤n→H i σ→∀R:X→AH→Prop,(i<n→∀σ' σ'',AH.Sub σ'' σ'→H (i+1) σ''→R (S (i+1)) σ')→F R (S i) σ):lp F x σ:=by
 subst hx;refine QF (fun k x σ=>∃i,i≤n∧k=n - i∧x=S i∧H i σ) n ⟨0,Nat.zero_le _,rfl,rfl,h0⟩ ?_;rintro k x σ ⟨i,hi,rfl,rfl,hH⟩ R hR;refine step i σ hi hH R fun hlt σ' σ'' hs hH'=>hR _ _ (n - (i+1)) σ'' (by omega) hs ⟨i+1,hlt,rfl,rfl,hH'⟩
theorem QxV {X:Type} {F:(X→AH→Prop)→X→AH→Prop} {x:X} {σ:AH} (n:Nat) (S:Nat→X) (hx:x=S 0)
  (step:∀i,i≤n→∀R:X→AH→Prop,(i<n→∀σ',AH.Sub σ σ'→R (S (i+1)) σ')→F R (S i) σ):lp F x σ:=
 QeB n S (fun _ σ'=>σ'=σ) hx rfl fun i σ' hi e R hR=>by subst e;exact step i hi R fun hlt σ'' hs=>hR hlt σ'' _ hs rfl
theorem UV {X:Type} {F:(X→AH→Prop)→X→AH→Prop} {x:X} {σ:AH} (n:Nat) (S:Nat→X) (H:Nat→Prop) (hx:x=S 0) (h0:H 0)
  (step:∀i,i≤n→H i→∀R:X→AH→Prop,(i<n→H (i+1)→∀σ',AH.Sub σ σ'→R (S (i+1)) σ')→F R (S i) σ):lp F x σ:=
 QeB n S (fun i σ'=>σ'=σ∧H i) hx ⟨rfl,h0⟩ fun i σ' hi e R hR=>by
  obtain ⟨e,hH⟩:=e;subst e;exact step i hi hH R fun hlt hH' σ'' hs=>hR hlt σ'' _ hs ⟨rfl,hH'⟩
def QuK (T:Tab) (t:TypeId):Option (Nat × List AV × Bool):=match T t with
 |some ti=>match ti.under with
  | .slice e=>match T e with
   |some te=>some (te.size,te.zero.cells.toList.map .val,decide (te.bytes≤128))
   |none=>none
  |_=>none
 |none=>none
theorem QnS {T:Tab} {t:TypeId} {sz:Nat} {z:List AV} (hi:QuK T t=some (sz,z,true)) {n m:Int} {σ:AH} {k:AV→AH→Prop} (h0:0≤n) (h1:n≤m) (h2:m≤1099511627776)
  (h:∀φ,σ φ=none→k (.own φ 0 0 n.toNat) (σ.set φ ⟨0,sz,List.replicate m.toNat z⟩)):Qc3 T t (.val (.int .i64 n)) (.val (.int .i64 m)) σ k:=by
 unfold QuK at hi;unfold Qc3;split at hi
 case h_2=>cases hi
 rename_i ti ht;split at hi
 case h_2=>cases hi
 rename_i e hu;split at hi
 case h_2=>cases hi
 rename_i te hte;simp only[Option.some.injEq,Prod.mk.injEq,decide_eq_true_eq] at hi;obtain ⟨rfl,rfl,h3⟩:=hi;rw[ht];simp only[hu,hte];exact ⟨h0,h1,h2,h3,h⟩
def Buf (σ:AH) (sz:Nat) (a:AV) (es:List (List AV)):Prop:=
 ((a= .val (.slice none 0 0)∨a= .emp)∧es=[])∨∃φ st,a= .own φ st 0 es.length∧σ φ=some ⟨st,sz,es⟩
def Buf.fam (a:AV) (ψ:Nat):Prop:=∃st off n,a= .own ψ st off n
theorem Buf.app {σ:AH} {sz:Nat} {a x:AV} {es xs:List (List AV)} {k:AV→AH→Prop} (h:Buf σ sz a es) (hx:QL σ x=some xs) (hs:∀c,c∈xs→c.length=sz)
  (ho:∀c,c∈xs→∀y,y∈c→y.one=true) (hn:es.length+xs.length≤4294967296)
  (hk:∀a' σ',Buf σ' sz a' (es++xs)→(∀ψ,¬Buf.fam a ψ→σ ψ≠none→σ' ψ=σ ψ)→(∀ψ,Buf.fam a' ψ→Buf.fam a ψ∨σ ψ=none)→(∀ψ,¬Buf.fam a' ψ→σ' ψ=σ ψ)→k a' σ'):app sz a x σ k:=by
 unfold E.app;rw[hx];refine ⟨hs,?_⟩;rcases h with ⟨rfl|rfl,rfl⟩|⟨φ,st,rfl,hF⟩
 ·simp only;refine ⟨by simpa using hn,?_,?_⟩
  ·rintro rfl;exact hk _ _ (.inl ⟨.inl rfl,rfl⟩) (fun _ _ _=>rfl) (fun ψ h=> .inl h) (fun _ _=>rfl)
  ·intro hne φ hφ;refine hk _ _ (.inr ⟨φ,0,by simp,by simp⟩) (fun ψ _ h=>AH.set_ne' (by rintro rfl;exact h hφ)) (fun ψ ⟨st,off,n,e⟩=>?_) (fun ψ h=>AH.set_ne' (by rintro rfl;exact h ⟨_,_,_,rfl⟩));cases e;exact .inr hφ
 ·simp only;refine ⟨by simpa using hn,?_,?_⟩
  ·rintro rfl;exact hk _ _ (.inl ⟨.inr rfl,rfl⟩) (fun _ _ _=>rfl) (fun ψ h=> .inl h) (fun _ _=>rfl)
  ·intro hne φ hφ;refine hk _ _ (.inr ⟨φ,0,by simp,by simp⟩) (fun ψ _ h=>AH.set_ne' (by rintro rfl;exact h hφ)) (fun ψ ⟨st,off,n,e⟩=>?_) (fun ψ h=>AH.set_ne' (by rintro rfl;exact h ⟨_,_,_,rfl⟩));cases e;exact .inr hφ
 ·simp only[hF];refine ⟨trivial,trivial,by simp,by simpa using hn,ho,?_⟩;refine hk _ _ (.inr ⟨φ,if 0+es.length+xs.length≤es.length then st else st+1,by simp,?_⟩) (fun ψ h _=>AH.set_ne' (by rintro rfl;exact h ⟨_,_,_,rfl⟩)) (fun ψ ⟨st,off,n,e⟩=>?_) (fun ψ h=>AH.set_ne' (by rintro rfl;exact h ⟨_,_,_,rfl⟩))
  ·simp
  ·cases e;exact .inl ⟨_,_,_,rfl⟩
end
section
variable [Lam]
def Cs {X:Type} (f:X→AV) (σ:AH) (a:AV) (xs:List X):Prop:=Sl σ 1 a (xs.map fun x=>[f x])
theorem Cs.len {X:Type} {f:X→AV} {σ:AH} {a:AV} {xs:List X} (h:Cs f σ a xs):lenS a=some (.val (.int .i64 xs.length)):=by simpa using Sl.len h
theorem Cs.at {X:Type} {f:X→AV} {σ:AH} {a:AV} {xs:List X} (h:Cs f σ a xs) {i:Nat} (hi:i<xs.length):∃p,idx 1 a (.val (.int .i64 (i:Int))) σ=some p∧lod p σ=some (f xs[i])∧At σ p [f xs[i]]:=by
 obtain ⟨p,h1,h2⟩:=Sl.idx h (i:=i) (c:=[f xs[i]]) (by simp[hi]);exact ⟨p,h1,h2.lod,h2⟩
theorem Cs.ro {X:Type} (f:X→AV) (σ:AH) (xs:List X):Cs f σ (.ro (xs.map fun x=>[f x])) xs:=Sl.ro _ (by intro c hc;obtain ⟨x,_,rfl⟩:=List.mem_map.1 hc;rfl)
theorem Cs.slc {X:Type} {f:X→AV} {σ:AH} {a:AV} {xs:List X} (h:Cs f σ a xs) {lo hi:Option AV} {l k:Nat} (e1:abd lo 0=some l) (e2:abd hi xs.length=some k) (h1:l≤k) (h2:k≤xs.length):
  ∃b,E.slc 1 a lo hi none σ=some b∧Cs f σ b ((xs.take k).drop l):=by
 obtain ⟨b,g1,g2⟩:=Sl.slc h (lo:=lo) (hi:=hi) (l:=l) (k:=k) e1 (by simpa using e2) h1 (by simpa using h2);refine ⟨b,g1,?_⟩;unfold Cs;rw[List.map_drop,List.map_take];exact g2
theorem QxW:∀(xs cs:List AV) (pre:List AV),cs.length=xs.length→spl (pre++cs) pre.length xs=pre++xs:=by
 intro xs
 induction xs with
 |nil=>intro cs pre h;obtain rfl:=List.eq_nil_of_length_eq_zero (by simpa using h);simp[spl]
 |cons x xs ih=>
  intro cs pre h;match cs,h with
  |c::cs,h=>
   have:=ih cs (pre++[x]) (by simpa using h);unfold spl;simpa using this
theorem QH {σ:AH} {φ st i sz:Nat} {es:List (List AV)} {v:AV} {cs:List AV} {k:AH→Prop} (hF:σ φ=some ⟨st,sz,es⟩) (hi:i<es.length) (hl:(es.getD i []).length=sz)
  (hv:JF v=some cs) (hc:cs.length=sz) (h1:∀x,x∈cs→x.one=true) (h:k (σ.set φ ⟨st,sz,es.set i cs⟩)):sto sz (.ptr φ st i 0) v σ k:=by
 unfold sto;simp only[hv];refine ⟨hc,h1,_,hF,rfl,hi,by simp;omega,?_⟩;have:Fam.splice ⟨st,sz,es⟩ i 0 cs=⟨st,sz,es.set i cs⟩:=by
  unfold Fam.splice;have:=QxW cs (es.getD i []) [] (by omega);simp only[List.nil_append,List.length_nil] at this;simp only[this]
 rw[this];exact h
theorem Jg {σ:AH} {φ st off n sz i:Nat} {es:List (List AV)} (hF:σ φ=some ⟨st,sz,es⟩) (hi:i<n):idx sz (.own φ st off n) (.val (.int .i64 (i:Int))) σ=some (.ptr φ st (off+i) 0):=by
 simp only[idx,hF];rw[if_pos ⟨by omega,by omega,trivial,trivial⟩];simp
section
variable {P:Program} {m:Nat} {t e:TypeId} {as:List AV}
theorem Qrv (hu:P.underlying t=some .bool) (h:Sh P (m+1) t as):∃b,as=[.val (.bool b)]:=by
 simpa only[Sh,hu] using h
theorem QsS {k:IntKind} (hu:P.underlying t=some (.int k)) (h:Sh P (m+1) t as):∃n,as=[.val (.int k n)]∧(Lit.int k n).wf=true:=by
 simpa only[Sh,hu] using h
theorem QxX (hu:P.underlying t=some .string) (h:Sh P (m+1) t as):∃s:ByteArray,as=[.val (.string s)]∧s.size≤maxLen:=by
 simpa only[Sh,hu] using h
theorem QtB {fs:Array Field} (hu:P.underlying t=some (.struct fs)) (h:Sh P (m+1) t as):as.length=P.cellsOf t∧∀f,f∈fs.toList→Sh P m f.type ((as.drop f.offset).take (P.cellsOf f.type)):=by
 simpa only[Sh,hu] using h
theorem Qrw {fs:Array Field} (hu:P.underlying t=some (.struct fs)):Qlf P t as= .agg as:=by simp only[Qlf,hu]
theorem QuL (hu:P.underlying t=some .string) (x:AV):Qlf P t [x]=x:=by simp only[Qlf,hu];rfl
end
end
section
variable [Lam]
theorem Fz.agg2 {σ σ':AH} {a b c d:AV} (h:Fz σ σ' a c) (k:Fz σ σ' b d):Fz σ σ' (.agg [a,b]) (.agg [c,d]):=by
 refine .agg rfl fun i hi=>?_
 match i,hi with
 |0,_=>exact h
 |1,_=>exact k
theorem Ua {X:Type} {F:(X→AH→Prop)→X→AH→Prop} {x:X} {σ:AH} (n:Nat) (I:Nat→X→AH→Prop) (h0:I 0 x σ)
  (step:∀i x σ,i≤n→I i x σ→∀R:X→AH→Prop,(∀x' σ' σ'',i<n→AH.Sub σ'' σ'→I (i+1) x' σ''→R x' σ')→F R x σ):lp F x σ:=by
 refine QF (fun k x σ=>∃i,i≤n∧k=n - i∧I i x σ) n ⟨0,Nat.zero_le _,rfl,h0⟩ ?_;rintro k x σ ⟨i,hi,rfl,hI⟩ R hR;exact step i x σ hi hI R fun x' σ' σ'' hlt hs hI'=>hR x' σ' (n - (i+1)) σ'' (by omega) hs ⟨i+1,hlt,rfl,hI'⟩
theorem Qz {σ:AH} {φ st i off:Nat} {F:Fam} {c:AV} (hF:σ φ=some F) (hst:F.st=st) (h:(F.es.getD i [])[off]? =some c):lod (.ptr φ st i off) σ=some c:=by
 have hi:i<F.es.length:=by
  rcases Nat.lt_or_ge i F.es.length with hi|hi
  ·exact hi
  ·rw[show F.es.getD i []=[] from by simp[List.getD,List.getElem?_eq_none hi]] at h;cases h
 have ho:=(List.getElem?_eq_some_iff.1 h).1;have e:Ja σ (.ptr φ st i off)=some ((F.es.getD i []).drop off):=by simp[Ja,hF,hst,hi]
 unfold lod;rw[e,List.drop_eq_getElem_cons ho];simp only[(List.getElem?_eq_some_iff.1 h).2]
theorem UG {σ:AH} {φ st i n:Nat} {F:Fam} {cs:List AV} (hF:σ φ=some F) (hst:F.st=st) (h:F.es[i]? =some cs) (hn:cs.length=n):lodA n (.ptr φ st i 0) σ=some (.agg cs):=by
 have hi:=(List.getElem?_eq_some_iff.1 h).1;have e:Ja σ (.ptr φ st i 0)=some cs:=by simp[Ja,hF,hst,hi];exact (List.getElem?_eq_some_iff.1 h).2
 unfold lodA;rw[e];subst hn;simp
theorem Buf.fam_some {σ:AH} {sz:Nat} {a:AV} {es:List (List AV)} (h:Buf σ sz a es) {ψ:Nat} (hf:Buf.fam a ψ):∃F,σ ψ=some F:=by
 obtain ⟨_,_,_,rfl⟩:=hf;rcases h with ⟨e|e,_⟩|⟨φ,st,e,hF⟩
 ·cases e
 ·cases e
 ·cases e;exact ⟨_,hF⟩
theorem Buf.keep {σ σ':AH} {sz:Nat} {a:AV} {es:List (List AV)} (h:Buf σ sz a es) (hk:∀ψ,Buf.fam a ψ→σ' ψ=σ ψ):Buf σ' sz a es:=by
 rcases h with h|⟨φ,st,rfl,hF⟩
 ·exact .inl h
 ·exact .inr ⟨φ,st,rfl,by rw[hk φ ⟨_,_,_,rfl⟩];exact hF⟩
theorem Q4 {σ:AH} {φ st i off sz:Nat} {es:List (List AV)} {v:AV} {cs:List AV} {k:AH→Prop} (hF:σ φ=some ⟨st,sz,es⟩) (hi:es[i]? =some cs) (ho:off<sz)
  (hv:JF v=some [v]) (h1:v.one=true) (h:k (σ.set φ ⟨st,sz,es.set i (cs.set off v)⟩)):sto 1 (.ptr φ st i off) v σ k:=by
 unfold sto;simp only[hv];refine ⟨rfl,by simpa using h1,_,hF,rfl,(List.getElem?_eq_some_iff.1 hi).1,ho,?_⟩;have:Fam.splice ⟨st,sz,es⟩ i off [v]=⟨st,sz,es.set i (cs.set off v)⟩:=by
  unfold Fam.splice;have e:es.getD i []=cs:=by simp[List.getD,hi]
  simp only[e];rfl
 rw[this];exact h
end
section
theorem Jh {W w:World} {B g o:Nat} {v:Value} (h:W.cell? ⟨g,o,none⟩=some v) (hb:Below B W w) (hB:W.heap.size≤B):w.cell? ⟨g,o,none⟩=some v:=by
 have hl:g<B:=Nat.lt_of_lt_of_le (World.block_lt_of_cell? (h:=h)) hB;exact (hb.cell (p:=⟨g,o,none⟩) hl).trans h
theorem QfG {P:Program} {W w:World} {B:Nat} {name:String} {k:IntKind} {zs:List Int} (h:Lib.TabIs P W name k zs) (hb:Below B W w) (hB:W.heap.size≤B):Lib.TabIs P w name k zs:=by
 unfold Lib.TabIs World.var? at h ⊢;cases hg:P.globalNamed name with
 |none=>rw[hg] at h;cases h
 |some g=>
  rw[hg] at h;simp only[Option.bind_some] at h ⊢;have hl:g<W.heap.size:=by
   rcases Nat.lt_or_ge g W.heap.size with h'|h'
   ·exact h'
   ·rw[Array.getElem?_eq_none h'] at h;cases h
  rw[hb.block g (by omega)];exact h
section
variable [L:Lam]
theorem Stp.below {κ:Kap} {σ:AH} {w w':World} (hr:Rel κ σ w) (h:Below w.heap.size w w'):Stp κ σ w κ σ w':=by
 have other:∀b,b<w.heap.size→w'.heap[b]? =w.heap[b]? :=h.block;refine ⟨.refl _,⟨?_,hr.inj,?_,hr.off,hr.up,hr.fin,?_,hr.bw,?_,hr.kp⟩,⟨h.size,?_,fun φ hn _=>⟨hn,fun _=>rfl⟩⟩⟩
 ·intro φ F hF;obtain ⟨r,h1,h2,h3⟩:=hr.has φ F hF;exact ⟨r,h1,h2,h3.same (.refl κ) (other _ (hr.block_lt hF h1))⟩
 ·intro b o v hM;rw[cell?_heap (other b (hr.mem_lt hM))];exact hr.mem b o v hM
 ·exact hr.bel.trans (h.mono hr.bsize)
 ·intro l o hl;obtain ⟨h1,h2⟩:=hr.obj l o hl;exact ⟨by rw[other l (Array.getElem?_eq_some_iff.1 h1).1];exact h1,h2⟩
 ·intro b hb hu;exact ⟨other b hb,fun _=>rfl,hu⟩
theorem Qp6 {P : Program} {f : FuncId} {fn : Func} {args : List AV} {vs0 : List Value} {v : Value} {σ : AH} {R : AEnd → AH → Prop} (hf : P.funcs[f]? = some fn) (hb : fn.body.isNone = false) (hg : (fn.name == "runtime.NumGoroutine") = false)
  (ha:∀κ vs,VRs κ args vs→vs=vs0) (h:R (.ret (.val v)) σ) (hc:∀κ w,Rel κ σ w→Calls P f vs0.toArray w fun e w'=>e= .returned v∧Below w.heap.size w w'):acall P f args σ R:=by
 refine ⟨fn,hf,hb,hg,fun κ w vs hr hv=>?_⟩;rw[ha κ vs hv];refine (hc κ w hr).mono ?_;rintro e w' ⟨rfl,hw⟩;exact ⟨κ,_,σ,h,.below hr hw,.val v⟩
theorem QtC {P : Program} {f : FuncId} {fn : Func} {args : List AV} {vs0 : List Value} {v : Value} {a : AV} {σ : AH} {R : AEnd → AH → Prop} (hf : P.funcs[f]? = some fn) (hb : fn.body.isNone = false) (hg : (fn.name == "runtime.NumGoroutine") = false)
  (ha:∀κ vs,VRs κ args vs→vs=vs0) (hv:∀κ,VR κ a v) (h:R (.ret a) σ) (hc:∀κ w,Rel κ σ w→Calls P f vs0.toArray w fun e w'=>e= .returned v∧Below w.heap.size w w'):acall P f args σ R:=by
 refine ⟨fn,hf,hb,hg,fun κ w vs hr hvs=>?_⟩;rw[ha κ vs hvs];refine (hc κ w hr).mono ?_;rintro e w' ⟨rfl,hw⟩;exact ⟨κ,_,σ,h,.below hr hw,hv κ⟩
theorem QmD {a b:Value} (κ:Kap) (vs:List Value) (h:VRs κ [.val a,.val b] vs):vs=[a,b]:=by
 have hl:=h.1;match vs,hl with
 |[x,y],_=>
  have h0:VR κ (.val a) x:=h.2 0 (by simp);have h1:VR κ (.val b) y:=h.2 1 (by simp);cases h0;cases h1;rfl
class Knows (Q:World→Prop):Prop where
 knows:∀κ,L.kp κ→Q κ.W∧κ.W.heap.size≤κ.B
end
abbrev lamQ (Q:World→Prop):Lam:=⟨fun _=>none,fun κ=>Q κ.W∧κ.W.heap.size≤κ.B,fun κ κ' E h=>by rw[E.W,E.B];exact h⟩
theorem QuM (Q:World→Prop):@Knows (lamQ Q) Q:=@Knows.mk (lamQ Q) Q (fun _ h=>h)
theorem relQ {Q:World→Prop} (W:World) (h:Q W):@Rel (lamQ Q) (kap0 W) ah0 W:=
 @Rel.mk (lamQ Q) (kap0 W) ah0 W (fun _ _ h=>by cases h) (fun _ _ _ _ _ _ h=>by cases h) (fun _ _ _ h=>h) (fun _ _ _ h=>by cases h) (fun _ _ _ h=>by cases h) ⟨0,fun _ _=>⟨rfl,fun _=>rfl⟩⟩ (Below.refl _ _) (Nat.le_refl _) (fun _ _ h=>by cases h) ⟨h,Nat.le_refl _⟩
theorem QtD {P:Program} {f:FuncId} {args:List AV} {vs:List Value} {W:World} {Q:World→Prop} (hQ:Q W) (h:@acall (lamQ Q) P f args ah0 (fun e _=>e= .ret (.val (.bool true)))) (hv:VRs (kap0 W) args vs):
  Calls P f vs.toArray W fun e w'=>e= .returned (.bool true)∧Below W.heap.size W w':=by
 letI:Lam:=lamQ Q
 obtain ⟨fn,h1,h2,h3,h4⟩:=h;refine (h4 (kap0 W) W vs (relQ W hQ) hv).mono ?_;rintro e w' ⟨κ',ae,σ',rfl,hs,hE⟩;have hb:=hs.rel.bel;rw[hs.ext.B,hs.ext.W] at hb;cases e with
 |returned v=>cases hE;exact ⟨rfl,hb⟩
 |_=>exact hE.elim
end
end Go.Proofs.YtggnjjalfnhiiaaGreatDoor.E

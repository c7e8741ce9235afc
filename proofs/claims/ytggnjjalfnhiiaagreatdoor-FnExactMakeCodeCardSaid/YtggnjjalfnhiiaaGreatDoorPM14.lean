import Derived.Test.YtggnjjalfnhiiaaGreatDoorPM13
import Derived.Test.YtggnjjalfnhiiaaGreatDoorRows
import Derived.LaidLaws
import Derived.Lib.LaidU8
import Derived.Shelf.Vars
/- ParseNum, strings.Cut, IndexByte and IndexAny as calls in abstract values. -/
set_option linter.unusedSectionVars false
set_option linter.unusedSimpArgs false
set_option linter.unusedVariables false
namespace Go.Proofs.YtggnjjalfnhiiaaGreatDoor.E
open Go Go.RowKit
set_option maxRecDepth 100000
def QS (w:World):Prop:=NumW w∧∃m:Int,w.cell? ⟨1,0,none⟩=some (.int .i64 m)
section
variable [L:Lam]
end
variable [L:Lam] [K:Knows QS]
theorem QvZ {κ:Kap} {σ:AH} {w:World} (hr:Rel κ σ w):QS w:=by
 obtain ⟨⟨h1,m,h2⟩,hB⟩:=K.knows κ hr.kp
 exact ⟨h1.below hr.bel hB,m,Qcf h2 hr.bel hB⟩
variable {σ:AH} {R:AEnd→AH→Prop}
theorem Qnm {s:ByteArray} (hs:s.size≤1048576) (h:R (.ret (.agg [iv (numP s).2,iv (numP s).1])) σ):acall TP QlQ [str s] σ R:=by
 refine ⟨_,Tryz.func221,rfl,by decide,fun κ w vs hr hv=>?_⟩
 obtain ⟨v,rfl⟩:∃v,vs=[v]:=by
  have:=hv.1
  match vs,this with
  |[a],_=>exact ⟨a,rfl⟩
 have e1:v= .string s:=by have h:VR κ (str s) v:=hv.2 0 (by simp);cases h;rfl
 subst e1
 refine (Qsv s (by omega) w (QvZ hr).1).mono ?_
 rintro e w' ⟨rfl,hw⟩
 refine ⟨κ,_,σ,h,.below hr hw,?_⟩
 show VR κ (.agg [iv (numP s).2,iv (numP s).1]) (.agg [Value.int .i64 (numP s).2,Value.int .i64 (numP s).1].toArray)
 refine .agg rfl fun i hi=>?_
 match i,hi with
 |0,_=>exact .val _
 |1,_=>exact .val _
theorem Qrd (w:World) (n:Nat):Below w.heap.size w (w.drewN n):=⟨rfl,rfl,rfl,Nat.le_refl _,fun _ _=>rfl⟩
theorem Qpr {l p:List UInt8} (hl:l.length≤1048576) (h:R (.ret (.tup [str (bs (Lib.cut l p).1),str (bs (Lib.cut l p).2.1),bv (Lib.cut l p).2.2])) σ):acall TP Qn9 [str (bs l),str (bs p)] σ R:=by
 refine Qsh (fn:=_) (v:= .tuple #[.string (bs (Lib.cut l p).1),.string (bs (Lib.cut l p).2.1),.bool (Lib.cut l p).2.2]) Tryz.func182 rfl (by decide) QlO (fun κ=>?_) h fun κ w hr=>?_
 ·show VR κ (.tup _) (.tuple [Value.string (bs (Lib.cut l p).1),.string (bs (Lib.cut l p).2.1),.bool (Lib.cut l p).2.2].toArray)
  refine .tup rfl fun i hi=>?_
  match i,hi with
  |0,_=>exact .val _
  |1,_=>exact .val _
  |2,_=>exact .val _
 ·obtain ⟨m,hm⟩:=(QvZ hr).2
  refine (Qot (bs l) (bs p) m w (by rw [Qo];omega) hm).mono ?_
  rintro e w' ⟨rfl,n,rfl⟩
  exact ⟨by simp,Qrd w n⟩
theorem Qi8 {l:List UInt8} {c:UInt8} (h:R (.ret (iv (Lib.indexByte l c))) σ):acall TP QhO [str (bs l),u8v (c.toNat:Nat)] σ R:=by
 refine QoU (fn:=_) Tryz.func183 rfl (by decide) QlO h fun κ w hr=>(Qh6 (bs l) (c.toNat:Nat) w).mono ?_
 rintro e w' ⟨rfl,rfl⟩
 exact ⟨by simp,.refl _ _⟩
theorem Qx6:(Tryz.prog.info? 220).map (fun i=>(i.zero,i.size))=some (some (.agg (Array.replicate 256 (.bool false))),256):=by kernel_rfl
theorem Qj9 {l p:List UInt8} (hl:l.length≤1048576) (h4:4≤p.length) (hp:p.length≤1000) (ha:∀c,c∈p→c.toNat<128) (h:R (.ret (iv (Lib.indexAny l p))) σ):acall TP QiY [str (bs l),str (bs p)] σ R:=by
 have hasc:∀(j:Nat) b,(bs p).data.toList[j]? =some b→b.toNat<128:=fun j b hb=>ha b (by simpa using List.mem_of_getElem? hb)
 refine QoU (fn:=_) Tryz.func184 rfl (by decide) QlO h fun κ w hr=>?_
 by_cases c:8<l.length
 ·refine (Qe1 (zero_of_info Qx6).1 (bs l) (bs p) w (by rw [Qo];omega) (by rw [Qo];omega) (by rw [Qo];omega) (by rw [Qo];omega) hasc).mono ?_
  rintro e w' ⟨rfl,rfl⟩
  exact ⟨by simp,.alloc (.alloc (.refl _ _) (Nat.le_refl _) _) (by simp) _⟩
 ·refine (Qou QrC (bs l) (bs p) w (by rw [Qo];omega) (by rw [Qo];omega) (by rw [Qo];omega) hasc).mono ?_
  rintro e w' ⟨rfl,hw⟩
  exact ⟨by simp,hw⟩
end Go.Proofs.YtggnjjalfnhiiaaGreatDoor.E
/- What a row's condition tells of the first world. -/
namespace Go.Proofs.YtggnjjalfnhiiaaGreatDoor.E
open Go Go.RowKit
set_option maxRecDepth 100000
theorem QzT {P:Program} {W:World} {name:String} {k:IntKind} {zs:List Int} {g:Nat} {t e:TypeId} {n:Nat}
  (hg:P.globalNamed name=some g) (hty:(P.globals[g]?).map (·.type)=some t) (ht:P.underlying t=some (.array n e)) (he:P.underlying e=some (.int k)) (hce:P.cellsOf e=1) (hct:P.cellsOf t=n)
  (h:Lib.VarReads P W name (Lib.tabData k zs)):Lib.TabIs P W name k zs:=by
 obtain ⟨g',t',cs,fuel,p,hg',ht',hvar,hd⟩:=h
 obtain rfl:=Option.some.inj (hg.symm.trans hg')
 obtain rfl:=Option.some.inj (hty.symm.trans ht')
 unfold Lib.TabIs
 rw [hvar,←Lib.cells_of_tab ht he hce hct hd]
theorem Qtz {P:Program} {W:World} {name nm:String} {d:DataW Unit} {g:Nat} {t:TypeId} {ms:Array (String × TypeId)}
  (hg:P.globalNamed name=some g) (hty:(P.globals[g]?).map (·.type)=some t) (ht:P.underlying t=some (.interface ms))
  (h:Lib.VarReads P W name (.iface nm d)):∃ev,W.cell? ⟨g,0,none⟩=some ev∧(ev= .nilIface∨∃te pe,ev= .iface te pe):=by
 obtain ⟨g',t',cs,fuel,p,hg',ht',hvar,hd⟩:=h
 obtain rfl:=Option.some.inj (hg.symm.trans hg')
 obtain rfl:=Option.some.inj (hty.symm.trans ht')
 obtain ⟨_,u,v,e,_,_⟩:=iface_of_trod ht hd
 refine ⟨.iface u v,?_,.inr ⟨u,v,rfl⟩⟩
 have:=World.var?_cell hg hvar 0
 rw [this]
 have e2:cs=#[.iface u v]:=by rw [←e]
 rw [e2]
 rfl
theorem QAe {W : World} {l : List (String × DataW Unit)} (hl : laidMet Tryz.prog l W) (h1 : ("internal/strconv.uint64pow10", Rows.laid_internal_strconv_uint64pow10) ∈ l)
  (h2 : ("strconv.ErrSyntax", Rows.laid_strconv_ErrSyntax) ∈ l) (h3 : ("strconv.ErrRange", Rows.laid_strconv_ErrRange) ∈ l) (hs : W.ShapedOpen Tryz.prog) : QS W := by
 refine ⟨⟨?_,?_,?_⟩,?_⟩
 ·exact QzT (g:=0) (t:=180) (e:=134) (n:=20) (by kernel_rfl) (by kernel_rfl) Tryz.underlying180 Tryz.underlying134 (by kernel_rfl) (by kernel_rfl) (Lib.laidMet.reads hl h1)
 ·exact Qtz (g:=6) (t:=63) (by kernel_rfl) (by kernel_rfl) Tryz.underlying63 (Lib.laidMet.reads hl h2)
 ·exact Qtz (g:=7) (t:=63) (by kernel_rfl) (by kernel_rfl) Tryz.underlying63 (Lib.laidMet.reads hl h3)
 ·exact cell_of_shapedOpen_int (P:=Tryz.prog) (g:=1) (t:=3) (zero:=#[.int .i64 0]) hs (of_decide_eq_true (by kernel_rfl)) (by kernel_rfl) rfl (by kernel_rfl) (by kernel_rfl) Tryz.underlying3
end Go.Proofs.YtggnjjalfnhiiaaGreatDoor.E
/- Cores that are made to code: the plain law. No program in sight. -/
namespace Go.Proofs.YtggnjjalfnhiiaaGreatDoor.E
open Go Go.RowKit
def Qi (cs:List Cor) (i:Nat):Cor:=cs.getD i default
def QE (cs:List Cor) (x:Nat):List Nat:=(List.range cs.length).filter fun i=>decide ((Qi cs i).parent=(x:Int))
abbrev St:=List (Int × List OpD)
def putS (B:St) (i:Nat) (o:OpD):St:=B.modify i fun p=>(p.1,p.2++[o])
def setS (B:St) (i k:Nat) (a:Int):St:=B.modify i fun p=>(p.1,p.2.modify k fun o=>{o with a:=a})
def Qd (B:St) (i:Nat):Nat:=(B.getD i (0,[])).2.length
def oc0 (k:Int):OpD:=⟨k,0,0,0,0,⟨#[]⟩,[]⟩
def ocA (k a:Int):OpD:=⟨k,a,0,0,0,⟨#[]⟩,[]⟩
def ocAB (k a b:Int):OpD:=⟨k,a,b,0,0,⟨#[]⟩,[]⟩
def ocN (k:Int) (s:ByteArray):OpD:=⟨k,0,0,0,0,s,[]⟩
def ocD (k:Int) (d:List Dat):OpD:=⟨k,0,0,0,0,⟨#[]⟩,d⟩
def endS (B:St) (i:Nat) (e:Bool):St:=if e then putS B i (oc0 12) else B
def Qq (g:Nat→St→St) (h:St→St):List Nat→St→St
 |[],B=>B
 |k::r,B=>Qq g h r (h (g k B))
def mkC (cs:List Cor):Nat→Nat→Nat→Bool→St→St
 |0,_,_,_,B=>B
 |f+1,x,i,e,B=>
  let c:=Qi cs x
  let ks:=QE cs x
  if c.kind=1 then endS (putS B i (ocD 1 c.data)) i e
  else if c.kind=2 then endS (putS B i (ocAB 2 c.a c.b)) i e
  else if c.kind=3 then endS (putS B i (ocN 3 c.name)) i e
  else if c.kind=5 then endS (mkC cs f (ks.getD 0 0) B.length true (putS (B++[(c.a,[])]) i (ocA 4 (B.length:Int)))) i e
  else if c.kind=7∨c.kind=8 then endS (putS (mkC cs f (ks.getD 0 0) i false B) i (ocN (c.kind - 7+8) c.name)) i e
  else if c.kind=4 then
   let B1:=mkC cs f (ks.getD 0 0) i false B
   let B2:=mkC cs f (ks.getD 1 0) i e (putS B1 i (oc0 6))
   let B3:=if e then B2 else putS B2 i (oc0 5)
   let B4:=setS B3 i (Qd B1 i) (Qd B3 i:Int)
   let B5:=mkC cs f (ks.getD 2 0) i e B4
   if e then B5 else setS B5 i (Qd B2 i) (Qd B5 i:Int)
  else if c.kind=6 then mkC cs f (ks.getLastD 0) i e (Qq (fun k B=>mkC cs f k i false B) (fun B=>putS B i (oc0 7)) ks.dropLast B)
  else putS (Qq (fun k B=>mkC cs f k i false B) id ks B) i (ocA (if e then 11 else 10) ((ks.length:Int) - 1))
theorem JY {X:Type} (l:List X) (i j:Nat) (f:X→X) (d:X):(l.modify i f).getD j d=if i=j∧j<l.length then f (l.getD j d) else l.getD j d:=by
 simp only [List.getD,List.getElem?_modify]
 by_cases h:i=j
 ·subst h
  by_cases h2:i<l.length
  ·simp [h2]
  ·simp [h2]
 ·simp [h]
theorem Q8 (B:St) (i:Nat) (o:OpD):(putS B i o).length=B.length:=by simp [putS]
theorem QaV (B:St) (i k:Nat) (a:Int):(setS B i k a).length=B.length:=by simp [setS]
theorem Qac (B:St) (i j:Nat) (o:OpD):Qd (putS B i o) j=if i=j∧j<B.length then Qd B j+1 else Qd B j:=by
 unfold Qd putS
 rw [JY]
 split<;>simp
theorem QaN (B:St) (i j k:Nat) (a:Int):Qd (setS B i k a) j=Qd B j:=by
 unfold Qd setS
 rw [JY]
 split<;>simp
theorem Qly {X:Type} (l:List X) {i j:Nat} (h:i≠j) (f g:X→X):(l.modify i f).modify j g=(l.modify j g).modify i f:=by
 apply List.ext_getElem (by simp)
 intro k h1 h2
 simp only [List.getElem_modify]
 by_cases c1:i=k<;>by_cases c2:j=k
 ·omega
 ·simp [c1,c2]
 ·simp [c1,c2]
 ·simp [c1,c2]
theorem Qsy {X:Type} (l r:List X) {i:Nat} (h:i<l.length) (f:X→X):(l++r).modify i f=l.modify i f++r:=by
 apply List.ext_getElem (by simp)
 intro k h1 h2
 simp only [List.getElem_modify,List.getElem_append,List.length_modify]
 by_cases c:k<l.length
 ·simp [c]
 ·have:¬i=k:=by omega
  simp [c,this]
theorem Qam {B:St} {i j:Nat} (h:i≠j) (o q:OpD):putS (putS B i o) j q=putS (putS B j q) i o:=Qly _ h _ _
theorem Qov {B:St} {i j:Nat} (h:i≠j) (o:OpD) (k:Nat) (a:Int):setS (putS B i o) j k a=putS (setS B j k a) i o:=Qly _ h _ _
theorem Qva {B:St} {i:Nat} (h:i<B.length) (o:OpD) (r:St):putS B i o++r=putS (B++r) i o:=(Qsy _ _ h _).symm
theorem JZ {B:St} {i j:Nat} (h:i≠j) (o:OpD):Qd (putS B i o) j=Qd B j:=by rw [Qac,if_neg fun c=>h c.1]
theorem Qht {B:St} {i j:Nat} (h:i≠j) (o:OpD) (e:Bool):endS (putS B i o) j e=putS (endS B j e) i o:=by
 cases e
 ·rfl
 ·exact Qam h _ _
def leS (B B':St):Prop:=B.length≤B'.length∧∀i,i<B.length→Qd B i≤Qd B' i
theorem leS.refl (B:St):leS B B:=⟨Nat.le_refl _,fun _ _=>Nat.le_refl _⟩
theorem leS.trans {A B C:St} (h:leS A B) (k:leS B C):leS A C:=⟨Nat.le_trans h.1 k.1,fun i hi=>Nat.le_trans (h.2 i hi) (k.2 i (Nat.lt_of_lt_of_le hi h.1))⟩
theorem QV (B:St) (i:Nat) (o:OpD):leS B (putS B i o):=⟨by rw [Q8];exact Nat.le_refl _,fun j _=>by rw [Qac];split<;>omega⟩
theorem Qan (B:St) (i k:Nat) (a:Int):leS B (setS B i k a):=⟨by rw [QaV];exact Nat.le_refl _,fun j _=>by rw [QaN];exact Nat.le_refl _⟩
theorem JP (B:St) (i:Nat) (e:Bool):leS B (endS B i e):=by
 cases e
 ·exact .refl B
 ·exact QV _ _ _
theorem Qh7 (B r:St):leS B (B++r):=⟨by simp,fun i hi=>by unfold Qd;simp only [List.getD,List.getElem?_append_left hi];exact Nat.le_refl _⟩
theorem Qad {g:Nat→St→St} {h:St→St} (hg:∀k B,leS B (g k B)) (hh:∀B,leS B (h B)):∀ks B,leS B (Qq g h ks B):=by
 intro ks
 induction ks with
 |nil=>intro B;exact .refl B
 |cons k r ih=>intro B;exact ((hg k B).trans (hh _)).trans (ih _)
theorem QM (cs:List Cor):∀f x i e B,leS B (mkC cs f x i e B):=by
 intro f
 induction f with
 |zero=>intro x i e B;exact .refl B
 |succ f ih=>
  intro x i e B
  rw [mkC]
  dsimp only
  split;· exact (QV ..).trans (JP ..)
  split;· exact (QV ..).trans (JP ..)
  split;· exact (QV ..).trans (JP ..)
  split;· exact (((Qh7 ..).trans (QV ..)).trans (ih ..)).trans (JP ..)
  split;· exact ((ih ..).trans (QV ..)).trans (JP ..)
  split
  ·cases e
   ·exact (((((((ih ..).trans (QV ..)).trans (ih ..)).trans (QV ..)).trans (Qan ..)).trans (ih ..))).trans (Qan ..)
   ·exact (((((ih ..).trans (QV ..)).trans (ih ..)).trans (Qan ..)).trans (ih ..))
  split;· exact (Qad (fun k B=>ih ..) (fun B=>QV ..) _ _).trans (ih ..)
  exact (Qad (fun k B=>ih ..) (fun B=> .refl B) _ _).trans (QV ..)
theorem Qqs {g:Nat→St→St} {h:St→St} {i:Nat} {o:OpD} (hg:∀k B,i<B.length→g k (putS B i o)=putS (g k B) i o) (hh:∀B,h (putS B i o)=putS (h B) i o) (hl:∀k B,leS B (g k B)) (hl2:∀B,leS B (h B)):
  ∀ks B,i<B.length→Qq g h ks (putS B i o)=putS (Qq g h ks B) i o:=by
 intro ks
 induction ks with
 |nil=>intro B _;rfl
 |cons k r ih=>intro B hi;rw [Qq,Qq,hg k B hi,hh,ih _ (Nat.lt_of_lt_of_le hi ((hl k B).trans (hl2 _)).1)]
theorem Qx7 (cs:List Cor) {i:Nat} {o:OpD}:∀f x j e B,i≠j→i<B.length→mkC cs f x j e (putS B i o)=putS (mkC cs f x j e B) i o:=by
 intro f
 induction f with
 |zero=>intro x j e B _ _;rfl
 |succ f ih=>
  intro x j e B hij hi
  have lt:∀{C:St},leS B C→i<C.length:=fun h=>Nat.lt_of_lt_of_le hi h.1
  rw [mkC,mkC]
  dsimp only
  split;· rw [Qam hij,Qht hij]
  split;· rw [Qam hij,Qht hij]
  split;· rw [Qam hij,Qht hij]
  split
  ·rw [Q8,Qva hi,Qam hij,ih _ _ _ _ (by omega) (lt ((Qh7 ..).trans (QV ..))),Qht hij]
  split;· rw [ih _ _ _ _ hij hi,Qam hij,Qht hij]
  split
  ·have k1:i<(mkC cs f ((QE cs x).getD 0 0) j false B).length:=lt (QM ..)
   have k2:i<(putS (mkC cs f ((QE cs x).getD 0 0) j false B) j (oc0 6)).length:=by rw [Q8];exact k1
   have k3:i<(mkC cs f ((QE cs x).getD 1 0) j e (putS (mkC cs f ((QE cs x).getD 0 0) j false B) j (oc0 6))).length:=Nat.lt_of_lt_of_le k2 (QM ..).1
   rw [ih _ _ _ _ hij hi,Qam hij,ih _ _ _ _ hij k2]
   cases e
   ·simp only [Bool.false_eq_true,if_false]
    rw [Qam hij,JZ hij,JZ hij,Qov hij,ih _ _ _ _ hij (by rw [QaV,Q8];exact k3),JZ hij,JZ hij,Qov hij]
   ·simp only [if_true]
    rw [JZ hij,JZ hij,Qov hij,ih _ _ _ _ hij (by rw [QaV];exact k3)]
  split
  ·rw [Qqs (h:=fun B=>putS B j (oc0 7)) (fun k B hB=>ih _ _ _ _ hij hB) (fun B=>Qam hij _ _) (fun k B=>QM ..) (fun B=>QV ..) _ _ hi]
   exact ih _ _ _ _ hij (lt (Qad (fun k B=>QM ..) (fun B=>QV ..) _ _))
  rw [Qqs (h:=id) (fun k B hB=>ih _ _ _ _ hij hB) (fun B=>rfl) (fun k B=>QM ..) (fun B=> .refl B) _ _ hi,Qam hij]
def fits (B:St):Prop:=B.length≤60∧∀i,i<B.length→Qd B i≤200
theorem fits.of_le {B C:St} (h:leS B C) (k:fits C):fits B:=⟨Nat.le_trans h.1 k.1,fun i hi=>Nat.le_trans (h.2 i hi) (k.2 i (Nat.lt_of_lt_of_le hi h.1))⟩
def totS (B:St):Nat:=(B.map fun p=>p.2.length+1).sum
theorem Qnn (l:List (Int × List OpD)) (f:Int × List OpD→Int × List OpD) (d:Nat) (hf:∀p,(f p).2.length≤p.2.length+d):∀i,((l.modify i f).map fun p=>p.2.length+1).sum≤(l.map fun p=>p.2.length+1).sum+d:=by
 induction l with
 |nil=>intro i;cases i<;>simp
 |cons a r ih=>
  intro i
  cases i with
  |zero=>have:=hf a;simp;omega
  |succ i=>have:=ih i;simp;omega
theorem JQ (B:St) (i:Nat) (o:OpD):totS (putS B i o)≤totS B+1:=Qnn _ _ 1 (fun p=>by simp) i
theorem QkC (B:St) (i k:Nat) (a:Int):totS (setS B i k a)≤totS B:=Qnn _ _ 0 (fun p=>by simp) i
theorem Qhu (B:St) (i:Nat) (e:Bool):totS (endS B i e)≤totS B+1:=by
 cases e
 ·exact Nat.le_succ _
 ·exact JQ _ _ _
theorem Qqt (B:St) (a:Int):totS (B++[(a,[])])=totS B+1:=by simp [totS]
theorem QrD (B:St):B.length≤totS B:=by
 unfold totS
 induction B with
 |nil=>simp
 |cons p r ih=>simp;omega
theorem Qvb (B:St) (i:Nat):Qd B i≤totS B:=by
 unfold Qd totS
 induction B generalizing i with
 |nil=>simp
 |cons p r ih=>
  cases i with
  |zero=>simp;omega
  |succ i=>have:=ih i;simp at this ⊢;omega
def vis (cs:List Cor):Nat→Nat→List Nat
 |0,x=>[x]
 |f+1,x=>x::(QE cs x).flatMap (vis cs f)
def visK (cs:List Cor) (f:Nat) (ks:List Nat):Nat:=(ks.map fun k=>(vis cs f k).length).sum
theorem Qx8 (cs:List Cor):∀f x,1≤(vis cs f x).length:=by intro f x;cases f<;>simp [vis]
theorem Qow (cs:List Cor) (f x:Nat):(vis cs (f+1) x).length=1+visK cs f (QE cs x):=by
 simp [vis,visK,List.length_flatMap];omega
theorem Qml (cs:List Cor) (f:Nat) (a b:List Nat):visK cs f (a++b)=visK cs f a+visK cs f b:=by simp [visK]
def hasK (k:Int) (n:Nat):Prop:=if k=4 then n=3 else if k=5∨k=7∨k=8 then n=1 else if k=6 then 1≤n else if k=9 then 1≤n∧n≤4 else n=0
structure WfC (cs:List Cor):Prop where
 len:1≤cs.length∧cs.length≤160
 kind:∀i,i<cs.length→1≤(Qi cs i).kind∧(Qi cs i).kind≤9
 top:(Qi cs 0).parent= -1
 par:∀i,0<i→i<cs.length→0≤(Qi cs i).parent∧(Qi cs i).parent<i
 kids:∀i,i<cs.length→hasK (Qi cs i).kind (QE cs i).length
theorem Qka {cs:List Cor} {x k:Nat}:k∈QE cs x↔k<cs.length∧(Qi cs k).parent=(x:Int):=by simp [QE]
theorem WfC.kid {cs:List Cor} (h:WfC cs) {x k:Nat} (hk:k∈QE cs x):x<k∧k<cs.length:=by
 obtain ⟨h1,h2⟩:=Qka.1 hk
 have h0:0<k:=by
  rcases Nat.eq_zero_or_pos k with c|c
  ·subst c;rw [h.top] at h2;omega
  ·exact c
 have:=h.par k h0 h1
 omega
theorem Qdk {l:List Nat} (h:l≠[]):l.dropLast++[l.getLastD 0]=l:=by
 rw [List.getLastD_eq_getLast?,List.getLast?_eq_some_getLast h,Option.getD_some]
 exact List.dropLast_concat_getLast h
theorem QkD {cs:List Cor} (hw:WfC cs):∀f x i e B,x<cs.length→cs.length≤f+x→totS (mkC cs f x i e B)+1≤totS B+4*(vis cs f x).length:=by
 intro f
 induction f with
 |zero=>intro x i e B h1 h2;omega
 |succ f ih=>
  intro x i e B hx hf
  have hkd:=fun k (hk:k∈QE cs x)=>hw.kid hk
  have ihk:∀k,k∈QE cs x→∀i e B,totS (mkC cs f k i e B)+1≤totS B+4*(vis cs f k).length:=fun k hk i e B=>ih k i e B (hkd k hk).2 (by have:=hkd k hk;omega)
  have hk:=hw.kids x hx
  have hkk:=hw.kind x hx
  rw [Qow]
  rw [mkC]
  dsimp only
  generalize hks:QE cs x=ks at*
  split
  ·have h1:=JQ B i (ocD 1 (Qi cs x).data);have h2:=Qhu (putS B i (ocD 1 (Qi cs x).data)) i e;omega
  split
  ·have h1:=JQ B i (ocAB 2 (Qi cs x).a (Qi cs x).b);have h2:=Qhu (putS B i (ocAB 2 (Qi cs x).a (Qi cs x).b)) i e;omega
  split
  ·have h1:=JQ B i (ocN 3 (Qi cs x).name);have h2:=Qhu (putS B i (ocN 3 (Qi cs x).name)) i e;omega
  split
  ·rename_i c5
   have h1:=Qqt B (Qi cs x).a
   have h2:=JQ (B++[((Qi cs x).a,[])]) i (ocA 4 (B.length:Int))
   unfold hasK at hk
   rw [if_neg (by omega),if_pos (.inl c5)] at hk
   match ks,hk with
   |[k],_=>
    have h3:=ihk k (by simp) B.length true (putS (B++[((Qi cs x).a,[])]) i (ocA 4 (B.length:Int)))
    have h4:=Qhu (mkC cs f k B.length true (putS (B++[((Qi cs x).a,[])]) i (ocA 4 (B.length:Int)))) i e
    simp [visK] at h3 h4 ⊢
    omega
  split
  ·rename_i c5
   unfold hasK at hk
   rw [if_neg (by omega),if_pos (by omega)] at hk
   match ks,hk with
   |[k],_=>
    have h3:=ihk k (by simp) i false B
    have h4:=JQ (mkC cs f k i false B) i (ocN ((Qi cs x).kind - 7+8) (Qi cs x).name)
    have h5:=Qhu (putS (mkC cs f k i false B) i (ocN ((Qi cs x).kind - 7+8) (Qi cs x).name)) i e
    simp [visK] at h3 h4 h5 ⊢
    omega
  split
  ·rename_i c4
   unfold hasK at hk
   rw [if_pos c4] at hk
   match ks,hk with
   |[k1,k2,k3],_=>
    have h1:=ihk k1 (by simp) i false B
    simp only [List.getD_cons_zero,List.getD_cons_succ]
    generalize mkC cs f k1 i false B=B1 at*
    have h2:=JQ B1 i (oc0 6)
    have h3:=ihk k2 (by simp) i e (putS B1 i (oc0 6))
    generalize mkC cs f k2 i e (putS B1 i (oc0 6))=B2 at*
    have e1:visK cs f [k1,k2,k3]=(vis cs f k1).length+((vis cs f k2).length+(vis cs f k3).length):=by simp [visK]
    rw [e1]
    cases e
    ·simp only [Bool.false_eq_true,if_false]
     have h4:=JQ B2 i (oc0 5)
     have h5:=QkC (putS B2 i (oc0 5)) i (Qd B1 i) (Qd (putS B2 i (oc0 5)) i:Int)
     have h6:=ihk k3 (by simp) i false (setS (putS B2 i (oc0 5)) i (Qd B1 i) (Qd (putS B2 i (oc0 5)) i:Int))
     generalize mkC cs f k3 i false (setS (putS B2 i (oc0 5)) i (Qd B1 i) (Qd (putS B2 i (oc0 5)) i:Int))=B5 at*
     have h7:=QkC B5 i (Qd B2 i) (Qd B5 i:Int)
     omega
    ·simp only [if_true]
     have h5:=QkC B2 i (Qd B1 i) (Qd B2 i:Int)
     have h6:=ihk k3 (by simp) i true (setS B2 i (Qd B1 i) (Qd B2 i:Int))
     omega
  split
  ·rename_i c6
   unfold hasK at hk
   rw [if_neg (by omega),if_neg (by omega),if_pos c6] at hk
   have hne:ks≠[]:=by intro c;rw [c] at hk;simp at hk
   have hl:=Qdk hne
   have hmem:∀k,k∈ks.dropLast→k∈ks:=fun k hm=>by rw [←hl];exact List.mem_append_left _ hm
   have hlm:ks.getLastD 0∈ks:=by
    have:ks.getLastD 0∈ks.dropLast++[ks.getLastD 0]:=List.mem_append_right _ (List.mem_singleton.2 rfl)
    rwa [hl] at this
   have e1:visK cs f ks=visK cs f ks.dropLast+(vis cs f (ks.getLastD 0)).length:=by
    conv=>lhs;rw [←hl]
    rw [Qml];simp [visK]
   have hm:∀l:List Nat,(∀k,k∈l→k∈ks)→∀B,totS (Qq (fun k B=>mkC cs f k i false B) (fun B=>putS B i (oc0 7)) l B)≤totS B+4*visK cs f l:=by
    intro l
    induction l with
    |nil=>intro _ B;simp [Qq,visK]
    |cons k r ih2=>
     intro hl B
     have g1:=ihk k (hl k (by simp)) i false B
     have g2:=JQ (mkC cs f k i false B) i (oc0 7)
     have g3:=ih2 (fun k hk=>hl k (by simp [hk])) (putS (mkC cs f k i false B) i (oc0 7))
     have e:visK cs f (k::r)=(vis cs f k).length+visK cs f r:=by simp [visK]
     rw [Qq,e]
     omega
   have h1:=hm ks.dropLast hmem B
   have h2:=ihk (ks.getLastD 0) hlm i e (Qq (fun k B=>mkC cs f k i false B) (fun B=>putS B i (oc0 7)) ks.dropLast B)
   omega
  ·have hm:∀l:List Nat,(∀k,k∈l→k∈ks)→∀B,totS (Qq (fun k B=>mkC cs f k i false B) id l B)≤totS B+4*visK cs f l:=by
    intro l
    induction l with
    |nil=>intro _ B;simp [Qq,visK]
    |cons k r ih2=>
     intro hl B
     have g1:=ihk k (hl k (by simp)) i false B
     have g3:=ih2 (fun k hk=>hl k (by simp [hk])) (mkC cs f k i false B)
     have e:visK cs f (k::r)=(vis cs f k).length+visK cs f r:=by simp [visK]
     rw [Qq,e]
     simp only [id]
     omega
   have h1:=hm ks (fun k hk=>hk) B
   have h2:=JQ (Qq (fun k B=>mkC cs f k i false B) id ks B) i (ocA (if e then 11 else 10) ((ks.length:Int) - 1))
   omega
theorem Qre:∀(n:Nat) (l:List Nat),l.Nodup→(∀x,x∈l→x<n)→l.length≤n:=by
 intro n
 induction n with
 |zero=>intro l _ h;cases l with
  |nil=>simp
  |cons a r=>exact absurd (h a (by simp)) (by omega)
 |succ n ih=>
  intro l hn h
  have h1:=ih (l.erase n) (hn.erase n) fun x hx=>by
   have h2:=h x (List.mem_of_mem_erase hx)
   have h3:x≠n:=fun c=>by subst c;exact (List.Nodup.not_mem_erase hn) hx
   omega
  by_cases c:n∈l
  ·rw [List.length_erase_of_mem c] at h1;omega
  ·rw [List.erase_of_not_mem c] at h1;omega
theorem Qsz {a b:List Nat}:(a++b).Nodup↔a.Nodup∧b.Nodup∧∀x,x∈a→x∉b:=by
 rw [List.nodup_append]
 constructor
 ·rintro ⟨h1,h2,h3⟩
  exact ⟨h1,h2,fun x hx hb=>h3 x hx x hb rfl⟩
 ·rintro ⟨h1,h2,h3⟩
  exact ⟨h1,h2,fun x hx y hy e=>h3 x hx (e▸hy)⟩
def upC (cs:List Cor) (y:Nat):Nat:=(Qi cs y).parent.toNat
def upN (cs:List Cor):Nat→Nat→Nat
 |0,y=>y
 |n+1,y=>upC cs (upN cs n y)
theorem Qno {cs:List Cor} (hw:WfC cs):∀f x y,x<cs.length→y∈vis cs f x→y<cs.length∧x≤y∧∃n,upN cs n y=x:=by
 intro f
 induction f with
 |zero=>intro x y hx h;simp [vis] at h;subst h;exact ⟨hx,Nat.le_refl _,0,rfl⟩
 |succ f ih=>
  intro x y hx h
  simp only [vis,List.mem_cons,List.mem_flatMap] at h
  rcases h with rfl|⟨k,hk,hy⟩
  ·exact ⟨hx,Nat.le_refl _,0,rfl⟩
  ·obtain ⟨h1,h2⟩:=hw.kid hk
   obtain ⟨g1,g2,n,hn⟩:=ih k y h2 hy
   refine ⟨g1,by omega,n+1,?_⟩
   rw [upN,hn,upC,(Qka.1 hk).2];simp
theorem Qox (cs:List Cor) (y:Nat):∀a b,upN cs (a+b) y=upN cs a (upN cs b y):=by
 intro a
 induction a with
 |zero=>intro b;simp [upN]
 |succ a ih=>intro b;rw [Nat.succ_add,upN,ih,upN]
theorem QzU {cs:List Cor} (hw:WfC cs):∀n y,y<cs.length→upN cs n y≤y:=by
 intro n
 induction n with
 |zero=>intro y _;exact Nat.le_refl _
 |succ n ih=>
  intro y hy
  have h1:=ih y hy
  rw [upN]
  unfold upC
  rcases Nat.eq_zero_or_pos (upN cs n y) with c|c
  ·rw [c,hw.top];simp
  ·have:=hw.par _ c (by omega);omega
theorem QtA {cs:List Cor} (hw:WfC cs):∀f x,x<cs.length→(vis cs f x).Nodup:=by
 intro f
 induction f with
 |zero=>intro x _;simp [vis]
 |succ f ih=>
  intro x hx
  simp only [vis]
  refine List.nodup_cons.2 ⟨fun h=>?_,?_⟩
  ·obtain ⟨k,hk,hy⟩:=List.mem_flatMap.1 h
   obtain ⟨h1,h2⟩:=hw.kid hk
   have:=(Qno hw f k x h2 hy).2.1
   omega
  ·have hp:(QE cs x).Nodup:=by unfold QE;exact List.nodup_range.filter _
   have hm:∀k,k∈QE cs x→x<k∧k<cs.length∧upC cs k=x:=fun k hk=>⟨(hw.kid hk).1,(hw.kid hk).2,by rw [upC,(Qka.1 hk).2];simp⟩
   generalize QE cs x=ks at hp hm
   induction ks with
   |nil=>simp
   |cons k r ih2=>
    rw [List.flatMap_cons]
    obtain ⟨p1,p2⟩:=List.nodup_cons.1 hp
    rw [Qsz]
    refine ⟨ih k (hm k (by simp)).2.1,ih2 p2 fun q hq=>hm q (by simp [hq]),fun y hy c=>?_⟩
    obtain ⟨q,hq,hyq⟩:=List.mem_flatMap.1 c
    obtain ⟨a1,a2,a3⟩:=hm k (by simp)
    obtain ⟨b1,b2,b3⟩:=hm q (by simp [hq])
    obtain ⟨_,_,n1,e1⟩:=Qno hw f k y a2 hy
    obtain ⟨_,_,n2,e2⟩:=Qno hw f q y b2 hyq
    have hkq:k≠q:=by rintro rfl;exact p1 hq
    have key:∀(n:Nat) (a b:Nat),a<cs.length→upC cs a=x→x<b→upN cs (n+1) a≠b:=by
     intro n a b ha hu hb c
     rw [Qox cs a n 1] at c
     have h1:upN cs 1 a=x:=hu
     rw [h1] at c
     have:=QzU hw n x hx
     omega
    rcases Nat.lt_trichotomy n1 n2 with c|c|c
    ·have:upN cs (n2 - n1 - 1+1) k=q:=by rw [←e1,←Qox,show n2 - n1 - 1+1+n1=n2 by omega,e2]
     exact key _ k q a2 a3 b1 this
    ·subst c;rw [e1] at e2;exact hkq e2
    ·have:upN cs (n1 - n2 - 1+1) q=k:=by rw [←e2,←Qox,show n1 - n2 - 1+1+n2=n1 by omega,e1]
     exact key _ q k b2 b3 a1 this
theorem Qo2 {cs:List Cor} (hw:WfC cs) (f x:Nat) (hx:x<cs.length):(vis cs f x).length≤160:=
 Nat.le_trans (Qre cs.length _ (QtA hw f x hx) fun y hy=>(Qno hw f x y hx hy).1) hw.len.2
def AllO (P:OpD→Prop) (B:St):Prop:=∀p,p∈B→∀o,o∈p.2→P o
structure Told (cs:List Cor) (P:OpD→Prop):Prop where
 bare:∀o:OpD,o.name=⟨#[]⟩→o.data=[]→P o
 name:∀k i,P (ocN k (Qi cs i).name)
 data:∀i,P (ocD 1 (Qi cs i).data)
 turn:∀(o:OpD) (a:Int),P o→P {o with a:=a}
theorem Qh8 {X:Type} {l:List X} {i:Nat} {f:X→X} {y:X} (h:y∈l.modify i f):y∈l∨∃x,x∈l∧y=f x:=by
 obtain ⟨k,hk,rfl⟩:=List.mem_iff_getElem.1 h
 rw [List.length_modify] at hk
 rw [List.getElem_modify]
 split
 ·exact .inr ⟨_,List.getElem_mem hk,rfl⟩
 ·exact .inl (List.getElem_mem hk)
theorem AllO.put {P:OpD→Prop} {B:St} (h:AllO P B) {i:Nat} {o:OpD} (ho:P o):AllO P (putS B i o):=by
 intro p hp q hq
 rcases Qh8 hp with c|⟨x,hx,rfl⟩
 ·exact h p c q hq
 ·rcases List.mem_append.1 hq with d|d
  ·exact h x hx q d
  ·obtain rfl:=List.mem_singleton.1 d;exact ho
theorem AllO.set {P:OpD→Prop} {B:St} (h:AllO P B) {i k:Nat} {a:Int} (ht:∀(o:OpD) (a:Int),P o→P {o with a:=a}):AllO P (setS B i k a):=by
 intro p hp q hq
 rcases Qh8 hp with c|⟨x,hx,rfl⟩
 ·exact h p c q hq
 ·rcases Qh8 hq with d|⟨o,ho,rfl⟩
  ·exact h x hx q d
  ·exact ht o a (h x hx o ho)
theorem AllO.push {P:OpD→Prop} {B:St} (h:AllO P B) {a:Int}:AllO P (B++[(a,[])]):=by
 intro p hp q hq
 rcases List.mem_append.1 hp with c|c
 ·exact h p c q hq
 ·obtain rfl:=List.mem_singleton.1 c;cases hq
theorem AllO.end {P:OpD→Prop} {B:St} (h:AllO P B) {i:Nat} {e:Bool} (ho:P (oc0 12)):AllO P (endS B i e):=by
 cases e
 ·exact h
 ·exact h.put ho
theorem AllO.many {P:OpD→Prop} {g:Nat→St→St} {h:St→St} (hg:∀k B,AllO P B→AllO P (g k B)) (hh:∀B,AllO P B→AllO P (h B)):∀ks B,AllO P B→AllO P (Qq g h ks B):=by
 intro ks
 induction ks with
 |nil=>intro B hB;exact hB
 |cons k r ih=>intro B hB;exact ih _ (hh _ (hg k B hB))
theorem QrE {cs:List Cor} {P:OpD→Prop} (hP:Told cs P):∀f x i e B,AllO P B→AllO P (mkC cs f x i e B):=by
 intro f
 induction f with
 |zero=>intro x i e B h;exact h
 |succ f ih=>
  intro x i e B h
  have b0:∀k,P (oc0 k):=fun k=>hP.bare _ rfl rfl
  have bA:∀k a,P (ocA k a):=fun k a=>hP.bare _ rfl rfl
  rw [mkC]
  dsimp only
  split;· exact (h.put (hP.data x)).end (b0 _)
  split;· exact (h.put (hP.bare _ rfl rfl)).end (b0 _)
  split;· exact (h.put (hP.name _ x)).end (b0 _)
  split;· exact (ih _ _ _ _ (h.push.put (bA _ _))).end (b0 _)
  split;· exact ((ih _ _ _ _ h).put (hP.name _ x)).end (b0 _)
  split
  ·cases e
   ·exact (ih _ _ _ _ (((ih _ _ _ _ ((ih _ _ _ _ h).put (b0 _))).put (b0 _)).set hP.turn)).set hP.turn
   ·exact ih _ _ _ _ ((ih _ _ _ _ ((ih _ _ _ _ h).put (b0 _))).set hP.turn)
  split;· exact ih _ _ _ _ (AllO.many (fun k B hB=>ih _ _ _ _ hB) (fun B hB=>hB.put (b0 _)) _ _ h)
  exact (AllO.many (fun k B hB=>ih _ _ _ _ hB) (fun B hB=>hB) _ _ h).put (bA _ _)
end Go.Proofs.YtggnjjalfnhiiaaGreatDoor.E
/- Code that was compiled: its jumps lead on. No program in sight. -/
namespace Go.Proofs.YtggnjjalfnhiiaaGreatDoor.E
open Go Go.RowKit
set_option maxRecDepth 100000
def opAt (B:St) (j k:Nat):OpD:=((B.getD j (0,[])).2).getD k default
def jmp (o:OpD):Prop:=o.kind=5∨o.kind=6
structure OpK (N n k:Nat) (e:Bool) (o:OpD):Prop where
 jump:jmp o→(k:Int)<o.a∧o.a≤(n:Int)∧(e=true→o.a<(n:Int))
 num:¬jmp o→0≤o.a∧(o.a≤999∨o.a≤(N:Int))
 b:0≤o.b∧o.b≤999
 c:o.c=0
 d:o.d=0
 kind:1≤o.kind∧o.kind≤12
theorem OpK.mono {N n k N' n':Nat} {e e':Bool} {o:OpD} (h:OpK N n k e o) (h1:N≤N') (h2:n≤n') (h3:e'=true→e=true∨n<n'):OpK N' n' k e' o:=by
 refine ⟨fun j=>?_,fun j=>?_,h.b,h.c,h.d,h.kind⟩
 ·obtain ⟨a,b,c⟩:=h.jump j
  refine ⟨a,by omega,fun g=>?_⟩
  rcases h3 g with g|g
  ·have:=c g;omega
  ·omega
 ·obtain ⟨a,b⟩:=h.num j
  omega
theorem OpK.plain {N n k:Nat} {e:Bool} {o:OpD} (hk:1≤o.kind∧o.kind≤12) (h5:o.kind≠5) (h6:o.kind≠6) (ha:0≤o.a∧(o.a≤999∨o.a≤(N:Int))) (hb:0≤o.b∧o.b≤999) (hc:o.c=0) (hd:o.d=0):OpK N n k e o:=
 ⟨fun j=>j.elim (fun c=>absurd c h5) fun c=>absurd c h6,fun _=>ha,hb,hc,hd,hk⟩
theorem Qlz {B:St} {i j:Nat} (h:i≠j) (o:OpD) (k:Nat):opAt (putS B i o) j k=opAt B j k:=by
 unfold opAt putS
 rw [JY,if_neg fun c=>h c.1]
theorem Qmm {B:St} {i:Nat} (h:i<B.length) (o:OpD) (k:Nat) (hk:k<Qd B i):opAt (putS B i o) i k=opAt B i k:=by
 unfold opAt putS
 rw [JY,if_pos ⟨rfl,h⟩]
 unfold Qd at hk
 dsimp only
 generalize (B.getD i (0,[])).2=l at hk
 simp only [List.getD,List.getElem?_append_left hk]
theorem Qf4 {B:St} {i:Nat} (h:i<B.length) (o:OpD):opAt (putS B i o) i (Qd B i)=o:=by
 unfold opAt putS
 rw [JY,if_pos ⟨rfl,h⟩]
 unfold Qd
 simp [List.getD]
theorem QcY {B:St} {i j k m:Nat} {a:Int} (h:i≠j∨k≠m):opAt (setS B i k a) j m=opAt B j m:=by
 unfold opAt setS
 rw [JY]
 split
 ·rename_i c
  rcases h with h|h
  ·exact absurd c.1 h
  ·rw [JY,if_neg fun d=>h d.1]
 ·rfl
theorem Qvc {B:St} {i k:Nat} {a:Int} (h:i<B.length) (hk:k<Qd B i):opAt (setS B i k a) i k={opAt B i k with a:=a}:=by
 unfold opAt setS
 rw [JY,if_pos ⟨rfl,h⟩,JY,if_pos ⟨rfl,hk⟩]
theorem QaO {B:St} {i:Nat} (h:i<B.length) (o:OpD):Qd (putS B i o) i=Qd B i+1:=by rw [Qac,if_pos ⟨rfl,h⟩]
structure Gro (B B':St) (i:Nat) (e:Bool) (H:Nat→Prop):Prop where
 le:leS B B'
 keep:∀j k,j<B.length→k<Qd B j→opAt B' j k=opAt B j k
 oth:∀j,j<B.length→j≠i→Qd B' j=Qd B j
 own:∀k,Qd B i≤k→k<Qd B' i→¬H k→OpK B'.length (Qd B' i) k e (opAt B' i k)
 new:∀j k,B.length≤j→j<B'.length→k<Qd B' j→OpK B'.length (Qd B' j) k true (opAt B' j k)
def noH:Nat→Prop:=fun _=>False
theorem Gro.refl {B:St} {i:Nat} {e:Bool} {H:Nat→Prop}:Gro B B i e H:=⟨.refl B,fun _ _ _ _=>rfl,fun _ _ _=>rfl,fun k h1 h2=>by omega,fun j k h1 h2=>by omega⟩
theorem Gro.sub {B C:St} {i:Nat} {e:Bool} {H H':Nat→Prop} (h:Gro B C i e H) (g:∀k,H k→H' k):Gro B C i e H':=
 ⟨h.le,h.keep,h.oth,fun k h1 h2 h3=>h.own k h1 h2 fun c=>h3 (g k c),h.new⟩
theorem Gro.weak {B C:St} {i:Nat} {e:Bool} {H:Nat→Prop} (h:Gro B C i e H):Gro B C i false H:=
 ⟨h.le,h.keep,h.oth,fun k h1 h2 h3=>(h.own k h1 h2 h3).mono (Nat.le_refl _) (Nat.le_refl _) (fun c=>by cases c),h.new⟩
theorem Gro.trans {B C D:St} {i:Nat} {e1 e:Bool} {H:Nat→Prop} (hi:i<B.length) (h:Gro B C i e1 H) (g:Gro C D i e H) (he:e=true→e1=true∨Qd C i<Qd D i):Gro B D i e H:=by
 have hC:i<C.length:=Nat.lt_of_lt_of_le hi h.le.1
 refine ⟨h.le.trans g.le,fun j k h1 h2=>?_,fun j h1 h2=>?_,fun k h1 h2 h3=>?_,fun j k h1 h2 h3=>?_⟩
 ·rw [g.keep j k (Nat.lt_of_lt_of_le h1 h.le.1) (Nat.lt_of_lt_of_le h2 (h.le.2 j h1)),h.keep j k h1 h2]
 ·rw [g.oth j (Nat.lt_of_lt_of_le h1 h.le.1) h2,h.oth j h1 h2]
 ·by_cases c:k<Qd C i
  ·rw [g.keep i k hC c]
   exact (h.own k h1 c h3).mono g.le.1 (g.le.2 i hC) he
  ·exact g.own k (by omega) h2 h3
 ·have hne:j≠i:=by omega
  by_cases c:j<C.length
  ·have e1:=g.oth j c hne
   rw [e1] at h3 ⊢
   rw [g.keep j k c h3]
   exact (h.new j k h1 c h3).mono g.le.1 (Nat.le_refl _) fun c=> .inl c
  ·exact g.new j k (by omega) h2 h3
theorem Gro.put {B:St} {i:Nat} {e:Bool} {H:Nat→Prop} {o:OpD} (hi:i<B.length) (h:H (Qd B i)∨OpK B.length (Qd B i+1) (Qd B i) e o):Gro B (putS B i o) i e H:=by
 refine ⟨QV ..,fun j k h1 h2=>?_,fun j h1 h2=>?_,fun k h1 h2 h3=>?_,fun j k h1 h2=>?_⟩
 ·by_cases c:i=j
  ·subst c;exact Qmm hi o k h2
  ·exact Qlz c o k
 ·exact JZ (fun c=>h2 c.symm) o
 ·rw [QaO hi] at h2 ⊢
  obtain rfl:k=Qd B i:=by omega
  rw [Qf4 hi,Q8]
  rcases h with h|h
  ·exact absurd h h3
  ·exact h
 ·rw [Q8] at h2;omega
theorem Gro.set {B C:St} {i h:Nat} {a:Int} {e:Bool} {H H':Nat→Prop} (hi:i<B.length) (g:Gro B C i e H) (h0:Qd B i≤h) (h1:h<Qd C i) (ho:OpK C.length (Qd C i) h e {opAt C i h with a:=a}) (hH:∀k,H k→k≠h→H' k):
  Gro B (setS C i h a) i e H':=by
 have hC:i<C.length:=Nat.lt_of_lt_of_le hi g.le.1
 refine ⟨g.le.trans (Qan ..),fun j k h2 h3=>?_,fun j h2 h3=>by rw [QaN];exact g.oth j h2 h3,fun k h2 h3 h4=>?_,fun j k h2 h3 h4=>?_⟩
 ·rw [QcY ?_,g.keep j k h2 h3]
  by_cases c:i=j
  ·subst c;exact .inr (by omega)
  ·exact .inl c
 ·rw [QaN] at h3
  rw [QaV,QaN]
  by_cases c:k=h
  ·subst c;rw [Qvc hC h1];exact ho
  ·rw [QcY (.inr fun d=>c d.symm)]
   exact g.own k h2 h3 fun d=>h4 (hH k d c)
 ·rw [QaV] at h3
  rw [QaN] at h4
  rw [QaV,QaN,QcY (.inl (by omega))]
  exact g.new j k h2 h3 h4
theorem Gro.end {B C:St} {i:Nat} {e:Bool} {H:Nat→Prop} (hi:i<B.length) (h:Gro B C i false H):Gro B (endS C i e) i e H:=by
 cases e
 ·exact h
 ·have hC:i<C.length:=Nat.lt_of_lt_of_le hi h.le.1
  refine h.trans hi (.put (o:=oc0 12) hC (.inr (.plain ⟨by show (1:Int)≤12;omega,by show (12:Int)≤12;omega⟩ (by show (12:Int)≠5;omega) (by show (12:Int)≠6;omega) ⟨Int.le_refl 0,.inl (by show (0:Int)≤999;omega)⟩ ⟨Int.le_refl 0,by show (0:Int)≤999;omega⟩ rfl rfl))) fun _=> .inr ?_
  show Qd C i<Qd (putS C i (oc0 12)) i
  rw [QaO hC];omega
theorem Qo3 {B r:St} {j k:Nat} (h:j<B.length):opAt (B++r) j k=opAt B j k:=by
 unfold opAt;simp only [List.getD,List.getElem?_append_left h]
theorem Qf5 {B r:St} {j:Nat} (h:j<B.length):Qd (B++r) j=Qd B j:=by
 unfold Qd;simp only [List.getD,List.getElem?_append_left h]
theorem Gro.lam {B Q:St} {i:Nat} {a:Int} (hi:i<B.length) (h:Gro (putS (B++[(a,[])]) i (ocA 4 (B.length:Int))) Q B.length true noH):Gro B Q i false noH:=by
 have hl:(putS (B++[(a,[])]) i (ocA 4 (B.length:Int))).length=B.length+1:=by rw [Q8];simp
 have hi2:i<(B++[(a,[])]).length:=by simp;omega
 have eq1:∀j,j<B.length→j≠i→Qd (putS (B++[(a,[])]) i (ocA 4 (B.length:Int))) j=Qd B j:=fun j h1 h2=>by rw [JZ (fun c=>h2 c.symm),Qf5 h1]
 have eq2:Qd (putS (B++[(a,[])]) i (ocA 4 (B.length:Int))) i=Qd B i+1:=by rw [QaO hi2,Qf5 hi]
 have le1:leS B (putS (B++[(a,[])]) i (ocA 4 (B.length:Int))):=(Qh7 ..).trans (QV ..)
 have keep1:∀j k,j<B.length→k<Qd B j→opAt (putS (B++[(a,[])]) i (ocA 4 (B.length:Int))) j k=opAt B j k:=fun j k h1 h2=>by
  by_cases c:i=j
  ·subst c
   rw [Qmm hi2 _ _ (by rw [Qf5 h1];exact h2),Qo3 h1]
  ·rw [Qlz c,Qo3 h1]
 refine ⟨le1.trans h.le,fun j k h1 h2=>?_,fun j h1 h2=>?_,fun k h1 h2 _=>?_,fun j k h1 h2 h3=>?_⟩
 ·rw [h.keep j k (by omega) (Nat.lt_of_lt_of_le h2 (le1.2 j h1)),keep1 j k h1 h2]
 ·rw [h.oth j (by omega) (by omega),eq1 j h1 h2]
 ·have e3:=h.oth i (by omega) (by omega)
  rw [eq2] at e3
  obtain rfl:k=Qd B i:=by omega
  have e4:opAt Q i (Qd B i)=ocA 4 (B.length:Int):=by
   rw [h.keep i _ (by omega) (by omega)]
   have:=Qf4 hi2 (ocA 4 (B.length:Int))
   rwa [Qf5 hi] at this
  rw [e4]
  have hq:=h.le.1
  refine .plain ⟨by show (1:Int)≤4;omega,by show (4:Int)≤12;omega⟩ (by show (4:Int)≠5;omega) (by show (4:Int)≠6;omega) ⟨by show (0:Int)≤(B.length:Int);omega,.inr (by show (B.length:Int)≤_;omega)⟩ ⟨Int.le_refl 0,by show (0:Int)≤999;omega⟩ rfl rfl
 ·by_cases c:j=B.length
  ·subst c
   refine h.own k ?_ h3 fun c=>c
   have:Qd (putS (B++[(a,[])]) i (ocA 4 (B.length:Int))) B.length=0:=by
    rw [JZ (by omega)];unfold Qd;simp [List.getD]
   omega
  ·exact h.new j k (by omega) h2 h3
section
variable {cs:List Cor}
theorem Qvd (hw:WfC cs):∀f x i e B,x<cs.length→cs.length≤f+x→i<B.length→Qd B i<Qd (mkC cs f x i e B) i:=by
 intro f
 induction f with
 |zero=>intro x i e B h1 h2;omega
 |succ f ih=>
  intro x i e B hx hf hi
  have put:∀{C D:St} {o:OpD},leS B C→leS (putS C i o) D→Qd B i<Qd D i:=fun {C D o} h1 h2=>by
   have hC:i<C.length:=Nat.lt_of_lt_of_le hi h1.1
   have a1:=h1.2 i hi
   have a2:=h2.2 i (by rw [Q8];exact hC)
   rw [QaO hC] at a2
   omega
  have hk:=hw.kids x hx
  rw [mkC]
  dsimp only
  split;· exact put (.refl B) (JP ..)
  split;· exact put (.refl B) (JP ..)
  split;· exact put (.refl B) (JP ..)
  split;· exact put (Qh7 ..) ((QM ..).trans (JP ..))
  split;· exact put (QM ..) (JP ..)
  split
  ·cases e
   ·exact put (QM ..) (((((QM ..).trans (QV ..)).trans (Qan ..)).trans (QM ..)).trans (Qan ..))
   ·exact put (QM ..) ((((QM ..)).trans (Qan ..)).trans (QM ..))
  split
  ·rename_i c6
   unfold hasK at hk
   rw [if_neg (by omega),if_neg (by omega),if_pos c6] at hk
   have hne:QE cs x≠[]:=by intro c;rw [c] at hk;simp at hk
   have hlm:(QE cs x).getLastD 0∈QE cs x:=by
    have h1:=Qdk hne
    have:(QE cs x).getLastD 0∈(QE cs x).dropLast++[(QE cs x).getLastD 0]:=List.mem_append_right _ (List.mem_singleton.2 rfl)
    rwa [h1] at this
   have hkd:=hw.kid hlm
   have h1:leS B (Qq (fun k B=>mkC cs f k i false B) (fun B=>putS B i (oc0 7)) (QE cs x).dropLast B):=Qad (fun k B=>QM ..) (fun B=>QV ..) _ _
   have h2:=ih ((QE cs x).getLastD 0) i e _ hkd.2 (by omega) (Nat.lt_of_lt_of_le hi h1.1)
   exact Nat.lt_of_le_of_lt (h1.2 i hi) h2
  ·exact put (Qad (fun k B=>QM ..) (fun B=> .refl B) _ _) (.refl _)
theorem Gro.many {i:Nat} {g:Nat→St→St} {h:St→St} {l:List Nat} (hg:∀k,k∈l→∀B,i<B.length→Gro B (g k B) i false noH) (hh:∀B,i<B.length→Gro B (h B) i false noH):
  ∀B,i<B.length→Gro B (Qq g h l B) i false noH:=by
 induction l with
 |nil=>intro B hi;exact .refl
 |cons k r ih=>
  intro B hi
  have h1:=hg k (by simp) B hi
  have l1:i<(g k B).length:=Nat.lt_of_lt_of_le hi h1.le.1
  have h2:=hh _ l1
  have l2:i<(h (g k B)).length:=Nat.lt_of_lt_of_le l1 h2.le.1
  have h3:=ih (fun k hk=>hg k (List.mem_cons_of_mem _ hk)) _ l2
  rw [Qq]
  exact (h1.trans hi h2 fun c=>by cases c).trans hi h3 fun c=>by cases c
theorem OpK.pl (k:Int) {N n m:Nat} {e:Bool} {a b:Int} {s:ByteArray} {d:List Dat} (hk:1≤k∧k≤12∧k≠5∧k≠6) (ha:0≤a∧(a≤999∨a≤(N:Int))) (hb:0≤b∧b≤999):OpK N n m e ⟨k,a,b,0,0,s,d⟩:= .plain ⟨hk.1,hk.2.1⟩ hk.2.2.1 hk.2.2.2 ha hb rfl rfl
theorem OpK.hole (k:Int) {N n m:Nat} {e:Bool} {a:Int} (hk:k=5∨k=6) (h1:(m:Int)<a) (h2:a≤(n:Int)) (h3:e=true→a<(n:Int)):OpK N n m e {oc0 k with a:=a}:=
 ⟨fun _=>⟨h1,h2,h3⟩,fun c=>absurd hk c,⟨Int.le_refl 0,by show (0:Int)≤999;omega⟩,rfl,rfl,by show 1≤k∧k≤12;omega⟩
theorem Qx9 (hw:WfC cs) (hn:∀i,i<cs.length→(Qi cs i).kind=2→(0≤(Qi cs i).a∧(Qi cs i).a≤999)∧0≤(Qi cs i).b∧(Qi cs i).b≤999):
  ∀f x i e B,x<cs.length→cs.length≤f+x→i<B.length→Gro B (mkC cs f x i e B) i e noH:=by
 intro f
 induction f with
 |zero=>intro x i e B h1 h2;omega
 |succ f ih=>
  intro x i e B hx hf hi
  have hkd:=fun k (hk:k∈QE cs x)=>hw.kid hk
  have ihk:∀k,k∈QE cs x→∀i e B,i<B.length→Gro B (mkC cs f k i e B) i e noH:=fun k hk i e B hi=>ih k i e B (hkd k hk).2 (by have:=hkd k hk;omega) hi
  have more:∀k,k∈QE cs x→∀i e B,i<B.length→Qd B i<Qd (mkC cs f k i e B) i:=fun k hk i e B hi=>Qvd hw f k i e B (hkd k hk).2 (by have:=hkd k hk;omega) hi
  have hk:=hw.kids x hx
  have hkk:=hw.kind x hx
  have z0:(0:Int)≤0∧(0:Int)≤999:=⟨Int.le_refl 0,by omega⟩
  have zN:∀N:Nat,(0:Int)≤0∧((0:Int)≤999∨(0:Int)≤(N:Int)):=fun N=>⟨Int.le_refl 0,.inl (by omega)⟩
  rw [mkC]
  dsimp only
  generalize hks:QE cs x=ks at*
  split
  ·exact .end hi (.put hi (.inr (.pl 1 (by omega) (zN _) z0)))
  split
  ·rename_i c2
   have:=hn x hx c2
   exact .end hi (.put hi (.inr (.pl 2 (by omega) ⟨by omega,by omega⟩ ⟨by omega,by omega⟩)))
  split
  ·exact .end hi (.put hi (.inr (.pl 3 (by omega) (zN _) z0)))
  split
  ·rename_i c5
   unfold hasK at hk
   rw [if_neg (by omega),if_pos (.inl c5)] at hk
   match ks,hk with
   |[k],_=>exact .end hi (.lam hi (ihk k (by simp) _ _ _ (by rw [Q8];simp)))
  split
  ·rename_i c5
   unfold hasK at hk
   rw [if_neg (by omega),if_pos (by omega)] at hk
   match ks,hk with
   |[k],_=>
    have h1:=ihk k (by simp) i false B hi
    have l1:=Nat.lt_of_lt_of_le hi h1.le.1
    exact .end hi (h1.trans hi (.put l1 (.inr (.pl _ (by omega) (zN _) z0))) fun c=>by cases c)
  split
  ·rename_i c4
   unfold hasK at hk
   rw [if_pos c4] at hk
   match ks,hk with
   |[k1,k2,k3],_=>
    have h1:=ihk k1 (by simp) i false B hi
    simp only [List.getD_cons_zero,List.getD_cons_succ]
    generalize mkC cs f k1 i false B=B1 at*
    have l1:=Nat.lt_of_lt_of_le hi h1.le.1
    have h2:Gro B1 (putS B1 i (oc0 6)) i false (fun k=>k=Qd B1 i):= .put l1 (.inl rfl)
    have e2:=QaO l1 (oc0 6)
    have o2:=Qf4 l1 (oc0 6)
    have l2:i<(putS B1 i (oc0 6)).length:=by rw [Q8];exact l1
    have h3:=ihk k2 (by simp) i e (putS B1 i (oc0 6)) l2
    have lt1:=h1.le.2 i hi
    generalize mkC cs f k2 i e (putS B1 i (oc0 6))=B2 at*
    have l3:=Nat.lt_of_lt_of_le l2 h3.le.1
    have lt3:=h3.le.2 i l2
    have o3:opAt B2 i (Qd B1 i)=oc0 6:=by rw [h3.keep i _ l2 (by omega),o2]
    have g2:Gro B B2 i false (fun k=>k=Qd B1 i):=((h1.sub fun k c=>c.elim).trans hi h2 fun c=>by cases c).trans hi (h3.weak.sub fun k c=>c.elim) fun c=>by cases c
    cases e
    ·simp only [Bool.false_eq_true,if_false]
     have h4:Gro B2 (putS B2 i (oc0 5)) i false (fun k=>k=Qd B1 i∨k=Qd B2 i):= .put l3 (.inl (.inr rfl))
     have e4:=QaO l3 (oc0 5)
     have o4:=Qf4 l3 (oc0 5)
     have o4':opAt (putS B2 i (oc0 5)) i (Qd B1 i)=oc0 6:=by rw [Qmm l3 _ _ (by omega),o3]
     have g4:=(g2.sub fun k c=> .inl c).trans hi h4 fun c=>by cases c
     have l4:i<(putS B2 i (oc0 5)).length:=by rw [Q8];exact l3
     generalize hP:putS B2 i (oc0 5)=P at*
     have g5:Gro B (setS P i (Qd B1 i) (Qd P i:Int)) i false (fun k=>k=Qd B2 i):=g4.set hi lt1 (by omega) (by rw [o4'];exact .hole 6 (.inr rfl) (by omega) (Int.le_refl _) fun c=>by cases c) fun k c d=>c.elim (fun c=>absurd c d) id
     have o5:opAt (setS P i (Qd B1 i) (Qd P i:Int)) i (Qd B2 i)=oc0 5:=by rw [QcY (.inr (by omega)),o4]
     have e5:=QaN P i i (Qd B1 i) (Qd P i:Int)
     have l5:i<(setS P i (Qd B1 i) (Qd P i:Int)).length:=by rw [QaV];exact l4
     have h6:=ihk k3 (by simp) i false (setS P i (Qd B1 i) (Qd P i:Int)) l5
     have m6:=more k3 (by simp) i false (setS P i (Qd B1 i) (Qd P i:Int)) l5
     generalize setS P i (Qd B1 i) (Qd P i:Int)=B4 at*
     generalize mkC cs f k3 i false B4=B5 at*
     have g6:=g5.trans hi (h6.sub fun k c=>c.elim) fun c=>by cases c
     have o6:opAt B5 i (Qd B2 i)=oc0 5:=by rw [h6.keep i _ l5 (by omega),o5]
     exact g6.set hi (by omega) (by omega) (by rw [o6];exact .hole 5 (.inl rfl) (by omega) (Int.le_refl _) fun c=>by cases c) fun k c d=>absurd c d
    ·simp only [if_true]
     have g5:Gro B (setS B2 i (Qd B1 i) (Qd B2 i:Int)) i false noH:=g2.set hi lt1 (by omega) (by rw [o3];exact .hole 6 (.inr rfl) (by omega) (Int.le_refl _) fun c=>by cases c) fun k c d=>absurd c d
     have l5:i<(setS B2 i (Qd B1 i) (Qd B2 i:Int)).length:=by rw [QaV];exact l3
     have h6:=ihk k3 (by simp) i true (setS B2 i (Qd B1 i) (Qd B2 i:Int)) l5
     have m6:=more k3 (by simp) i true (setS B2 i (Qd B1 i) (Qd B2 i:Int)) l5
     exact g5.trans hi h6 fun _=> .inr m6
  split
  ·rename_i c6
   unfold hasK at hk
   rw [if_neg (by omega),if_neg (by omega),if_pos c6] at hk
   have hne:ks≠[]:=by intro c;rw [c] at hk;simp at hk
   have hl:=Qdk hne
   have hmem:∀k,k∈ks.dropLast→k∈ks:=fun k hm=>by rw [←hl];exact List.mem_append_left _ hm
   have hlm:ks.getLastD 0∈ks:=by
    have:ks.getLastD 0∈ks.dropLast++[ks.getLastD 0]:=List.mem_append_right _ (List.mem_singleton.2 rfl)
    rwa [hl] at this
   have g1:Gro B (Qq (fun k B=>mkC cs f k i false B) (fun B=>putS B i (oc0 7)) ks.dropLast B) i false noH:= .many (fun k hk B hi=>ihk k (hmem k hk) i false B hi) (fun B hi=> .put hi (.inr (.pl 7 (by omega) (zN _) z0))) B hi
   have l1:=Nat.lt_of_lt_of_le hi g1.le.1
   exact g1.trans hi (ihk _ hlm i e _ l1) fun _=> .inr (more _ hlm i e _ l1)
  ·have c9:(Qi cs x).kind=9:=by omega
   unfold hasK at hk
   rw [if_neg (by omega),if_neg (by omega),if_neg (by omega),if_pos c9] at hk
   have g1:Gro B (Qq (fun k B=>mkC cs f k i false B) id ks B) i false noH:= .many (fun k hk B hi=>ihk k hk i false B hi) (fun B hi=> .refl) B hi
   have l1:=Nat.lt_of_lt_of_le hi g1.le.1
   refine g1.trans hi (.put l1 (.inr (.pl _ (by cases e<;>simp) ⟨by omega,by omega⟩ z0))) fun _=> .inr ?_
   rw [QaO l1];omega
theorem Qya {B:St} (hl:B.length≤60) (hs:∀i,i<B.length→Qd B i≤200) (h:∀j k,j<B.length→k<Qd B j→OpK B.length (Qd B j) k true (opAt B j k)):
  ∀p,p∈B→(∀k,k<p.2.length→jmp (p.2.getD k default)→(k:Int)<(p.2.getD k default).a∧(p.2.getD k default).a<(p.2.length:Int))∧(∀o,o∈p.2→(0≤o.a∧o.a≤999)∧(0≤o.b∧o.b≤999)∧o.c=0∧o.d=0∧1≤o.kind∧o.kind≤12)∧p.2.length≤200:=by
 intro p hp
 obtain ⟨j,hj,rfl⟩:=List.mem_iff_getElem.1 hp
 have e:B.getD j (0,[])=B[j]:=by simp [List.getD,hj]
 have h1:=h j
 have h2:=hs j hj
 unfold opAt at h1
 unfold Qd at h1 h2
 rw [e] at h1 h2
 refine ⟨fun k hk c=>?_,fun o ho=>?_,h2⟩
 ·have:=(h1 k hj hk).jump c
  exact ⟨this.1,this.2.2 rfl⟩
 ·obtain ⟨k,hk,rfl⟩:=List.mem_iff_getElem.1 ho
  have e2:B[j].2.getD k default=B[j].2[k]:=by simp [List.getD,hk]
  have g:=h1 k hj hk
  rw [e2] at g
  refine ⟨?_,g.b,g.c,g.d,g.kind⟩
  by_cases c:jmp B[j].2[k]
  ·have:=g.jump c;omega
  ·have:=g.num c;omega
theorem Qve {B:St} (hB:B=mkC cs cs.length 0 0 true [(0,[])]) (hw:WfC cs) (hn:∀i,i<cs.length→(Qi cs i).kind=2→(0≤(Qi cs i).a∧(Qi cs i).a≤999)∧0≤(Qi cs i).b∧(Qi cs i).b≤999):
  ∀j k,j<B.length→k<Qd B j→OpK B.length (Qd B j) k true (opAt B j k):=by
 have hwl:=hw.len
 have g:=Qx9 hw hn cs.length 0 0 true [(0,[])] (by omega) (by omega) (by simp)
 rw [←hB] at g
 intro j k h1 h2
 rcases Nat.eq_zero_or_pos j with c|c
 ·subst c
  exact g.own k (Nat.zero_le _) h2 fun c=>c
 ·exact g.new j k (by simp;omega) h1 h2
end
end Go.Proofs.YtggnjjalfnhiiaaGreatDoor.E
/- Copies of arguments that are owned. -/
namespace Go.Proofs.YtggnjjalfnhiiaaGreatDoor.E
open Go Go.RowKit
variable [L:Lam]
variable {σ τ:AH} {R:AEnd→AH→Prop}
theorem Fz.move {σ0 σ1 τ':AH} {a b:AV} (h:Fz σ0 τ a b) (h0:∀φ,σ0 φ=none→σ1 φ=none) (hm:∀φ F,σ0 φ=none→τ φ=some F→τ' φ=some F):Fz σ1 τ' a b:=by
 induction h with
 |same a=>exact .same a
 |agg hl h ih=>exact .agg hl ih
 |tup hl h ih=>exact .tup hl ih
 |own hF hz hst hl hn hs h ih=>exact .own (hm _ _ hz hF) (h0 _ hz) hst hl hn hs ih
 |ro hn hz h ih=>exact .ro hn hz ih
 |ptr hF hz hst hi hlen hc h ih=>exact .ptr (hm _ _ hz hF) (h0 _ hz) hst hi hlen hc ih
 |emp=>exact .emp
 |nil=>exact .nil
def Qm (o:OpD) (a:AV):List AV:=[iv o.kind,iv o.a,iv o.b,iv o.c,iv o.d,str o.name,a]
end Go.Proofs.YtggnjjalfnhiiaaGreatDoor.E
/- Code that is owned: lists of blocks, of operations, of data, each in a family of its own. -/
namespace Go.Proofs.YtggnjjalfnhiiaaGreatDoor.E
open Go Go.RowKit
set_option maxRecDepth 100000
def famL:AV→List Nat
 | .own φ _ _ _=>[φ]
 |_=>[]
theorem Qe2 {a:AV} {ψ:Nat}:ψ∈famL a↔Buf.fam a ψ:=by
 constructor
 ·intro h
  cases a with
  |own φ st off n=>
   obtain rfl:ψ=φ:=by simpa [famL] using h
   exact ⟨st,off,n,rfl⟩
  |_=>simp [famL] at h
 ·rintro ⟨st,off,n,rfl⟩
  simp [famL]
abbrev Its:=List (OpD × AV)
def itsF (its:Its):List Nat:=its.flatMap fun p=>famL p.2
def Uc (v:AV) (its:Its):List Nat:=famL v++itsF its
structure BI where
 args:Int
 av:AV
 its:Its
def biF (b:BI):List Nat:=Uc b.av b.its
def Jd (v:AV) (bs:List BI):List Nat:=famL v++bs.flatMap biF
section
variable [L:Lam]
variable {σ τ τ':AH} {R:AEnd→AH→Prop}
def ItsH (τ:AH) (its:Its):Prop:=∀p,p∈its→Buf τ 4 p.2 (p.1.data.map Qc)
def OpsH (τ:AH) (v:AV) (its:Its):Prop:=Buf τ 7 v (its.map fun p=>Qm p.1 p.2)∧ItsH τ its
def BlksH (τ:AH) (v:AV) (bs:List BI):Prop:=Buf τ 2 v (bs.map fun b=>[iv b.args,b.av])∧∀b,b∈bs→OpsH τ b.av b.its
theorem Je {sz:Nat} {a:AV} {es:List (List AV)} (h:Buf τ sz a es) (k:∀ψ,ψ∈famL a→τ' ψ=τ ψ):Buf τ' sz a es:=h.keep fun ψ hf=>k ψ (Qe2.2 hf)
theorem ItsH.keep {its:Its} (h:ItsH τ its) (k:∀ψ,ψ∈itsF its→τ' ψ=τ ψ):ItsH τ' its:=
 fun p hp=>Je (h p hp) fun ψ hψ=>k ψ (List.mem_flatMap.2 ⟨p,hp,hψ⟩)
theorem OpsH.keep {v:AV} {its:Its} (h:OpsH τ v its) (k:∀ψ,ψ∈Uc v its→τ' ψ=τ ψ):OpsH τ' v its:=
 ⟨Je h.1 fun ψ hψ=>k ψ (List.mem_append_left _ hψ),h.2.keep fun ψ hψ=>k ψ (List.mem_append_right _ hψ)⟩
theorem BlksH.keep {v:AV} {bs:List BI} (h:BlksH τ v bs) (k:∀ψ,ψ∈Jd v bs→τ' ψ=τ ψ):BlksH τ' v bs:=
 ⟨Je h.1 fun ψ hψ=>k ψ (List.mem_append_left _ hψ),fun b hb=>(h.2 b hb).keep fun ψ hψ=>k ψ (List.mem_append_right _ (List.mem_flatMap.2 ⟨b,hb,hψ⟩))⟩
theorem JV {sz:Nat} {a:AV} {es:List (List AV)} (h:Buf τ sz a es) {ψ:Nat} (hm:ψ∈famL a):∃F,τ ψ=some F:=h.fam_some (Qe2.1 hm)
theorem ItsH.live {its:Its} (h:ItsH τ its) {ψ:Nat} (hm:ψ∈itsF its):∃F,τ ψ=some F:=by
 obtain ⟨p,hp,hψ⟩:=List.mem_flatMap.1 hm
 exact JV (h p hp) hψ
theorem OpsH.live {v:AV} {its:Its} (h:OpsH τ v its) {ψ:Nat} (hm:ψ∈Uc v its):∃F,τ ψ=some F:=by
 rcases List.mem_append.1 hm with hm|hm
 ·exact JV h.1 hm
 ·exact h.2.live hm
theorem BlksH.live {v:AV} {bs:List BI} (h:BlksH τ v bs) {ψ:Nat} (hm:ψ∈Jd v bs):∃F,τ ψ=some F:=by
 rcases List.mem_append.1 hm with hm|hm
 ·exact JV h.1 hm
 ·obtain ⟨b,hb,hψ⟩:=List.mem_flatMap.1 hm
  exact (h.2 b hb).live hψ
theorem Jx {sz:Nat} {a:AV} {es:List (List AV)} (h:Buf τ sz a es) (hn:es≠[]):∃φ st,a= .own φ st 0 es.length∧τ φ=some ⟨st,sz,es⟩:=by
 rcases h with ⟨_,e⟩|h
 ·exact absurd e hn
 ·exact h
theorem UL {sz:Nat} {a:AV} {es fs:List (List AV)} (h:Buf τ sz a es) (h0:∀ψ,ψ∈famL a→σ ψ=none) (hl:fs.length=es.length) (hz:∀c,c∈fs→c.length=sz)
  (hc:∀i j,i<es.length→j<sz→Fz σ τ ((es.getD i []).getD j .any) ((fs.getD i []).getD j .any)):Fz σ τ a (.ro fs):=by
 rcases h with ⟨e1,e⟩|⟨φ,st,rfl,hF⟩
 ·subst e
  have:fs=[]:=List.length_eq_zero_iff.1 hl
  subst this
  rcases e1 with rfl|rfl
  ·exact .nil
  ·exact .emp
 ·refine .own hF (h0 φ (by simp [famL])) rfl (by simp) hl (fun i hi=>?_) (fun i j hi hj=>?_)
  ·have hi':i<fs.length:=by omega
   have e:fs.getD i []=fs[i]:=by simp [List.getD,hi']
   rw [e];exact hz _ (List.getElem_mem hi')
  ·rw [Nat.zero_add];exact hc i j hi hj
theorem QrF {a:AV} {ds:List Dat} (h:Buf τ 4 a (ds.map Qc)) (h0:∀ψ,ψ∈famL a→σ ψ=none):Fz σ τ a (roD ds):=
 UL h h0 rfl (by intro c hc;obtain ⟨x,_,rfl⟩:=List.mem_map.1 hc;rfl) fun _ _ _ _=> .same _
theorem Qqu {v:AV} {its:Its} (h:OpsH τ v its) (h0:∀ψ,ψ∈Uc v its→σ ψ=none):Fz σ τ v (roO (its.map (·.1))):=by
 refine UL h.1 (fun ψ hψ=>h0 ψ (List.mem_append_left _ hψ)) (by simp) (by intro c hc;obtain ⟨x,_,rfl⟩:=List.mem_map.1 hc;rfl) fun i j hi hj=>?_
 have hi':i<its.length:=by simpa using hi
 have e1:(its.map fun p=>Qm p.1 p.2).getD i []=Qm its[i].1 its[i].2:=by simp [List.getD,hi']
 have e2:((its.map (·.1)).map Qp).getD i []=Qp its[i].1:=by simp [List.getD,hi']
 rw [e1,e2]
 match j,hj with
 |0,_=>exact .same _
 |1,_=>exact .same _
 |2,_=>exact .same _
 |3,_=>exact .same _
 |4,_=>exact .same _
 |5,_=>exact .same _
 |6,_=>exact QrF (h.2 _ (List.getElem_mem hi')) fun ψ hψ=>h0 ψ (List.mem_append_right _ (List.mem_flatMap.2 ⟨_,List.getElem_mem hi',hψ⟩))
def cont (bs:List BI):List Blk:=bs.map fun b=>⟨b.args,b.its.map (·.1)⟩
theorem QrG {v:AV} {bs:List BI} (h:BlksH τ v bs) (h0:∀ψ,ψ∈Jd v bs→σ ψ=none):Fz σ τ v (roBk (cont bs)):=by
 refine UL h.1 (fun ψ hψ=>h0 ψ (List.mem_append_left _ hψ)) (by simp [cont]) (by intro c hc;obtain ⟨x,_,rfl⟩:=List.mem_map.1 hc;rfl) fun i j hi hj=>?_
 have hi':i<bs.length:=by simpa using hi
 have e1:(bs.map fun b=>[iv b.args,b.av]).getD i []=[iv bs[i].args,bs[i].av]:=by simp [List.getD,hi']
 have e2:((cont bs).map QL).getD i []=[iv bs[i].args,roO (bs[i].its.map (·.1))]:=by simp [cont,List.getD,hi',QL]
 rw [e1,e2]
 match j,hj with
 |0,_=>exact .same _
 |1,_=>exact Qqu (h.2 _ (List.getElem_mem hi')) fun ψ hψ=>h0 ψ (List.mem_append_right _ (List.mem_flatMap.2 ⟨_,List.getElem_mem hi',hψ⟩))
theorem JA (a b:Its):itsF (a++b)=itsF a++itsF b:=by simp [itsF]
theorem Ju (p:OpD × AV) (r:Its):itsF (p::r)=famL p.2++itsF r:=by simp [itsF]
theorem Ql {a b:List Nat}:(a++b).Nodup↔a.Nodup∧b.Nodup∧∀x,x∈a→x∉b:=by
 rw [List.nodup_append]
 constructor
 ·rintro ⟨h1,h2,h3⟩
  exact ⟨h1,h2,fun x hx hb=>h3 x hx x hb rfl⟩
 ·rintro ⟨h1,h2,h3⟩
  exact ⟨h1,h2,fun x hx y hy e=>h3 x hx (e▸hy)⟩
theorem Qae (a:AV):(famL a).Nodup:=by cases a<;>simp [famL]
end
end Go.Proofs.YtggnjjalfnhiiaaGreatDoor.E
/- Marks, each known: what a law writes into code that is owned. -/
namespace Go.Proofs.YtggnjjalfnhiiaaGreatDoor.E
open Go Go.RowKit
set_option maxRecDepth 100000
def mkB (a:Int):ByteArray:=⟨[UInt8.ofNat (IntKind.u8.wrap (48+a % 10)).toNat].toArray⟩
def mkG:Nat→Int→ByteArray→ByteArray
 |0,_,s=>s
 |f+1,a,s=>if 0<a then mkG f (a / 10) (mkB a++s) else s
def mkT (k:Int):ByteArray:=if k≤0 then ⟨#[109,48]⟩ else ⟨#[109]⟩++mkG k.toNat k ⟨#[]⟩
theorem Qyb {f:Nat} {a:Int} {s:ByteArray} (h:0<a) (hf:a.toNat≤f):∃f',f=f'+1∧mkG f a s=mkG f' (a / 10) (mkB a++s):=by
 cases f with
 |zero=>omega
 |succ f'=>exact ⟨f',rfl,by rw [mkG,if_pos h]⟩
theorem Qyc {f:Nat} {a:Int} {s:ByteArray} (h:¬0<a):mkG f a s=s:=by
 cases f with
 |zero=>rfl
 |succ f=>rw [mkG,if_neg h]
section
variable [L:Lam]
variable {σ τ τ':AH} {R:AEnd→AH→Prop}
theorem Qaf {k:Int} (h0:0≤k) (h1:k≤9000000000000000000) (h:R (.ret (str (mkT k))) σ):acall TP QeA [iv k] σ R:=by
 refine QjD ?_
 unfold QfN x92;dsimp only [den,dE,di,tupL,lTup,dwat,Qe,List.map,Option.map,den0,den1,den2,den3,den4]
 unfold mkT at h
 by_cases c:k≤0
 ·rw [if_pos c] at h
  simp only [c,RR]
  exact Qa h
 rw [if_neg c] at h
 simp only [c,RR]
 refine QH (fun n x τ=>∃(a:Int) (s:ByteArray),x=(iv a,str s,())∧τ=σ∧0≤a∧a.toNat≤n∧s.size≤20∧a.toNat*10 ^ s.size≤9000000000000000000∧mkG n a s=mkG k.toNat k ⟨#[]⟩) k.toNat ⟨k,⟨#[]⟩,rfl,rfl,by omega,Nat.le_refl _,by rw [Qf3];omega,by rw [Qf3];omega,rfl⟩ ?_
 rintro n x τ ⟨a,s,rfl,rfl,ha,hn,hsz,hpw,hm0⟩ R' hR'
 by_cases c2:0<a
 ·obtain ⟨n',rfl,hm1⟩:=Qyb (s:=s) c2 hn
  have hs19:s.size<19:=by
   refine Classical.byContradiction fun c3=>?_
   have h1:(10:Nat) ^ 19≤10 ^ s.size:=Nat.pow_le_pow_right (by omega) (by omega)
   have h2:1*10 ^ s.size≤a.toNat*10 ^ s.size:=Nat.mul_le_mul_right _ (by omega)
   omega
  have hm:a % 10<10:=Int.emod_lt_of_pos _ (by omega)
  have hmn:0≤a % 10:=Int.emod_nonneg _ (by omega)
  have e1:ibin .rem (iv a) (.val (.int .i64 10))=some (iv (a % 10)):=by
   show some (iv (a.tmod 10))=_
   rw [Int.tmod_eq_emod_of_nonneg ha]
  have ha9:a.toNat≤9000000000000000000:=Nat.le_trans (Nat.le_mul_of_pos_right _ (Nat.pow_pos (by omega))) hpw
  have e2:ibin .add (.val (.int .i64 48)) (iv (a % 10))=some (iv (48+a % 10)):=Q6 (by omega) (by omega)
  have e3:UB .u8 (iv (48+a % 10))=some (.val (.int .u8 (IntKind.u8.wrap (48+a % 10)))):=rfl
  have e4:ibin .quo (iv a) (.val (.int .i64 10))=some (iv (a / 10)):=by
   show some (iv (IntKind.i64.wrap (a.tdiv 10)))=_
   rw [Int.tdiv_eq_ediv_of_nonneg ha,Qay (by omega) (by omega)]
  simp only [c2,e1,e2,e3,RR]
  refine ⟨by decide,?_⟩
  rw [if_neg (by decide)]
  intro ψ hψ
  have ha:∀w:Int,QF (τ.set ψ ⟨0,1,[[.val (.int .u8 w)]]⟩) (.own ψ 0 0 1)=some [[.val (.int .u8 w)]]:=fun w=>by simp [QF]
  have hb:∀w:Int,Qb7 [[.val (.int .u8 w)]]=some [UInt8.ofNat w.toNat]:=fun w=>rfl
  refine Qlx Qqn (ha _) (hb _) (by intro u h;cases h) (by intro kd n h;cases h) ?_
  have es:sbin .add (.val (.string ⟨[UInt8.ofNat (IntKind.u8.wrap (48+a % 10)).toNat].toArray⟩)) (str s)=some (str (mkB a++s)):=Qe0 (mkB a) s (by unfold mkB;rw [Qmh];omega)
  simp only [es,e4,RR]
  have hsz2:(mkB a++s).size=s.size+1:=by rw [ByteArray.size_append];unfold mkB;rw [Qmh];omega
  refine hR' _ _ n' τ (by omega) (.set (.refl τ) _ hψ) ⟨a / 10,_,rfl,rfl,by omega,by omega,by omega,?_,by rw [←hm1];exact hm0⟩
  rw [hsz2,Nat.pow_succ]
  have h3:(a / 10).toNat*10≤a.toNat:=by omega
  calc (a / 10).toNat*(10 ^ s.size*10)=((a / 10).toNat*10)*10 ^ s.size:=by rw [Nat.mul_comm (10 ^ s.size) 10,Nat.mul_assoc]
   _≤a.toNat*10 ^ s.size:=Nat.mul_le_mul_right _ h3
   _≤_:=hpw
 ·rw [Qyc c2] at hm0
  rw [←hm0] at h
  have es:=Qe0 ⟨#[109]⟩ s (by rw [QzR];omega)
  simp only [c2,es,RR]
  exact Qa h
def QpI (k:Int):Dat:=⟨k,k+1,k+1+1,mkT (k+1+1+1)⟩
def J5 (k:Int) (n:Nat):List Dat:=(List.range n).map fun i:Nat=>QpI (k+4*(i:Int))
theorem Qnp (k:Int) (n:Nat):(J5 k n).length=n:=by simp [J5]
theorem Qrf (k:Int) (n:Nat):J5 k (n+1)=J5 k n++[QpI (k+4*(n:Int))]:=by simp [J5,List.range_succ]
theorem JB {φ st sz off i:Nat} {pre post:List (List AV)} {r:List AV} {v:AV} {k:AH→Prop} (hp:pre.length=i) (ho:off<sz) (h1:v.one=true) (h:k (τ.set φ ⟨st,sz,pre++r.set off v::post⟩)):
  sto 1 (.ptr φ st i off) v (τ.set φ ⟨st,sz,pre++r::post⟩) k:=by
 refine Q0 (cs:=r) (AH.set_same ..) (by simp [←hp]) ho (JJ h1) h1 ?_
 have e:(pre++r::post).set i (r.set off v)=pre++r.set off v::post:=by subst hp;simp
 rw [AH.set_set,e]
 exact h
theorem U0 {φ st n sz i:Nat} {es:List (List AV)} (hi:i<n):idx sz (.own φ st 0 n) (iv (i:Int)) (τ.set φ ⟨st,sz,es⟩)=some (.ptr φ st i 0):=by
 have:=Jf (st:=st) (off:=0) (AH.set_same τ φ (⟨st,sz,es⟩:Fam)) hi
 rwa [Nat.zero_add] at this
theorem Q9 {sz:Nat} {a:AV} {es:List (List AV)} (h:Buf τ sz a es):lenS a=some (iv (es.length:Int)):=by
 rcases h with ⟨rfl|rfl,rfl⟩|⟨φ,st,rfl,_⟩<;>rfl
theorem add1 {m:Int} (h0:0≤m) (h1:m≤9100000000000000000):ibin .add (iv m) (.val (.int .i64 1))=some (iv (m+1)):=Q6 (by omega) (by omega)
theorem Qyd {c:List AV} (h:c.length=4):∃c0 c1 c2 c3,c=[c0,c1,c2,c3]:=by
 match c,h with
 |[c0,c1,c2,c3],_=>exact ⟨c0,c1,c2,c3,rfl⟩
theorem Qkb {a:AV} {es:List (List AV)} {k:Int} (h:Buf τ 4 a es) (hc:∀c,c∈es→c.length=4) (h0:0≤k) (h1:k+4*(es.length:Int)≤9000000000000000000)
  (hR:∀τ',Buf τ' 4 a ((J5 k es.length).map Qc)→(∀ψ,ψ∉famL a→τ' ψ=τ ψ)→R (.ret (iv (k+4*(es.length:Int)))) τ'):acall TP Qc9 [a,iv k] τ R:=by
 refine QhW ?_
 unfold QdN x93;dsimp only [den,dE,di,tupL,lTup,dwat,Qe,List.map,Option.map,den0,den1,den2,den3,den4]
 rcases h with ⟨hn,rfl⟩|⟨φ,st,rfl,hF⟩
 ·refine UW 0 (fun _=>(a,iv k,iv 0,())) (fun _=>True) rfl trivial ?_
  intro i _ _ R' _
  have e:lenS a=some (iv 0):=by rcases hn with rfl|rfl<;>rfl
  simp only [e,RR]
  refine Qa ?_
  have:=hR τ (.inl ⟨hn,rfl⟩) (fun _ _=>rfl)
  simpa using this
 ·refine Qc4 es.length (fun i=>(.own φ st 0 es.length,iv (k+4*(i:Int)),iv (i:Int),())) (fun i σ'=>σ'=τ.set φ ⟨st,4,(J5 k i).map Qc++es.drop i⟩) (by simp;rfl) (by simp [J5,AH.set_self hF]) ?_
  rintro i _ hi rfl R' hR'
  have el:lenS (.own φ st 0 es.length)=some (iv (es.length:Int)):=rfl
  simp only [el,RR]
  by_cases hlt:i<es.length
  ·have g:(i:Int)<(es.length:Int):=by omega
   have hpl:((J5 k i).map Qc).length=i:=by simp [J5]
   obtain ⟨c0,c1,c2,c3,hr⟩:=Qyd (hc _ (List.getElem_mem hlt))
   have hd:es.drop i=[c0,c1,c2,c3]::es.drop (i+1):=by rw [List.drop_eq_getElem_cons hlt,hr]
   rw [hd]
   simp only [g,U0 hlt,add1 (m:=k+4*(i:Int)) (by omega) (by omega),add1 (m:=k+4*(i:Int)+1) (by omega) (by omega),add1 (m:=k+4*(i:Int)+1+1) (by omega) (by omega),add1 (m:=k+4*(i:Int)+1+1+1) (by omega) (by omega),RR]
   refine JB hpl (by omega) rfl ?_
   simp only [U0 hlt,RR]
   refine JB hpl (by omega) rfl ?_
   simp only [U0 hlt,RR]
   refine JB hpl (by omega) rfl ?_
   refine Qaf (by omega) (by omega) ?_
   simp only [U0 hlt,RR]
   refine JB hpl (by omega) rfl ?_
   simp only [Qj hlt (by omega),RR]
   have:=hR' hlt _ _ (.refl _) rfl
   rw [Qrf,List.map_append,List.append_assoc] at this
   have e:k+4*(i:Int)+1+1+1+1=k+4*((i+1:Nat):Int):=by omega
   rw [e]
   exact this
  ·have g:¬(i:Int)<(es.length:Int):=by omega
   obtain rfl:i=es.length:=by omega
   simp only [g,RR]
   refine Qa (hR _ (.inr ⟨φ,st,by simp [J5],?_⟩) fun ψ hψ=>AH.set_ne' (by rintro rfl;exact hψ (by simp [famL])))
   rw [AH.set_same];simp
def mkOp (k:Int) (n:Nat):OpD:=⟨k,k+1,k+1+1,k+1+1+1,k+1+1+1+1,mkT (k+1+1+1+1+1),J5 (k+1+1+1+1+1+1) n⟩
def opsK (k:Int):List OpD→Int
 |[]=>k
 |o::r=>opsK (k+1+1+1+1+1+1+4*(o.data.length:Int)) r
def JM (k:Int):List OpD→List OpD
 |[]=>[]
 |o::r=>mkOp k o.data.length::JM (k+1+1+1+1+1+1+4*(o.data.length:Int)) r
def JH (k:Int):Its→Its
 |[]=>[]
 |p::r=>(mkOp k p.1.data.length,p.2)::JH (k+1+1+1+1+1+1+4*(p.1.data.length:Int)) r
theorem QcL:∀(os:List OpD) (k:Int),k+6*(os.length:Int)≤opsK k os:=by
 intro os
 induction os with
 |nil=>intro k;simp [opsK]
 |cons o r ih=>
  intro k
  have:=ih (k+1+1+1+1+1+1+4*(o.data.length:Int))
  simp only [opsK,List.length_cons]
  omega
theorem Qh9:∀(a b:List OpD) (k:Int),opsK k (a++b)=opsK (opsK k a) b:=by
 intro a
 induction a with
 |nil=>intro b k;rfl
 |cons o r ih=>intro b k;exact ih b _
theorem QtB:∀(a b:Its) (k:Int),JH k (a++b)=JH k a++JH (opsK k (a.map (·.1))) b:=by
 intro a
 induction a with
 |nil=>intro b k;rfl
 |cons o r ih=>intro b k;simp only [List.cons_append,JH,List.map_cons,opsK,ih]
theorem Qf6:∀(a:Its) (k:Int),(JH k a).length=a.length:=by
 intro a
 induction a with
 |nil=>intro k;rfl
 |cons o r ih=>intro k;simp [JH,ih]
theorem QtC:∀(a:Its) (k:Int),(JH k a).map (·.1)=JM k (a.map (·.1)):=by
 intro a
 induction a with
 |nil=>intro k;rfl
 |cons o r ih=>intro k;simp [JH,JM,ih]
theorem Qnq:∀(a:Its) (k:Int),itsF (JH k a)=itsF a:=by
 intro a
 induction a with
 |nil=>intro k;rfl
 |cons o r ih=>intro k;rw [JH,Ju,Ju,ih]
theorem Qnr:∀(a:List OpD) (k:Int),(JM k a).length=a.length:=by
 intro a
 induction a with
 |nil=>intro k;rfl
 |cons o r ih=>intro k;simp [JM,ih]
abbrev Qh (p:OpD × AV):List AV:=Qm p.1 p.2
theorem Qns {v:AV} {its:Its} {k:Int} (h:OpsH τ v its) (hnd:(Uc v its).Nodup) (h0:0≤k) (h1:opsK k (its.map (·.1))≤9000000000000000000)
  (hR:∀τ',OpsH τ' v (JH k its)→(∀ψ,ψ∉Uc v its→τ' ψ=τ ψ)→R (.ret (iv (opsK k (its.map (·.1))))) τ'):acall TP Qfq [v,iv k] τ R:=by
 refine QkL ?_
 unfold Qg6 x65;dsimp only [den,dE,di,tupL,lTup,dwat,Qe,List.map,Option.map,den0,den1,den2,den3,den4]
 refine QH (fun n x τ'=>∃don rest:Its,its=don++rest∧rest.length=n∧x=(v,iv (opsK k (don.map (·.1))),iv (don.length:Int),())∧Buf τ' 7 v ((JH k don++rest).map Qh)∧ItsH τ' (JH k don)∧ItsH τ' rest∧
   ∀ψ,ψ∉famL v→ψ∉itsF don→τ' ψ=τ ψ) its.length ⟨[],its,rfl,rfl,rfl,h.1,(fun p hp=>by cases hp),h.2,fun _ _ _=>rfl⟩ ?_
 rintro n x τ1 ⟨don,rest,hit,hrl,rfl,hB,hD,hT,hfr⟩ R' hR'
 have hlen:=Q9 hB
 have hle:((JH k don++rest).map Qh).length=don.length+rest.length:=by simp [Qf6]
 rw [hle] at hlen
 simp only [hlen,RR]
 cases rest with
 |nil=>
  have g:¬(don.length:Int)<((don.length+([]:Its).length:Nat):Int):=by simp
  simp only [g,RR]
  rw [List.append_nil] at hit
  subst hit
  rw [List.append_nil] at hB
  refine Qa (hR τ1 ⟨hB,hD⟩ fun ψ hψ=>hfr ψ (fun c=>hψ (List.mem_append_left _ c)) fun c=>hψ (List.mem_append_right _ c))
 |cons p r=>
  have g:(don.length:Int)<((don.length+(p::r).length:Nat):Int):=by simp;omega
  have hi:don.length<don.length+(p::r).length:=by simp
  have hpl:((JH k don).map Qh).length=don.length:=by simp [Qf6]
  obtain ⟨φ,st,rfl,hF⟩:=Jx hB (by simp)
  rw [hle] at hlen ⊢
  have hk1:=QcL (don.map (·.1)) k
  have hk2:opsK k (its.map (·.1))=opsK (opsK k (don.map (·.1))+1+1+1+1+1+1+4*(p.1.data.length:Int)) (r.map (·.1)):=by
   rw [hit,List.map_append,Qh9];rfl
  have hk3:=QcL (r.map (·.1)) (opsK k (don.map (·.1))+1+1+1+1+1+1+4*(p.1.data.length:Int))
  generalize hm:opsK k (don.map (·.1))=m at*
  have hm0:0≤m:=by simp at hk1;omega
  have hm9:m+1+1+1+1+1+1+4*(p.1.data.length:Int)≤9000000000000000000:=by simp at hk3;omega
  have hset:τ1=τ1.set φ ⟨st,7,(JH k don).map Qh++Qh p::r.map Qh⟩:=by
   rw [AH.set_self];rw [hF];simp
  -- families
  have hnd2:(famL (.own φ st 0 (don.length+(p::r).length))++(itsF don++(famL p.2++itsF r))).Nodup:=by
   have:=hnd
   rw [Uc,hit,JA,Ju,hle] at this
   exact this
  obtain ⟨_,hnd3,hnd4⟩:=Ql.1 hnd2
  obtain ⟨_,hnd5,hnd6⟩:=Ql.1 hnd3
  obtain ⟨_,_,hnd7⟩:=Ql.1 hnd5
  have hφp:φ∉famL p.2:=fun c=>hnd4 φ (by simp [famL]) (by simp [c])
  have hφr:φ∉itsF r:=fun c=>hnd4 φ (by simp [famL]) (by simp [c])
  have hφd:φ∉itsF don:=fun c=>hnd4 φ (by simp [famL]) (by simp [c])
  simp only [g,RR]
  rw [hset]
  simp only [U0 hi,add1 (m:=m) (by omega) (by omega),add1 (m:=m+1) (by omega) (by omega),add1 (m:=m+1+1) (by omega) (by omega),add1 (m:=m+1+1+1) (by omega) (by omega),add1 (m:=m+1+1+1+1) (by omega) (by omega),add1 (m:=m+1+1+1+1+1) (by omega) (by omega),RR]
  refine JB hpl (by omega) rfl ?_
  simp only [U0 hi,RR]
  refine JB hpl (by omega) rfl ?_
  simp only [U0 hi,RR]
  refine JB hpl (by omega) rfl ?_
  simp only [U0 hi,RR]
  refine JB hpl (by omega) rfl ?_
  simp only [U0 hi,RR]
  refine JB hpl (by omega) rfl ?_
  refine Qaf (by omega) (by omega) ?_
  simp only [U0 hi,RR]
  refine JB hpl (by omega) rfl ?_
  have erow:((((((Qh p).set 0 (iv m)).set 1 (iv (m+1))).set 2 (iv (m+1+1))).set 3 (iv (m+1+1+1))).set 4 (iv (m+1+1+1+1))).set 5 (str (mkT (m+1+1+1+1+1)))=[iv m,iv (m+1),iv (m+1+1),iv (m+1+1+1),iv (m+1+1+1+1),str (mkT (m+1+1+1+1+1)),p.2]:=rfl
  rw [erow]
  generalize hτ2:τ1.set φ ⟨st,7,(JH k don).map Qh++[iv m,iv (m+1),iv (m+1+1),iv (m+1+1+1),iv (m+1+1+1+1),str (mkT (m+1+1+1+1+1)),p.2]::r.map Qh⟩=τ2
  have hF2:τ2 φ=some ⟨st,7,(JH k don).map Qh++[iv m,iv (m+1),iv (m+1+1),iv (m+1+1+1),iv (m+1+1+1+1),str (mkT (m+1+1+1+1+1)),p.2]::r.map Qh⟩:=by rw [←hτ2,AH.set_same]
  have h2:∀ψ,ψ≠φ→τ2 ψ=τ1 ψ:=fun ψ hψ=>by rw [←hτ2,AH.set_ne' hψ]
  have el:lod (.ptr φ st don.length 6) τ2=some p.2:=Qz hF2 rfl (by simp [List.getD,List.getElem?_append_right,hpl,Qf6])
  have ix:idx 7 (.own φ st 0 (don.length+(p::r).length)) (iv (don.length:Int)) τ2=some (.ptr φ st don.length 0):=by rw [←hτ2];exact U0 hi
  simp only [ix,el,RR]
  have hBp:Buf τ2 4 p.2 (p.1.data.map Qc):=Je (hT p (by simp)) fun ψ hψ=>h2 ψ (by rintro rfl;exact hφp hψ)
  have el2:(p.1.data.map Qc).length=p.1.data.length:=by simp
  refine Qkb hBp (by intro c hc;obtain ⟨x,_,rfl⟩:=List.mem_map.1 hc;rfl) (by omega) (by rw [el2];omega) fun τ3 hB3 hfr3=>?_
  rw [el2] at hB3 ⊢
  simp only [Qj hi (by simp at hk1 hk3 ⊢;omega),RR]
  have hFm:(m+1+1+1+1+1+1+4*(p.1.data.length:Int))=opsK k ((don++[p]).map (·.1)):=by rw [List.map_append,Qh9,hm];rfl
  have emk:JH k (don++[p])=JH k don++[(mkOp m p.1.data.length,p.2)]:=by rw [QtB,hm];rfl
  refine hR' _ _ r.length τ3 (by rw [←hrl];simp) (.refl _) ⟨don++[p],r,by simp [hit],rfl,?_,?_,?_,?_,?_⟩
  ·rw [hFm,hle];simp;rfl
  ·refine .inr ⟨φ,st,?_,?_⟩
   ·simp [Qf6];omega
   ·rw [hfr3 φ hφp,hF2,emk]
    simp [Qh,Qm,mkOp]
  ·rw [emk]
   intro q hq
   rcases List.mem_append.1 hq with hq|hq
   ·refine Je (hD q hq) fun ψ hψ=>?_
    have hψd:ψ∈itsF don:=by rw [←Qnq don k];exact List.mem_flatMap.2 ⟨q,hq,hψ⟩
    rw [hfr3 ψ fun c=>hnd6 ψ hψd (by simp [c]),h2 ψ (by rintro rfl;exact hφd hψd)]
   ·obtain rfl:q=(mkOp m p.1.data.length,p.2):=by simpa using hq
    exact hB3
  ·intro q hq
   refine Je (hT q (by simp [hq])) fun ψ hψ=>?_
   have hψr:ψ∈itsF r:=List.mem_flatMap.2 ⟨q,hq,hψ⟩
   rw [hfr3 ψ fun c=>hnd7 ψ c hψr,h2 ψ (by rintro rfl;exact hφr hψr)]
  ·intro ψ hψ hψd
   rw [JA] at hψd
   have hψd1:ψ∉itsF don:=fun c=>hψd (List.mem_append_left _ c)
   have hψp:ψ∉famL p.2:=fun c=>hψd (List.mem_append_right _ (by simp [itsF,c]))
   rw [hfr3 ψ hψp,h2 ψ (by rintro rfl;exact hψ (by simp [famL]))]
   exact hfr ψ hψ hψd1
end
end Go.Proofs.YtggnjjalfnhiiaaGreatDoor.E
/- Code that is owned: marks of blocks, what is held, copies of arguments, what is lent. -/
namespace Go.Proofs.YtggnjjalfnhiiaaGreatDoor.E
open Go Go.RowKit
set_option maxRecDepth 100000
variable [L:Lam]
abbrev J0 (b:BI):List AV:=[iv b.args,b.av]
def QC (k:Int):List Blk→Int
 |[]=>k
 |b::r=>QC (opsK (k+1) b.ops) r
def Jp (k:Int):List Blk→List Blk
 |[]=>[]
 |b::r=>⟨k,JM (k+1) b.ops⟩::Jp (opsK (k+1) b.ops) r
def Qv0 (b:BI):Blk:=⟨b.args,b.its.map (·.1)⟩
def mkBk (k:Int):List BI→List BI
 |[]=>[]
 |b::r=>⟨k,b.av,JH (k+1) b.its⟩::mkBk (opsK (k+1) (b.its.map (·.1))) r
theorem QcM:∀(bs:List Blk) (k:Int),k+(bs.length:Int)≤QC k bs:=by
 intro bs
 induction bs with
 |nil=>intro k;simp [QC]
 |cons b r ih=>
  intro k
  have:=ih (opsK (k+1) b.ops)
  have:=QcL b.ops (k+1)
  simp only [QC,List.length_cons]
  omega
theorem Qf7:∀(a b:List Blk) (k:Int),QC k (a++b)=QC (QC k a) b:=by
 intro a
 induction a with
 |nil=>intro b k;rfl
 |cons o r ih=>intro b k;exact ih b _
theorem Qvf:∀(a b:List BI) (k:Int),mkBk k (a++b)=mkBk k a++mkBk (QC k (cont a)) b:=by
 intro a
 induction a with
 |nil=>intro b k;rfl
 |cons o r ih=>intro b k;simp only [List.cons_append,mkBk,cont,List.map_cons,QC,ih]
theorem Qia:∀(a:List BI) (k:Int),(mkBk k a).length=a.length:=by
 intro a
 induction a with
 |nil=>intro k;rfl
 |cons o r ih=>intro k;simp [mkBk,ih]
theorem QtD:∀(a:List BI) (k:Int),cont (mkBk k a)=Jp k (cont a):=by
 intro a
 induction a with
 |nil=>intro k;rfl
 |cons o r ih=>
  intro k
  have:=ih (opsK (k+1) (o.its.map (·.1)))
  simp only [cont] at this
  simp [mkBk,Jp,cont,QtC,this]
def bsF (bs:List BI):List Nat:=bs.flatMap biF
theorem Ut (a b:List BI):bsF (a++b)=bsF a++bsF b:=by simp [bsF]
theorem JW (b:BI) (r:List BI):bsF (b::r)=biF b++bsF r:=by simp [bsF]
theorem Qvg:∀(a:List BI) (k:Int),bsF (mkBk k a)=bsF a:=by
 intro a
 induction a with
 |nil=>intro k;rfl
 |cons o r ih=>intro k;rw [mkBk,JW,JW,ih];simp [biF,Uc,Qnq]
section
variable {σ τ τ':AH} {R:AEnd→AH→Prop}
def BisH (τ:AH) (bs:List BI):Prop:=∀b,b∈bs→OpsH τ b.av b.its
theorem Qkc {v:AV} {bs:List BI} {k:Int} (h:BlksH τ v bs) (hnd:(Jd v bs).Nodup) (h0:0≤k) (h1:QC k (cont bs)≤9000000000000000000)
  (hR:∀τ',BlksH τ' v (mkBk k bs)→(∀ψ,ψ∉Jd v bs→τ' ψ=τ ψ)→R (.ret (iv (QC k (cont bs)))) τ'):acall TP Qc6 [v,iv k] τ R:=by
 refine QhP ?_
 unfold QdG x36;dsimp only [den,dE,di,tupL,lTup,dwat,Qe,List.map,Option.map,den0,den1,den2,den3,den4]
 refine QH (fun n x τ'=>∃don rest:List BI,bs=don++rest∧rest.length=n∧x=(v,iv (QC k (cont don)),iv (don.length:Int),())∧Buf τ' 2 v ((mkBk k don++rest).map J0)∧BisH τ' (mkBk k don)∧BisH τ' rest∧
   ∀ψ,ψ∉famL v→ψ∉bsF don→τ' ψ=τ ψ) bs.length ⟨[],bs,rfl,rfl,rfl,h.1,(fun p hp=>by cases hp),h.2,fun _ _ _=>rfl⟩ ?_
 rintro n x τ1 ⟨don,rest,hit,hrl,rfl,hB,hD,hT,hfr⟩ R' hR'
 have hlen:=Q9 hB
 have hle:((mkBk k don++rest).map J0).length=don.length+rest.length:=by simp [Qia]
 rw [hle] at hlen
 simp only [hlen,RR]
 cases rest with
 |nil=>
  have g:¬(don.length:Int)<((don.length+([]:List BI).length:Nat):Int):=by simp
  simp only [g,RR]
  rw [List.append_nil] at hit
  subst hit
  rw [List.append_nil] at hB
  refine Qa (hR τ1 ⟨hB,hD⟩ fun ψ hψ=>hfr ψ (fun c=>hψ (List.mem_append_left _ c)) fun c=>hψ (List.mem_append_right _ c))
 |cons p r=>
  have g:(don.length:Int)<((don.length+(p::r).length:Nat):Int):=by simp;omega
  have hi:don.length<don.length+(p::r).length:=by simp
  have hpl:((mkBk k don).map J0).length=don.length:=by simp [Qia]
  obtain ⟨φ,st,rfl,hF⟩:=Jx hB (by simp)
  rw [hle] at hlen ⊢
  have hk1:=QcM (cont don) k
  have hk2:QC k (cont bs)=QC (opsK (QC k (cont don)+1) (p.its.map (·.1))) (cont r):=by
   have e:cont bs=cont don++cont (p::r):=by rw [hit];simp [cont]
   rw [e,Qf7];rfl
  have hk3:=QcM (cont r) (opsK (QC k (cont don)+1) (p.its.map (·.1)))
  have hk4:=QcL (p.its.map (·.1)) (QC k (cont don)+1)
  have hcl:(cont don).length=don.length:=by simp [cont]
  have hcr:(cont r).length=r.length:=by simp [cont]
  rw [hcl] at hk1
  rw [hcr] at hk3
  generalize hm:QC k (cont don)=m at*
  have hm0:0≤m:=by omega
  have hset:τ1=τ1.set φ ⟨st,2,(mkBk k don).map J0++J0 p::r.map J0⟩:=by
   rw [AH.set_self];rw [hF];simp
  have hnd2:(famL (.own φ st 0 (don.length+(p::r).length))++(bsF don++(biF p++bsF r))).Nodup:=by
   have:=hnd
   rw [Jd,hle] at this
   rw [←JW,←Ut,←hit]
   exact this
  obtain ⟨_,hnd3,hnd4⟩:=Ql.1 hnd2
  obtain ⟨_,hnd5,hnd6⟩:=Ql.1 hnd3
  obtain ⟨hndp,_,hnd7⟩:=Ql.1 hnd5
  have hφp:φ∉biF p:=fun c=>hnd4 φ (by simp [famL]) (by simp [c])
  have hφr:φ∉bsF r:=fun c=>hnd4 φ (by simp [famL]) (by simp [c])
  have hφd:φ∉bsF don:=fun c=>hnd4 φ (by simp [famL]) (by simp [c])
  simp only [g,RR]
  rw [hset]
  simp only [U0 hi,add1 (m:=m) (by omega) (by omega),RR]
  refine JB hpl (by omega) rfl ?_
  have erow:(J0 p).set 0 (iv m)=[iv m,p.av]:=rfl
  rw [erow]
  generalize hτ2:τ1.set φ ⟨st,2,(mkBk k don).map J0++[iv m,p.av]::r.map J0⟩=τ2
  have hF2:τ2 φ=some ⟨st,2,(mkBk k don).map J0++[iv m,p.av]::r.map J0⟩:=by rw [←hτ2,AH.set_same]
  have h2:∀ψ,ψ≠φ→τ2 ψ=τ1 ψ:=fun ψ hψ=>by rw [←hτ2,AH.set_ne' hψ]
  have el:lod (.ptr φ st don.length 1) τ2=some p.av:=Qz hF2 rfl (by simp [List.getD,List.getElem?_append_right,hpl,Qia])
  have ix:idx 2 (.own φ st 0 (don.length+(p::r).length)) (iv (don.length:Int)) τ2=some (.ptr φ st don.length 0):=by rw [←hτ2];exact U0 hi
  simp only [ix,el,RR]
  have hBp:OpsH τ2 p.av p.its:=(hT p (by simp)).keep fun ψ hψ=>h2 ψ (by rintro rfl;exact hφp hψ)
  refine Qns hBp hndp (by omega) (by omega) fun τ3 hB3 hfr3=>?_
  simp only [Qj hi (by simp at hk1 hk3 ⊢;omega),RR]
  have hFm:opsK (m+1) (p.its.map (·.1))=QC k (cont (don++[p])):=by
   have e:cont (don++[p])=cont don++cont [p]:=by simp [cont]
   rw [e,Qf7,hm];rfl
  have emk:mkBk k (don++[p])=mkBk k don++[⟨m,p.av,JH (m+1) p.its⟩]:=by rw [Qvf,hm];rfl
  refine hR' _ _ r.length τ3 (by rw [←hrl];simp) (.refl _) ⟨don++[p],r,by simp [hit],rfl,?_,?_,?_,?_,?_⟩
  ·rw [hFm,hle];simp;rfl
  ·refine .inr ⟨φ,st,?_,?_⟩
   ·simp [Qia];omega
   ·rw [hfr3 φ hφp,hF2,emk]
    simp
  ·rw [emk]
   intro q hq
   rcases List.mem_append.1 hq with hq|hq
   ·refine (hD q hq).keep fun ψ hψ=>?_
    have hψd:ψ∈bsF don:=by rw [←Qvg don k];exact List.mem_flatMap.2 ⟨q,hq,hψ⟩
    rw [hfr3 ψ fun c=>hnd6 ψ hψd (List.mem_append_left _ c),h2 ψ (by rintro rfl;exact hφd hψd)]
   ·obtain rfl:q=⟨m,p.av,JH (m+1) p.its⟩:=by simpa using hq
    exact hB3
  ·intro q hq
   refine (hT q (by simp [hq])).keep fun ψ hψ=>?_
   have hψr:ψ∈bsF r:=List.mem_flatMap.2 ⟨q,hq,hψ⟩
   rw [hfr3 ψ fun c=>hnd7 ψ c hψr,h2 ψ (by rintro rfl;exact hφr hψr)]
  ·intro ψ hψ hψd
   rw [Ut] at hψd
   have hψd1:ψ∉bsF don:=fun c=>hψd (List.mem_append_left _ c)
   have hψp:ψ∉biF p:=fun c=>hψd (List.mem_append_right _ (by simp [bsF,c]))
   rw [hfr3 ψ hψp,h2 ψ (by rintro rfl;exact hψ (by simp [famL]))]
   exact hfr ψ hψ hψd1
theorem Qgs {c k:Int} {v:AV} {bs:List BI} (h:BlksH τ v bs) (hnd:(Jd v bs).Nodup) (h0:0≤k) (h1:QC k (cont bs)≤9000000000000000000)
  (hR:∀τ',BlksH τ' v (mkBk k bs)→(∀ψ,ψ∉Jd v bs→τ' ψ=τ ψ)→R (.ret (iv (QC k (cont bs)))) τ'):acall TP Qbf [.agg [iv c,v],iv k] τ R:=by
 refine QeN ?_
 unfold QbT x16;dsimp only [den,dE,di,tupL,lTup,dwat,Qe,List.map,Option.map,den0,den1,den2,den3,den4]
 refine UX rfl ?_
 have e:∀τ,lod (.rop [iv c,v] 1) τ=some v:=fun _=>rfl
 simp only [e,RR]
 refine Qkc h hnd h0 h1 fun τ' hB hfr=>?_
 simp only [RR]
 exact Qa (hR τ' hB hfr)
theorem QrH {X:Type} {enc:X→List AV} {sz i:Nat} {pre post:List X} {x:X} (hp:pre.length=i) (hl:∀x,(enc x).length=sz):idx sz (.ro ((pre++x::post).map enc)) (iv (i:Int)) σ=some (.rop (enc x) 0):=by
 subst hp
 have h:pre.length<(pre++x::post).length:=by simp
 have:=Qu (σ:=σ) (enc:=enc) h hl
 rw [this];simp
theorem Qk8 {k:Int} {n:Nat} (h0:0≤k) (h1:k+4*(n:Int)≤9000000000000000000) (h:R (.ret (iv (k+4*(n:Int)))) σ):acall TP Qda [roD (J5 k n),iv k] σ R:=by
 refine QhX ?_
 unfold QdO x94;dsimp only [den,dE,di,tupL,lTup,dwat,Qe,List.map,Option.map,den0,den1,den2,den3,den4]
 refine Qrv n (fun i=>(roD (J5 k n),iv (k+4*(i:Int)),iv (i:Int),())) (by simp;rfl) ?_
 intro i hi R' hR'
 simp only [QB,Qnp,RR]
 by_cases hlt:i<n
 ·have g:(i:Int)<(n:Int):=by omega
  have hlt':i<(J5 k n).length:=by simpa [Qnp] using hlt
  have ei:(J5 k n)[i]=QpI (k+4*(i:Int)):=by simp [J5]
  simp only [g,Qu hlt' Qk,ei,add1 (m:=k+4*(i:Int)) (by omega) (by omega),add1 (m:=k+4*(i:Int)+1) (by omega) (by omega),add1 (m:=k+4*(i:Int)+1+1) (by omega) (by omega),add1 (m:=k+4*(i:Int)+1+1+1) (by omega) (by omega),RR,RT]
  simp only [QpI,JK,RR]
  refine Qaf (by omega) (by omega) ?_
  simp only [Qaz,JK,Qj hlt (by omega),eq_self,and_true,true_and,RR]
  have:=hR' hlt _ (.refl σ)
  have e:k+4*(i:Int)+1+1+1+1=k+4*((i+1:Nat):Int):=by omega
  rw [e]
  exact this
 ·have g:¬(i:Int)<(n:Int):=by omega
  obtain rfl:i=n:=by omega
  simp only [g,RR]
  exact Qa h
theorem QsA:∀(a b:List OpD) (k:Int),JM k (a++b)=JM k a++JM (opsK k a) b:=by
 intro a
 induction a with
 |nil=>intro b k;rfl
 |cons o r ih=>intro b k;simp only [List.cons_append,JM,opsK,ih]
theorem QsB:∀(a b:List Blk) (k:Int),Jp k (a++b)=Jp k a++Jp (QC k a) b:=by
 intro a
 induction a with
 |nil=>intro b k;rfl
 |cons o r ih=>intro b k;simp only [List.cons_append,Jp,QC,ih]
theorem Qnt:∀(a:List Blk) (k:Int),(Jp k a).length=a.length:=by
 intro a
 induction a with
 |nil=>intro k;rfl
 |cons o r ih=>intro k;simp [Jp,ih]
theorem Qoy {k:Int} {os:List OpD} (h0:0≤k) (h1:opsK k os≤9000000000000000000) (h:R (.ret (iv (opsK k os))) σ):acall TP Qfr [roO (JM k os),iv k] σ R:=by
 refine QkM ?_
 unfold Qg7 x66;dsimp only [den,dE,di,tupL,lTup,dwat,Qe,List.map,Option.map,den0,den1,den2,den3,den4]
 refine QH (fun n x τ'=>τ'=σ∧∃don rest:List OpD,os=don++rest∧rest.length=n∧x=(roO (JM k os),iv (opsK k don),iv (don.length:Int),())) os.length ⟨rfl,[],os,rfl,rfl,rfl⟩ ?_
 rintro n x _ ⟨rfl,don,rest,hit,hrl,rfl⟩ R' hR'
 simp only [QB,Qnr,RR]
 cases rest with
 |nil=>
  rw [List.append_nil] at hit
  subst hit
  have g:¬(os.length:Int)<(os.length:Int):=by omega
  simp only [g,RR]
  exact Qa h
 |cons p r=>
  have hi:don.length<os.length:=by rw [hit];simp
  have g:(don.length:Int)<(os.length:Int):=by omega
  have hk1:=QcL don k
  have hk2:opsK k os=opsK (opsK k don+1+1+1+1+1+1+4*(p.data.length:Int)) r:=by rw [hit,Qh9];rfl
  have hk3:=QcL r (opsK k don+1+1+1+1+1+1+4*(p.data.length:Int))
  have eL:JM k os=JM k don++mkOp (opsK k don) p.data.length::JM (opsK k don+1+1+1+1+1+1+4*(p.data.length:Int)) r:=by rw [hit,QsA];rfl
  have ix:=fun σ=>QrH (σ:=σ) (pre:=JM k don) (post:=JM (opsK k don+1+1+1+1+1+1+4*(p.data.length:Int)) r) (x:=mkOp (opsK k don) p.data.length) (Qnr don k) Jg
  rw [←eL] at ix
  have hol:os.length=don.length+(r.length+1):=by rw [hit];simp
  have hfin:opsK k (don++[p])=opsK k don+1+1+1+1+1+1+4*(p.data.length:Int):=by rw [Qh9];rfl
  generalize hm:opsK k don=m at*
  have hm0:0≤m:=by omega
  have hm9:m+1+1+1+1+1+1+4*(p.data.length:Int)≤9000000000000000000:=by omega
  simp only [g,ix,add1 (m:=m) (by omega) (by omega),add1 (m:=m+1) (by omega) (by omega),add1 (m:=m+1+1) (by omega) (by omega),add1 (m:=m+1+1+1) (by omega) (by omega),add1 (m:=m+1+1+1+1) (by omega) (by omega),add1 (m:=m+1+1+1+1+1) (by omega) (by omega),RR,RT]
  simp only [mkOp,JK,RR]
  refine Qaf (by omega) (by omega) ?_
  simp only [Qaz,JK,eq_self,and_true,true_and,RR]
  refine Qk8 (by omega) (by omega) ?_
  have g2:¬(m+1+1+1+1+1+1+4*(p.data.length:Int))<0:=by omega
  simp only [g2,Qj hi (by omega),RR]
  refine hR' _ _ r.length _ (by rw [←hrl];simp) (.refl _) ⟨rfl,don++[p],r,by simp [hit],rfl,?_⟩
  rw [hfin];simp;rfl
theorem Qk9 {k:Int} {bs:List Blk} (h0:0≤k) (h1:QC k bs≤9000000000000000000) (h:R (.ret (iv (QC k bs))) σ):acall TP Qc7 [roBk (Jp k bs),iv k] σ R:=by
 refine QhQ ?_
 unfold QdH x37;dsimp only [den,dE,di,tupL,lTup,dwat,Qe,List.map,Option.map,den0,den1,den2,den3,den4]
 refine QH (fun n x τ'=>τ'=σ∧∃don rest:List Blk,bs=don++rest∧rest.length=n∧x=(roBk (Jp k bs),iv (QC k don),iv (don.length:Int),())) bs.length ⟨rfl,[],bs,rfl,rfl,rfl⟩ ?_
 rintro n x _ ⟨rfl,don,rest,hit,hrl,rfl⟩ R' hR'
 simp only [QB,Qnt,RR]
 cases rest with
 |nil=>
  rw [List.append_nil] at hit
  subst hit
  have g:¬(bs.length:Int)<(bs.length:Int):=by omega
  simp only [g,RR]
  exact Qa h
 |cons p r=>
  have hi:don.length<bs.length:=by rw [hit];simp
  have hol:bs.length=don.length+(r.length+1):=by rw [hit];simp
  have g:(don.length:Int)<(bs.length:Int):=by omega
  have hk1:=QcM don k
  have hk2:QC k bs=QC (opsK (QC k don+1) p.ops) r:=by rw [hit,Qf7];rfl
  have hk3:=QcM r (opsK (QC k don+1) p.ops)
  have hk4:=QcL p.ops (QC k don+1)
  have eL:Jp k bs=Jp k don++⟨QC k don,JM (QC k don+1) p.ops⟩::Jp (opsK (QC k don+1) p.ops) r:=by rw [hit,QsB];rfl
  have ix:=fun σ=>QrH (σ:=σ) (pre:=Jp k don) (post:=Jp (opsK (QC k don+1) p.ops) r) (x:=(⟨QC k don,JM (QC k don+1) p.ops⟩:Blk)) (Qnt don k) JX
  rw [←eL] at ix
  have hfin:QC k (don++[p])=opsK (QC k don+1) p.ops:=by rw [Qf7];rfl
  generalize hm:QC k don=m at*
  have hm0:0≤m:=by omega
  simp only [g,ix,add1 (m:=m) (by omega) (by omega),JK,RR,RT]
  refine Qoy (by omega) (by omega) ?_
  have g2:¬opsK (m+1) p.ops<0:=by omega
  simp only [g2,Qj hi (by omega),RR]
  refine hR' _ _ r.length _ (by rw [←hrl];simp) (.refl _) ⟨rfl,don++[p],r,by simp [hit],rfl,?_⟩
  rw [hfin];simp;rfl
theorem Qhv {c k:Int} {bs:List Blk} (h0:0≤k) (h1:QC k bs≤9000000000000000000) (h:R (.ret (iv (QC k bs))) σ):acall TP UR [.agg [iv c,roBk (Jp k bs)],iv k] σ R:=by
 refine QeO ?_
 unfold QbU x17;dsimp only [den,dE,di,tupL,lTup,dwat,Qe,List.map,Option.map,den0,den1,den2,den3,den4]
 refine UX rfl ?_
 have e:∀τ,lod (.rop [iv c,roBk (Jp k bs)] 1) τ=some (roBk (Jp k bs)):=fun _=>rfl
 simp only [e,RR]
 refine Qk9 h0 h1 ?_
 have hk1:=QcM bs k
 have g2:¬QC k bs<0:=by omega
 simp only [g2,RR]
 exact Qa h
theorem Qi9 {c:Int} {bs:List Blk} (hb:bC 1048576 bs) (h:R (.ret (bv true)) σ):acall TP Um [.agg [iv c,roBk bs],.agg [iv c,roBk bs]] σ R:=by
 refine Qgl ?_
 unfold Qcz x15;dsimp only [den,dE,di,tupL,lTup,dwat,Qe,List.map,Option.map,den0,den1,den2,den3,den4]
 refine Qh3 rfl rfl ?_
 have e0:∀τ,lod (.rop [iv c,roBk bs] 0) τ=some (iv c):=fun _=>rfl
 have e1:∀τ,lod (.rop [iv c,roBk bs] 1) τ=some (roBk bs):=fun _=>rfl
 simp only [RR,e0,e1,JK]
 refine Qng hb ?_
 simp only [RR]
 exact Qa h
end
end Go.Proofs.YtggnjjalfnhiiaaGreatDoor.E
/- Code that is owned: copies of arguments; what is lent. -/
namespace Go.Proofs.YtggnjjalfnhiiaaGreatDoor.E
open Go Go.RowKit
set_option maxRecDepth 100000
variable [L:Lam]
variable {σ τ τ':AH} {R:AEnd→AH→Prop}
structure NewO (σ τ:AH) (v:AV) (its:Its):Prop where
 own:OpsH τ v its
 nd:(Uc v its).Nodup
 fr:∀ψ,ψ∈Uc v its→σ ψ=none
 sub:AH.Sub σ τ
structure NewB (σ τ:AH) (v:AV) (bs:List BI):Prop where
 own:BlksH τ v bs
 nd:(Jd v bs).Nodup
 fr:∀ψ,ψ∈Jd v bs→σ ψ=none
 sub:AH.Sub σ τ
theorem NewO.one {v:AV} {its:Its} (h:NewO σ τ v its):v.one=true:=by
 rcases h.own.1 with ⟨rfl|rfl,_⟩|⟨φ,st,rfl,_⟩<;>rfl
theorem BisH.keep {bs:List BI} (h:BisH τ bs) (k:∀ψ,ψ∈bsF bs→τ' ψ=τ ψ):BisH τ' bs:=fun b hb=>(h b hb).keep fun ψ hψ=>k ψ (List.mem_flatMap.2 ⟨b,hb,hψ⟩)
theorem BisH.live {bs:List BI} (h:BisH τ bs) {ψ:Nat} (hm:ψ∈bsF bs):∃F,τ ψ=some F:=by
 obtain ⟨b,hb,hψ⟩:=List.mem_flatMap.1 hm
 exact (h b hb).live hψ
theorem NewB.one {v:AV} {bs:List BI} (h:NewB σ τ v bs):v.one=true:=by
 rcases h.own.1 with ⟨rfl|rfl,_⟩|⟨φ,st,rfl,_⟩<;>rfl
theorem Qo4:NomH ah0:=fun φ F h=>by cases h
theorem QtE (σ:AH):thaw ah0 σ ah0=σ:=by
 funext φ
 unfold thaw
 cases e:σ φ<;>simp [ah0]
theorem Qqv (τ:AH):AH.Sub ah0 τ:=fun φ F h=>by cases h
theorem Qib {f:FuncId} {args args':List AV} {v:AV} {K:AEnd→AH→Prop} (hv:Nom v) (hl:args.length=args'.length) (hf:∀i,i<args.length→Fz ah0 τ (args.getD i .any) (args'.getD i .any))
  (h:∀R:AEnd→AH→Prop,R (.ret v) ah0→acall TP f args' ah0 R) (hK:K (.ret v) τ):acall TP f args τ K:=by
 refine (Qni (σ0:=ah0) (args:=args) (args':=args') (Q:=fun e σ1=>e= .ret v∧σ1=ah0) (Qqv τ) hl hf (h _ ⟨hv,Qo4,rfl,rfl⟩)).mono ?_
 rintro e σ' ⟨σ1,⟨rfl,rfl⟩,rfl,_⟩
 rw [QtE]
 exact hK
theorem Qqw {v:AV} {bs:List BI} (h:BlksH τ v bs):Fz ah0 τ v (roBk (cont bs)):=QrG h fun _ _=>rfl
theorem Qla {c:Int} {v:AV} {B:List BI} {K:AEnd→AH→Prop} (h:BlksH τ v B) (hb:bC 1048576 (cont B)) (hK:K (.ret (bv true)) τ):acall TP Um [.agg [iv c,v],.agg [iv c,roBk (cont B)]] τ K:=by
 refine Qib (args':=[.agg [iv c,roBk (cont B)],.agg [iv c,roBk (cont B)]]) (.val _) rfl (fun i hi=>?_) (fun R hR=>Qi9 hb hR) hK
 match i,hi with
 |0,_=>exact Fz.agg2 (.same _) (Qqw h)
 |1,_=>exact .same _
theorem Qo5 {c k:Int} {v:AV} {B:List BI} {bs:List Blk} {K:AEnd→AH→Prop} (h:BlksH τ v B) (hB:cont B=Jp k bs) (h0:0≤k) (h1:QC k bs≤9000000000000000000) (hK:K (.ret (iv (QC k bs))) τ):acall TP UR [.agg [iv c,v],iv k] τ K:=by
 refine Qib (args':=[.agg [iv c,roBk (Jp k bs)],iv k]) (.val _) rfl (fun i hi=>?_) (fun R hR=>Qhv h0 h1 hR) hK
 match i,hi with
 |0,_=>exact Fz.agg2 (.same _) (hB▸Qqw h)
 |1,_=>exact .same _
end Go.Proofs.YtggnjjalfnhiiaaGreatDoor.E
/- Code that is owned: growing; copies that the program makes. -/
namespace Go.Proofs.YtggnjjalfnhiiaaGreatDoor.E
open Go Go.RowKit
set_option maxRecDepth 100000
variable [L:Lam]
variable {σ τ τ':AH} {R:AEnd→AH→Prop}
def isSl (T:Tab) (t:TypeId):Bool:=match T t with
 |some ti=>match ti.under with| .slice _=>true|_=>false
 |none=>false
theorem QtF {T:Tab} {t:TypeId} {es:List (List AV)} {k:AV→Prop} (hu:isSl T t=true) (h:∀b:Bool,(es≠[]→b=false)→k (bv b)):abin T .eql t (.ro es) (.val (.slice none 0 0)) k:=by
 unfold isSl at hu
 split at hu
 case h_2=>cases hu
 rename_i ti ht
 split at hu
 case h_2=>cases hu
 rename_i e he
 unfold abin aeql
 simp only [ht,he]
 exact h
def Kp (F:List Nat) (τ τ':AH):Prop:=∀ψ,ψ∉F→τ ψ≠none→τ' ψ=τ ψ
theorem Kp.refl (F:List Nat) (τ:AH):Kp F τ τ:=fun _ _ _=>rfl
theorem Kp.of_sub {F:List Nat} (h:AH.Sub τ τ'):Kp F τ τ':=fun ψ _ hn=>by
 cases e:τ ψ with
 |none=>exact absurd e hn
 |some G=>exact h _ _ e
theorem Kp.sub {F:List Nat} (h:Kp F τ τ') (hs:AH.Sub σ τ) (hf:∀ψ,ψ∈F→σ ψ=none):AH.Sub σ τ':=fun ψ G hG=>by
 have h1:=hs _ _ hG
 rw [h ψ (fun c=>by rw [hf ψ c] at hG;cases hG) (by rw [h1];simp),h1]
theorem JR {ψ:Nat} (h:∃F,τ ψ=some F):τ ψ≠none:=by obtain ⟨F,e⟩:=h;rw [e];simp
theorem Kp.ops {F:List Nat} {v:AV} {its:Its} (k:Kp F τ τ') (h:OpsH τ v its) (hd:∀ψ,ψ∈Uc v its→ψ∉F):OpsH τ' v its:=h.keep fun ψ hψ=>k ψ (hd ψ hψ) (JR (h.live hψ))
theorem Kp.its {F:List Nat} {its:Its} (k:Kp F τ τ') (h:ItsH τ its) (hd:∀ψ,ψ∈itsF its→ψ∉F):ItsH τ' its:=h.keep fun ψ hψ=>k ψ (hd ψ hψ) (JR (h.live hψ))
theorem Kp.blks {F:List Nat} {v:AV} {B:List BI} (k:Kp F τ τ') (h:BlksH τ v B) (hd:∀ψ,ψ∈Jd v B→ψ∉F):BlksH τ' v B:=h.keep fun ψ hψ=>k ψ (hd ψ hψ) (JR (h.live hψ))
theorem Kp.buf {F:List Nat} {sz:Nat} {a:AV} {es:List (List AV)} (k:Kp F τ τ') (h:Buf τ sz a es) (hd:∀ψ,ψ∈famL a→ψ∉F):Buf τ' sz a es:=Je h fun ψ hψ=>k ψ (hd ψ hψ) (JR (JV h hψ))
theorem Ud {sz:Nat} {a x:AV} {es xs:List (List AV)} {k:AV→AH→Prop} (h:Buf τ sz a es) (hx:QF τ x=some xs) (hs:∀c,c∈xs→c.length=sz) (ho:∀c,c∈xs→∀y,y∈c→y.one=true) (hn:es.length+xs.length≤4294967296)
  (hk:∀a' τ',Buf τ' sz a' (es++xs)→Kp (famL a) τ τ'→(∀ψ,ψ∈famL a'→ψ∈famL a∨τ ψ=none)→k a' τ'):app sz a x τ k:=
 h.app hx hs ho hn fun a' τ' h1 h2 h3 _=>hk a' τ' h1 (fun ψ hψ hn=>h2 ψ (fun c=>hψ (Qe2.2 c)) hn) fun ψ hψ=>(h3 ψ (Qe2.1 hψ)).imp Qe2.2 id
theorem NewO.app {v x:AV} {its qs:Its} {k:AV→AH→Prop} (h:NewO σ τ v its) (hx:QF τ x=some (qs.map Qh)) (hq:ItsH τ qs) (hnd:(itsF its++itsF qs).Nodup) (hd:∀ψ,ψ∈itsF qs→ψ∉famL v) (hf:∀ψ,ψ∈itsF qs→σ ψ=none)
  (ho:∀p,p∈qs→p.2.one=true) (hn:its.length+qs.length≤4294967296)
  (hk:∀v' τ',NewO σ τ' v' (its++qs)→Kp (famL v) τ τ'→(∀ψ,ψ∈famL v'→ψ∈famL v∨τ ψ=none)→k v' τ'):E.app 7 v x τ k:=by
 refine Ud h.own.1 hx (by intro c hc;obtain ⟨p,_,rfl⟩:=List.mem_map.1 hc;rfl) ?_ (by simpa using hn) fun v' τ' hB hK hfam=>hk v' τ' ?_ hK hfam
 ·intro c hc y hy
  obtain ⟨p,hp,rfl⟩:=List.mem_map.1 hc
  simp only [Qm,List.mem_cons,List.not_mem_nil,or_false] at hy
  rcases hy with rfl|rfl|rfl|rfl|rfl|rfl|rfl<;>first|rfl|exact ho p hp
 obtain ⟨n1,n2,n3⟩:=Ql.1 h.nd
 have hdd:∀ψ,ψ∈itsF (its++qs)→ψ∉famL v:=by
  intro ψ hψ c
  rw [JA] at hψ
  rcases List.mem_append.1 hψ with hψ|hψ
  ·exact n3 ψ c hψ
  ·exact hd ψ hψ c
 have hI:ItsH τ (its++qs):=by
  intro p hp
  rcases List.mem_append.1 hp with hp|hp
  ·exact h.own.2 p hp
  ·exact hq p hp
 refine ⟨⟨by rw [List.map_append];exact hB,hK.its hI hdd⟩,?_,?_,hK.sub h.sub fun ψ hψ=>h.fr ψ (List.mem_append_left _ hψ)⟩
 ·rw [Uc,Ql]
  refine ⟨Qae _,by rw [JA];exact hnd,fun ψ hψ c=>?_⟩
  rcases hfam ψ hψ with h1|h1
  ·exact hdd ψ c h1
  ·obtain ⟨F,e⟩:=hI.live c
   rw [h1] at e;cases e
 ·intro ψ hψ
  rcases List.mem_append.1 hψ with hψ|hψ
  ·rcases hfam ψ hψ with h1|h1
   ·exact h.fr ψ (List.mem_append_left _ h1)
   ·exact h.sub.none h1
  ·rw [JA] at hψ
   rcases List.mem_append.1 hψ with hψ|hψ
   ·exact h.fr ψ (List.mem_append_right _ hψ)
   ·exact hf ψ hψ
theorem NewO.grow {v:AV} {its:Its} (h:NewO σ τ v its) (hs:AH.Sub τ τ'):NewO σ τ' v its:=
 ⟨(Kp.of_sub (F:=[]) hs).ops h.own (fun _ _ c=>by cases c),h.nd,h.fr,h.sub.trans hs⟩
theorem NewB.grow {v:AV} {B:List BI} (h:NewB σ τ v B) (hs:AH.Sub τ τ'):NewB σ τ' v B:=
 ⟨(Kp.of_sub (F:=[]) hs).blks h.own (fun _ _ c=>by cases c),h.nd,h.fr,h.sub.trans hs⟩
theorem bsl1 {sz:Nat} {z row:List AV} {x:AV} {k:AV→AH→Prop} (he:Jy sz [z] [(0,x)]=some [row]) (hs:sz≤16777216) (h:∀ψ,τ ψ=none→k (.own ψ 0 0 1) (τ.set ψ ⟨0,sz,[row]⟩)):bsl sz z 1 [(0,x)] τ k:=by
 unfold bsl
 have e:List.replicate 1 z=[z]:=rfl
 rw [e,he]
 exact ⟨by omega,by rw [if_neg (by decide)];exact h⟩
theorem bsl0 {sz:Nat} {z:List AV} {k:AV→AH→Prop} (h:k .emp τ):bsl sz z 0 [] τ k:=⟨by omega,by rw [if_pos rfl];exact h⟩
theorem ael1 {ψ sz:Nat} {row:List AV}:QF (τ.set ψ ⟨0,sz,[row]⟩) (.own ψ 0 0 1)=some [row]:=by simp [QF]
theorem NewO.push {v:AV} {its:Its} {p:OpD × AV} {z:List AV} {k:AV→AH→Prop} (h:NewO σ τ v its) (he:Jy 7 [z] [(0,.agg (Qh p))]=some [Qh p]) (hq:Buf τ 4 p.2 (p.1.data.map Qc)) (hd:∀ψ,ψ∈famL p.2→ψ∉Uc v its) (hf:∀ψ,ψ∈famL p.2→σ ψ=none)
  (ho:p.2.one=true) (hn:its.length+1≤4294967296)
  (hk:∀v' τ',NewO σ τ' v' (its++[p])→Kp (famL v) τ τ'→(∀ψ,ψ∈famL v'→ψ∈famL v∨τ ψ=none)→k v' τ'):bsl 7 z 1 [(0,.agg (Qh p))] τ fun x τ=>E.app 7 v x τ k:=by
 refine bsl1 he (by omega) fun ψ hψ=>?_
 have hs:AH.Sub τ (τ.set ψ ⟨0,7,[Qh p]⟩):= .set (.refl τ) _ hψ
 have e1:itsF [p]=famL p.2:=by simp [itsF]
 refine (h.grow hs).app (qs:=[p]) ael1 ?_ ?_ ?_ (by rw [e1];exact hf) (by intro q hq;obtain rfl:q=p:=(by simpa using hq);exact ho) hn fun v' τ' h1 h2 h3=>hk v' τ' h1 ?_ ?_
 ·intro q hq'
  obtain rfl:q=p:=by simpa using hq'
  exact (Kp.of_sub (F:=[]) hs).buf hq (fun _ _ c=>by cases c)
 ·rw [e1,Ql]
  exact ⟨(Ql.1 h.nd).2.1,Qae _,fun x hx c=>hd x c (List.mem_append_right _ hx)⟩
 ·rw [e1];exact fun ψ hψ c=>hd ψ hψ (List.mem_append_left _ c)
 ·exact fun χ hχ hn=>by rw [h2 χ hχ (by rw [AH.set_ne' (by rintro rfl;exact hn hψ)];exact hn),AH.set_ne' (by rintro rfl;exact hn hψ)]
 ·intro χ hχ
  rcases h3 χ hχ with c|c
  ·exact .inl c
  ·exact .inr (hs.none c)
theorem NewO.emp (h:AH.Sub σ τ):NewO σ τ .emp []:=⟨⟨.inl ⟨.inr rfl,rfl⟩,fun p hp=>by cases hp⟩,.nil,(fun ψ c=>by cases c),h⟩
theorem NewB.emp (h:AH.Sub σ τ):NewB σ τ .emp []:=⟨⟨.inl ⟨.inr rfl,rfl⟩,fun p hp=>by cases hp⟩,.nil,(fun ψ c=>by cases c),h⟩
theorem NewB.push {v a:AV} {B:List BI} {its:Its} {n:Int} {z:List AV} {k:AV→AH→Prop} (h:NewB σ τ v B) (he:Jy 2 [z] [(0,.agg [iv n,a])]=some [[iv n,a]]) (hq:OpsH τ a its) (hqn:(Uc a its).Nodup) (hd:∀ψ,ψ∈Uc a its→ψ∉Jd v B)
  (hf:∀ψ,ψ∈Uc a its→σ ψ=none) (ho:a.one=true) (hn:B.length+1≤4294967296) (hk:∀v' τ',NewB σ τ' v' (B++[⟨n,a,its⟩])→k v' τ'):bsl 2 z 1 [(0,.agg [iv n,a])] τ fun x τ=>E.app 2 v x τ k:=by
 refine bsl1 he (by omega) fun ψ hψ=>?_
 have hs:AH.Sub τ (τ.set ψ ⟨0,2,[[iv n,a]]⟩):= .set (.refl τ) _ hψ
 have h':=h.grow hs
 have hq':OpsH (τ.set ψ ⟨0,2,[[iv n,a]]⟩) a its:=(Kp.of_sub (F:=[]) hs).ops hq (fun _ _ c=>by cases c)
 refine Ud h'.own.1 ael1 (by intro c hc;obtain rfl:c=[iv n,a]:=(by simpa using hc);rfl) ?_ (by simpa using hn) fun v' τ' hB hK hfam=>hk v' τ' ?_
 ·intro c hc y hy
  obtain rfl:c=[iv n,a]:=by simpa using hc
  simp only [List.mem_cons,List.not_mem_nil,or_false] at hy
  rcases hy with rfl|rfl
  ·rfl
  ·exact ho
 obtain ⟨n1,n2,n3⟩:=Ql.1 h.nd
 have e1:bsF (B++[⟨n,a,its⟩])=bsF B++Uc a its:=by rw [Ut];simp [bsF,biF]
 have hdd:∀ψ,ψ∈bsF (B++[⟨n,a,its⟩])→ψ∉famL v:=by
  intro ψ hψ c
  rw [e1] at hψ
  rcases List.mem_append.1 hψ with hψ|hψ
  ·exact n3 ψ c hψ
  ·exact hd ψ hψ (List.mem_append_left _ c)
 have hI:BisH (τ.set ψ ⟨0,2,[[iv n,a]]⟩) (B++[⟨n,a,its⟩]):=by
  intro p hp
  rcases List.mem_append.1 hp with hp|hp
  ·exact h'.own.2 p hp
  ·obtain rfl:p=⟨n,a,its⟩:=by simpa using hp
   exact hq'
 refine ⟨⟨by rw [List.map_append];exact hB,hI.keep fun χ hχ=>hK χ (hdd χ hχ) (JR (hI.live hχ))⟩,?_,?_,hK.sub h'.sub fun ψ hψ=>h.fr ψ (List.mem_append_left _ hψ)⟩
 ·show (famL v'++bsF (B++[⟨n,a,its⟩])).Nodup
  rw [Ql]
  refine ⟨Qae _,?_,fun χ hχ c=>?_⟩
  ·rw [e1,Ql]
   exact ⟨n2,hqn,fun x hx c=>hd x c (List.mem_append_right _ hx)⟩
  rcases hfam χ hχ with h1|h1
  ·exact hdd χ c h1
  ·obtain ⟨F,e⟩:=hI.live c
   rw [h1] at e;cases e
 ·intro χ hχ
  have hχ:χ∈famL v'++bsF (B++[⟨n,a,its⟩]):=hχ
  rcases List.mem_append.1 hχ with hχ|hχ
  ·rcases hfam χ hχ with h1|h1
   ·exact h.fr χ (List.mem_append_left _ h1)
   ·exact h'.sub.none h1
  ·rw [e1] at hχ
   rcases List.mem_append.1 hχ with hχ|hχ
   ·exact h.fr χ (List.mem_append_right _ hχ)
   ·exact hf χ hχ
theorem Qye:isSl TT Qso=true:=by kernel_rfl
theorem Qoz {ds:List Dat} (hl:ds.length≤4294967296) (h:∀a τ',Buf τ' 4 a (ds.map Qc)→(∀ψ,ψ∈famL a→σ ψ=none)→AH.Sub σ τ'→R (.ret a) τ'):acall TP Qfy [roD ds] σ R:=by
 refine QkU ?_
 unfold Qhf x122;dsimp only [den,dE,di,tupL,lTup,dwat,Qe,List.map,Option.map,den0,den1,den2,den3,den4]
 refine QtF Qye fun b hb=>?_
 cases b with
 |true=>
  have e:ds=[]:=by
   refine Classical.byContradiction fun c=>?_
   have:=hb (by simpa using c)
   cases this
  subst e
  simp only [RR]
  exact Qa (h _ σ (.inl ⟨.inl rfl,rfl⟩) (fun ψ c=>by cases c) (.refl σ))
 |false=>
  simp only [RR]
  refine bsl0 ?_
  refine Ud (es:=[]) (.inl ⟨.inr rfl,rfl⟩) (xs:=ds.map Qc) rfl (by intro c hc;obtain ⟨x,_,rfl⟩:=List.mem_map.1 hc;rfl) (by intro c hc y hy;obtain ⟨x,_,rfl⟩:=List.mem_map.1 hc;exact Q3 x y hy) (by simpa using hl) fun a τ' h1 h2 h3=>?_
  refine Qa (h a τ' (by simpa using h1) (fun ψ hψ=>(h3 ψ hψ).elim (fun c=>by cases c) id) ?_)
  exact h2.sub (.refl σ) fun ψ c=>by cases c
end Go.Proofs.YtggnjjalfnhiiaaGreatDoor.E
/- Code that is owned: the program's copy. -/
namespace Go.Proofs.YtggnjjalfnhiiaaGreatDoor.E
open Go Go.RowKit
set_option maxRecDepth 100000
variable [L:Lam]
variable {σ τ τ':AH} {R:AEnd→AH→Prop}
theorem Buf.av1 {sz:Nat} {a:AV} {es:List (List AV)} (h:Buf τ sz a es):a.one=true:=by
 rcases h with ⟨rfl|rfl,_⟩|⟨φ,st,rfl,_⟩<;>rfl
theorem QrI {n:Int} {w:AV} {sz:Nat} {es:List (List AV)} (h:Buf τ sz w es):bld [(.val (.int .i64 0)),(.val (.slice none 0 0))] [(0,1),(1,1)] [(0,iv n),(1,w)]=some (.agg [iv n,w]):=by
 rcases h with ⟨rfl|rfl,_⟩|⟨φ,st,rfl,_⟩<;>rfl
theorem one7 {o:OpD} {a:AV} (h:a.one=true):∀y,y∈Qm o a→y.one=true:=by
 intro y hy
 simp only [Qm,List.mem_cons,List.not_mem_nil,or_false] at hy
 rcases hy with rfl|rfl|rfl|rfl|rfl|rfl|rfl<;>first|rfl|exact h
set_option maxHeartbeats 1000000 in
theorem Qa9 {bs:List Blk} (hl:bs.length≤1048576) (hb:∀b,b∈bs→b.ops.length≤1048576∧∀o,o∈b.ops→o.data.length≤1048576) (h:∀v B τ,cont B=bs→NewB σ τ v B→R (.ret v) τ):acall TP QaC [roBk bs] σ R:=by
 refine QhU ?_
 unfold QdL x87;dsimp only [den,dE,di,tupL,lTup,dwat,Qe,List.map,Option.map,den0,den1,den2,den3,den4]
 refine bsl0 ?_
 simp only [QB,RR]
 refine J4 bs.length (fun i x τ=>∃v B,x=(v,roBk bs,iv (bs.length:Int),iv (i:Int),())∧cont B=bs.take i∧NewB σ τ v B) ⟨.emp,[],rfl,rfl,.emp (.refl σ)⟩ ?_
 rintro i _ τ hi ⟨v,B,rfl,hcB,hN⟩ R' hR'
 by_cases hlt:i<bs.length
 ·have g:(i:Int)<(bs.length:Int):=by omega
  obtain ⟨hol,hod⟩:=hb _ (List.getElem_mem hlt)
  simp only [g,Qu hlt JX,Qs (JX _),RR]
  refine Qsm rfl ?_
  refine bsl0 ?_
  simp only [RR,RT,QB]
  refine J4 bs[i].ops.length (fun j x τ'=>∃w its,x=(v,.rop (QL bs[i]) 0,w,roBk bs,iv (bs.length:Int),iv (i:Int),roO bs[i].ops,iv (bs[i].ops.length:Int),iv (j:Int),())∧its.map (·.1)=bs[i].ops.take j∧NewO τ τ' w its) ⟨.emp,[],rfl,rfl,.emp (.refl τ)⟩ ?_
  rintro j _ τ1 hj ⟨w,its,rfl,hits,hO⟩ R2 hR2
  have hil:its.length=j:=by have:=congrArg List.length hits;simpa [Nat.min_eq_left hj] using this
  by_cases hlt2:j<bs[i].ops.length
  ·have g2:(j:Int)<(bs[i].ops.length:Int):=by omega
   have hdl:=hod _ (List.getElem_mem hlt2)
   simp only [g2,Qu hlt2 Jg,Qs (Jg _),RR]
   intro φ hφ
   refine QG (es:=[[iv 0,iv 0,iv 0,iv 0,iv 0,str ⟨#[]⟩,nilS]]) (cs:=Qp bs[i].ops[j]) (by rw [AH.set_same];rfl) (by simp) rfl rfl rfl (Qc5 _) ?_
   simp only [List.set_cons_zero,AH.set_set,RR]
   have el:lod (.ptr φ 0 0 6) (τ1.set φ ⟨0,7,[Qp bs[i].ops[j]]⟩)=some (roD bs[i].ops[j].data):=Qz (AH.set_same ..) rfl rfl
   simp only [el,RR]
   refine Qoz (by omega) fun a τ2 hA hAf hAs=>?_
   simp only [RR]
   have hF2:τ2 φ=some ⟨0,7,[Qp bs[i].ops[j]]⟩:=hAs _ _ (AH.set_same ..)
   refine Q0 hF2 rfl (by decide) (JJ hA.av1) hA.av1 ?_
   have hφa:φ∉famL a:=fun c=>by have:=hAf φ c;rw [AH.set_same] at this;cases this
   refine ⟨.rop (Qm bs[i].ops[j] a) 0,(τ2.set φ ⟨0,7,[Qm bs[i].ops[j] a]⟩).del φ,.del _ _,.ptr (AH.set_same ..) (AH.del_same ..) rfl (by simp) rfl rfl (fun j hj=> .same _),?_⟩
   generalize hτ3:(τ2.set φ ⟨0,7,[Qm bs[i].ops[j] a]⟩).del φ=τ3
   have h3:∀ψ,ψ≠φ→τ3 ψ=τ2 ψ:=fun ψ hn=>by rw [←hτ3,AH.del_ne _ hn,AH.set_ne' hn]
   have hs3:AH.Sub τ1 τ3:=fun ψ F hF=>by
    have hn:ψ≠φ:=by rintro rfl;rw [hφ] at hF;cases hF
    rw [h3 ψ hn]
    exact hAs _ _ (by rw [AH.set_ne' hn];exact hF)
   have hA3:Buf τ3 4 a (bs[i].ops[j].data.map Qc):=Je hA fun ψ hψ=>h3 ψ (by rintro rfl;exact hφa hψ)
   have hAf1:∀ψ,ψ∈famL a→τ1 ψ=none:=fun ψ hψ=>(AH.set_none.1 (hAf ψ hψ)).2
   simp only [Qs (cs:=Qm bs[i].ops[j] a) (n:=7) rfl,RR]
   refine (hO.grow hs3).push (p:=(bs[i].ops[j],a)) rfl hA3 (fun ψ hψ c=>?_) (fun ψ hψ=>hO.sub.none (hAf1 ψ hψ)) hA.av1 (by omega) fun w' τ4 hN4 hK4 _=>?_
   ·obtain ⟨F,e⟩:=hO.own.live c
    rw [hAf1 ψ hψ] at e;cases e
   simp only [Qj hlt2 (by omega),RR]
   exact hR2 _ _ _ hlt2 (.refl _) ⟨w',its++[(bs[i].ops[j],a)],rfl,by rw [List.take_succ_eq_append_getElem hlt2,List.map_append,hits];rfl,hN4⟩
  ·have g2:¬(j:Int)<(bs[i].ops.length:Int):=by omega
   obtain rfl:j=bs[i].ops.length:=by omega
   rw [List.take_length] at hits
   have eb:=QrI (n:=bs[i].args) hO.own.1
   simp only [g2,RR,RT,eb]
   have hN1:=hN.grow hO.sub
   refine hN1.push (its:=its) rfl hO.own hO.nd (fun ψ hψ c=>?_) (fun ψ hψ=>hN.sub.none (hO.fr ψ hψ)) hO.one ?_ fun v' τ4 hN4=>?_
   ·obtain ⟨F,e⟩:=hN.own.live c
    rw [hO.fr ψ hψ] at e;cases e
   ·have:=congrArg List.length hcB
    simp [cont] at this
    omega
   simp only [Qj hlt (by omega),RR]
   refine hR' _ _ _ hlt (.refl _) ⟨v',B++[⟨bs[i].args,w,its⟩],rfl,?_,hN4⟩
   rw [List.take_succ_eq_append_getElem hlt,cont,List.map_append,←cont,hcB]
   simp only [List.map_cons,List.map_nil,hits]
 ·have g:¬(i:Int)<(bs.length:Int):=by omega
  obtain rfl:i=bs.length:=by omega
  rw [List.take_length] at hcB
  simp only [g,RR]
  exact Qa (h v B τ hcB hN)
end Go.Proofs.YtggnjjalfnhiiaaGreatDoor.E
/- Code that is taken apart: the program's way, its parts. -/
namespace Go.Proofs.YtggnjjalfnhiiaaGreatDoor.E
open Go Go.RowKit
set_option maxRecDepth 100000
variable [L:Lam]
variable {σ τ τ':AH} {R:AEnd→AH→Prop}
theorem QrJ {sz:Nat}:Buf τ sz nilS []:= .inl ⟨.inl rfl,rfl⟩
def UM (xs:List Int) (o:OpD):OpD:=if o.kind=5∨o.kind=6 then {o with a:=atH xs o.a.toNat} else if o.kind=16 then {o with c:=atH xs o.c.toNat} else o
def QN (xs:List Int) (p:OpD × AV):OpD × AV:=(UM xs p.1,p.2)
theorem Qnu (xs:List Int) (o:OpD):(UM xs o).data=o.data:=by unfold UM;(repeat' split)<;>rfl
theorem Qo6 (xs:List Int) (its:Its):(its.map (QN xs)).map (·.1)=(its.map (·.1)).map (UM xs):=by simp [QN]
theorem Qo7 (xs:List Int) (its:Its):itsF (its.map (QN xs))=itsF its:=by
 induction its with
 |nil=>rfl
 |cons p r ih=>rw [List.map_cons,Ju,Ju,ih];rfl
theorem Qo8 {xs:List Int} {its:Its} (h:ItsH τ its):ItsH τ (its.map (QN xs)):=by
 intro q hq
 obtain ⟨p,hp,rfl⟩:=List.mem_map.1 hq
 have:=h p hp
 simpa [QN,Qnu] using this
theorem QrK {T:Tab} {t:TypeId} {φ st i off:Nat} {k:AV→Prop} (hu:isPt T t=true) (h:k (bv true)):abin T .neq t (.ptr φ st i off) (.val (.pointer none)) k:=by
 unfold isPt at hu
 split at hu
 case h_2=>cases hu
 rename_i ti ht
 split at hu
 case h_2=>cases hu
 rename_i e he
 unfold abin
 simp only
 unfold aeql
 simp only [ht,he]
 exact h
theorem QzV {φ st i:Nat} {out:List Int} (hF:τ φ=some ⟨st,1,ivs out⟩) (hi:i<out.length):idx 1 (.own φ st 0 out.length) (iv (i:Int)) τ=some (.ptr φ st i 0)∧lod (.ptr φ st i 0) τ=some (iv (atH out i)):=by
 constructor
 ·have:=Jf (st:=st) (off:=0) hF hi
  rwa [Nat.zero_add] at this
 ·refine Qz hF rfl ?_
  simp [atH,List.getD,hi]
theorem Qnv {u:AV} {xs:List Int} {j:Nat} (h:Buf τ 1 u (ivs xs)) (hj:j<xs.length):∃p,idx 1 u (iv (j:Int)) τ=some p∧lod p τ=some (iv (atH xs j)):=by
 obtain ⟨φ,st,rfl,hF⟩:=Jx h (by intro c;rw [List.map_eq_nil_iff] at c;subst c;cases hj)
 have hl:(ivs xs).length=xs.length:=by simp
 rw [hl]
 exact ⟨_,QzV hF hj⟩
theorem QsC {o:OpD} {a:AV} {φ st i:Nat} {F:Fam} (hF:σ φ=some F) (hst:F.st=st) (hr:F.es.getD i []=Qm o a) (h:R (.ret (if o.kind=5∨o.kind=6 then .ptr φ st i 1 else if o.kind=16 then .ptr φ st i 3 else .val (.pointer none))) σ):acall TP Qa7 [.ptr φ st i 0] σ R:=by
 refine QcA ?_
 unfold QbF x123;dsimp only [den,dE,di,tupL,lTup,dwat,Qe,List.map,Option.map,den0,den1,den2,den3,den4]
 have l0:lod (.ptr φ st i 0) σ=some (iv o.kind):=Qz hF hst (by rw [hr];rfl)
 simp only [RR,l0,jn]
 by_cases c1:o.kind=5
 ·rw [if_pos (by omega)] at h;simp only [c1,RR];exact Qa h
 by_cases c2:o.kind=6
 ·rw [if_pos (by omega)] at h;simp only [c2,RR];exact Qa h
 rw [if_neg (by omega)] at h
 by_cases c3:o.kind=16
 ·rw [if_pos c3] at h;simp only [c3,RR];exact Qa h
 rw [if_neg c3] at h
 simp only [c1,c2,c3,RR];exact Qa h
theorem QoA:isPt TT Qiv=true:=by kernel_rfl
def okT (n:Nat) (o:OpD):Prop:= -1≤tgtN o∧tgtN o<n
theorem Qqx {w u:AV} {W:Its} {xs:List Int} (hW:Buf τ 7 w (W.map Qh)) (hu:Buf τ 1 u (ivs xs)) (hd:∀ψ,ψ∈famL w→ψ∉famL u) (ht:∀p,p∈W→0≤p.1.a∧0≤p.1.c∧okT xs.length p.1) (hl:W.length≤4294967296)
  (h:∀τ',Buf τ' 7 w ((W.map (QN xs)).map Qh)→(∀ψ,ψ∉famL w→τ' ψ=τ ψ)→R (.ret (.tup [])) τ'):acall TP Qip [w,u] τ R:=by
 refine Qm0 ?_
 unfold QjC x91;dsimp only [den,dE,di,tupL,lTup,dwat,Qe,List.map,Option.map,den0,den1,den2,den3,den4]
 have hlen:=Q9 hW
 rw [show (W.map Qh).length=W.length by simp] at hlen
 simp only [hlen,RR]
 refine QH (fun n x τ'=>∃don rest:Its,W=don++rest∧rest.length=n∧x=(w,u,iv (W.length:Int),iv (don.length:Int),())∧Buf τ' 7 w ((don.map (QN xs)++rest).map Qh)∧∀ψ,ψ∉famL w→τ' ψ=τ ψ) W.length ⟨[],W,rfl,rfl,rfl,hW,fun _ _=>rfl⟩ ?_
 rintro n x τ1 ⟨don,rest,hit,hrl,rfl,hB,hfr⟩ R' hR'
 cases rest with
 |nil=>
  rw [List.append_nil] at hit
  subst hit
  rw [List.append_nil] at hB
  have g:¬(W.length:Int)<(W.length:Int):=by omega
  simp only [g,RR]
  exact Qa (h τ1 hB hfr)
 |cons p r=>
  have hi:don.length<W.length:=by rw [hit];simp
  have g:(don.length:Int)<(W.length:Int):=by omega
  have hu1:Buf τ1 1 u (ivs xs):=Je hu fun ψ hψ=>hfr ψ fun c=>hd ψ c hψ
  have hle:((don.map (QN xs)++p::r).map Qh).length=W.length:=by rw [hit];simp
  obtain ⟨φ,st,hw,hF⟩:=Jx hB (by simp)
  rw [hle] at hw
  subst hw
  have hpl:((don.map (QN xs)).map Qh).length=don.length:=by simp
  have hset:τ1=τ1.set φ ⟨st,7,(don.map (QN xs)).map Qh++Qh p::r.map Qh⟩:=by
   rw [AH.set_self];rw [hF];simp
  have hrow:((don.map (QN xs)++p::r).map Qh).getD don.length []=Qm p.1 p.2:=by simp [List.getD]
  obtain ⟨ha0,hc0,hto⟩:=ht p (by rw [hit];simp)
  have fin:∀(q:OpD × AV) (row:List AV),row=Qh q→q=QN xs p→R' (.own φ st 0 W.length,u,iv (W.length:Int),iv ((don.length+1:Nat):Int),()) (τ1.set φ ⟨st,7,(don.map (QN xs)).map Qh++row::r.map Qh⟩):=by
   rintro q row rfl rfl
   refine hR' _ _ r.length _ (by rw [←hrl];simp) (.refl _) ⟨don++[p],r,by simp [hit],rfl,by simp;rfl,.inr ⟨φ,st,by rw [hit];simp,by rw [AH.set_same];simp⟩,fun ψ hψ=>?_⟩
   rw [AH.set_ne' (by rintro rfl;exact hψ (by simp [famL]))]
   exact hfr ψ hψ
  have ix:=Jf (st:=st) (off:=0) hF hi
  rw [Nat.zero_add] at ix
  simp only [g,jn,ix,RR]
  refine QsC hF rfl hrow ?_
  unfold okT tgtN at hto
  by_cases c1:p.1.kind=5∨p.1.kind=6
  ·rw [if_pos c1] at hto ⊢
   simp only [RR]
   refine QrK QoA ?_
   have l1:lod (.ptr φ st don.length 1) τ1=some (iv p.1.a):=Qz hF rfl (by rw [hrow];rfl)
   obtain ⟨q,q1,q2⟩:=Qnv (j:=p.1.a.toNat) hu1 (by omega)
   rw [Int.toNat_of_nonneg ha0] at q1
   simp only [l1,q1,q2,RR]
   rw [hset]
   refine JB hpl (by omega) rfl ?_
   simp only [Qj hi (by omega),RR]
   exact fin (QN xs p) _ (by simp [QN,UM,c1,Qm]) rfl
  rw [if_neg c1] at hto ⊢
  by_cases c2:p.1.kind=16
  ·rw [if_pos c2] at hto ⊢
   simp only [RR]
   refine QrK QoA ?_
   have l1:lod (.ptr φ st don.length 3) τ1=some (iv p.1.c):=Qz hF rfl (by rw [hrow];rfl)
   obtain ⟨q,q1,q2⟩:=Qnv (j:=p.1.c.toNat) hu1 (by omega)
   rw [Int.toNat_of_nonneg hc0] at q1
   simp only [l1,q1,q2,RR]
   rw [hset]
   refine JB hpl (by omega) rfl ?_
   simp only [Qj hi (by omega),RR]
   exact fin (QN xs p) _ (by simp [QN,UM,c2,Qm]) rfl
  rw [if_neg c2] at hto ⊢
  simp only [RR]
  refine Qrz QoA ?_
  simp only [Qj hi (by omega),RR]
  rw [hset]
  exact fin p _ rfl (by simp [QN,UM,c1,c2])
end Go.Proofs.YtggnjjalfnhiiaaGreatDoor.E
/- Code that is taken apart: the program's way. -/
namespace Go.Proofs.YtggnjjalfnhiiaaGreatDoor.E
open Go Go.RowKit
set_option maxRecDepth 100000
variable [L:Lam]
variable {σ τ τ':AH} {R:AEnd→AH→Prop}
theorem Qqy {sz:Nat} {z row:List AV} {x a:AV} {es:List (List AV)} {k:AV→AH→Prop} (h:Buf τ sz a es) (he:Jy sz [z] [(0,x)]=some [row]) (hl:row.length=sz) (ho:∀y,y∈row→y.one=true) (hs:sz≤16777216) (hn:es.length+1≤4294967296)
  (hk:∀a' τ',Buf τ' sz a' (es++[row])→Kp (famL a) τ τ'→(∀ψ,ψ∈famL a'→ψ∈famL a∨τ ψ=none)→k a' τ'):bsl sz z 1 [(0,x)] τ fun v τ=>E.app sz a v τ k:=by
 refine bsl1 he hs fun ψ hψ=>?_
 have hs:AH.Sub τ (τ.set ψ ⟨0,sz,[row]⟩):= .set (.refl τ) _ hψ
 have e1:∀c,c∈[row]→c.length=sz:=fun c hc=>by rw [List.mem_singleton.1 hc];exact hl
 have e2:∀c,c∈[row]→∀y,y∈c→y.one=true:=fun c hc=>by rw [List.mem_singleton.1 hc];exact ho
 refine Ud ((Kp.of_sub (F:=[]) hs).buf h fun _ _ c=>by cases c) ael1 e1 e2 (by simpa using hn) fun a' τ' h1 h2 h3=>hk a' τ' h1 ?_ ?_
 ·exact fun χ hχ hn=>by rw [h2 χ hχ (by rw [AH.set_ne' (by rintro rfl;exact hn hψ)];exact hn),AH.set_ne' (by rintro rfl;exact hn hψ)]
 ·exact fun χ hχ=>(h3 χ hχ).imp id hs.none
theorem NewO.kp {v:AV} {its:Its} {F:List Nat} (h:NewO σ τ v its) (k:Kp F τ τ') (hd:∀ψ,ψ∈Uc v its→ψ∉F) (hf:∀ψ,ψ∈F→σ ψ=none):NewO σ τ' v its:=
 ⟨k.ops h.own hd,h.nd,h.fr,k.sub h.sub hf⟩
theorem QsD {V A y X X' C w:List Nat} (h:(V++(A++((y++X)++C))).Nodup) (hs:X'.Sublist X) (hw:w.Nodup) (hd:∀ψ,ψ∈w→ψ∉V∧ψ∉A∧ψ∉X'∧ψ∉C):(V++(A++((w++X')++C))).Nodup:=by
 have h0:(V++(A++(X'++C))).Nodup:=h.sublist ((List.Sublist.refl V).append ((List.Sublist.refl A).append ((hs.trans (List.sublist_append_right y X)).append (List.Sublist.refl C))))
 have hp:(V++(A++((w++X')++C))).Perm (w++(V++(A++(X'++C)))):=List.perm_iff_count.2 fun a=>by simp only [List.count_append];omega
 rw [hp.nodup_iff,Ql]
 refine ⟨hw,h0,fun x hx c=>?_⟩
 obtain ⟨d1,d2,d3,d4⟩:=hd x hx
 simp only [List.mem_append] at c
 rcases c with c|c|c|c
 ·exact d1 c
 ·exact d2 c
 ·exact d3 c
 ·exact d4 c
theorem NewB.repl {v w:AV} {BA BC:List BI} {b:BI} {W:Its} {τ0:AH} (h:NewB σ τ0 v (BA++b::BC)) (hO:OpsH τ w W) (hsub:(itsF W).Sublist (itsF b.its)) (hw:∀ψ,ψ∈famL w→τ0 ψ=none) (hk:∀ψ,ψ∉famL w→τ0 ψ≠none→τ ψ=τ0 ψ)
  (h1:w.one=true):∃φ st,v= .own φ st 0 (BA.length+(BC.length+1))∧τ0 φ≠none∧(σ φ=none)∧idx 2 v (iv (BA.length:Int)) τ=some (.ptr φ st BA.length 0)∧∀k:AH→Prop,(∀τ',NewB σ τ' v (BA++⟨b.args,w,W⟩::BC)→k τ')→sto 1 (.ptr φ st BA.length 1) w τ k:=by
 obtain ⟨φ,st,hv,hF⟩:=Jx h.own.1 (by simp)
 have hl:((BA++b::BC).map J0).length=BA.length+(BC.length+1):=by simp
 have hl':((BA++b::BC).map fun b=>[iv b.args,b.av]).length=BA.length+(BC.length+1):=by simp
 rw [hl'] at hv
 subst hv
 have hlive:∀ψ,ψ∈Jd (.own φ st 0 (BA.length+(BC.length+1))) (BA++b::BC)→τ0 ψ≠none:=fun ψ hψ=>JR (h.own.live hψ)
 have hφv:φ∈Jd (.own φ st 0 (BA.length+(BC.length+1))) (BA++b::BC):=List.mem_append_left _ (by simp [famL])
 have hnd:(famL (.own φ st 0 (BA.length+(BC.length+1)))++(bsF BA++((famL b.av++itsF b.its)++bsF BC))).Nodup:=by
  have:=h.nd
  rw [Jd] at this
  have e:bsF (BA++b::BC)=bsF BA++((famL b.av++itsF b.its)++bsF BC):=by rw [Ut,JW];rfl
  rw [←e]
  exact this
 have mem:∀ψ,ψ∈Jd (.own φ st 0 (BA.length+(BC.length+1))) (BA++b::BC)↔ψ=φ∨ψ∈bsF BA∨ψ∈famL b.av∨ψ∈itsF b.its∨ψ∈bsF BC:=by
  intro ψ
  have e:bsF (BA++b::BC)=bsF BA++((famL b.av++itsF b.its)++bsF BC):=by rw [Ut,JW];rfl
  have e2:Jd (.own φ st 0 (BA.length+(BC.length+1))) (BA++b::BC)=famL (.own φ st 0 (BA.length+(BC.length+1)))++bsF (BA++b::BC):=rfl
  rw [e2,e]
  simp [famL]
 have hwn:∀ψ,ψ∈famL w→ψ∉Jd (.own φ st 0 (BA.length+(BC.length+1))) (BA++b::BC):=fun ψ hψ c=>hlive ψ c (hw ψ hψ)
 have hφw:φ∉famL w:=fun c=>hwn φ c hφv
 have hFτ:τ φ=some ⟨st,2,(BA++b::BC).map J0⟩:=by rw [hk φ hφw (hlive φ hφv)];exact hF
 have ix:=Jf (st:=st) (off:=0) hFτ (show BA.length<BA.length+(BC.length+1) by omega)
 rw [Nat.zero_add] at ix
 refine ⟨φ,st,rfl,hlive φ hφv,h.fr φ hφv,ix,fun k hR=>?_⟩
 have hset:τ=τ.set φ ⟨st,2,BA.map J0++J0 b::BC.map J0⟩:=by rw [AH.set_self];rw [hFτ];simp
 rw [hset]
 refine JB (by simp) (by omega) h1 ?_
 have er:(J0 b).set 1 w=[iv b.args,w]:=rfl
 rw [er]
 have h2:∀ψ,ψ≠φ→(τ.set φ ⟨st,2,BA.map J0++[iv b.args,w]::BC.map J0⟩) ψ=τ ψ:=fun ψ hψ=>AH.set_ne' hψ
 obtain ⟨_,hnd3,hnd4⟩:=Ql.1 hnd
 have keep:∀q,q∈BA++b::BC→q≠b∨True→(q∈BA∨q∈BC)→OpsH (τ.set φ ⟨st,2,BA.map J0++[iv b.args,w]::BC.map J0⟩) q.av q.its:=by
  intro q hq _ hq2
  refine (h.own.2 q hq).keep fun ψ hψ=>?_
  have hm:ψ∈bsF BA∨ψ∈bsF BC:=hq2.imp (fun c=>List.mem_flatMap.2 ⟨q,c,hψ⟩) fun c=>List.mem_flatMap.2 ⟨q,c,hψ⟩
  have hmb:ψ∈Jd (.own φ st 0 (BA.length+(BC.length+1))) (BA++b::BC):=(mem ψ).2 (by rcases hm with c|c<;>simp [c])
  have hne:ψ≠φ:=by
   rintro rfl
   refine hnd4 ψ (by simp [famL]) ?_
   rcases hm with c|c<;>simp [c]
  rw [h2 ψ hne]
  exact hk ψ (fun c=>hwn ψ c hmb) (hlive ψ hmb)
 refine hR _ ⟨⟨.inr ⟨φ,st,by simp,by rw [AH.set_same];simp⟩,?_⟩,?_,?_,?_⟩
 ·intro q hq
  rcases List.mem_append.1 hq with c|c
  ·exact keep q (List.mem_append_left _ c) (.inr trivial) (.inl c)
  rcases List.mem_cons.1 c with rfl|c
  ·refine hO.keep fun ψ hψ=>h2 ψ ?_
   rintro rfl
   rcases List.mem_append.1 hψ with c|c
   ·exact hφw c
   ·exact hnd4 ψ (by simp [famL]) (by simp [hsub.subset c])
  ·exact keep q (List.mem_append_right _ (List.mem_cons_of_mem _ c)) (.inr trivial) (.inr c)
 ·have:=QsD hnd hsub (Qae w) fun ψ hψ=>⟨fun c=>?_,fun c=>?_,fun c=>?_,fun c=>?_⟩
  ·have e:Jd (.own φ st 0 (BA.length+(BC.length+1))) (BA++⟨b.args,w,W⟩::BC)=famL (.own φ st 0 (BA.length+(BC.length+1)))++(bsF BA++((famL w++itsF W)++bsF BC)):=by
    have:bsF (BA++⟨b.args,w,W⟩::BC)=bsF BA++((famL w++itsF W)++bsF BC):=by rw [Ut,JW];rfl
    rw [←this];rfl
   rw [e];exact this
  ·obtain rfl:ψ=φ:=by simpa [famL] using c
   exact hφw hψ
  ·exact hwn ψ hψ ((mem ψ).2 (by simp [c]))
  ·exact hwn ψ hψ ((mem ψ).2 (by simp [hsub.subset c]))
  ·exact hwn ψ hψ ((mem ψ).2 (by simp [c]))
 ·intro ψ hψ
  have e:Jd (.own φ st 0 (BA.length+(BC.length+1))) (BA++⟨b.args,w,W⟩::BC)=famL (.own φ st 0 (BA.length+(BC.length+1)))++(bsF BA++((famL w++itsF W)++bsF BC)):=by
   have:bsF (BA++⟨b.args,w,W⟩::BC)=bsF BA++((famL w++itsF W)++bsF BC):=by rw [Ut,JW];rfl
   rw [←this];rfl
  rw [e] at hψ
  simp only [List.mem_append] at hψ
  rcases hψ with c|c|(c|c)|c
  ·exact h.fr ψ ((mem ψ).2 (by simp only [famL,List.mem_singleton] at c;simp [c]))
  ·exact h.fr ψ ((mem ψ).2 (by simp [c]))
  ·exact h.sub.none (hw ψ c)
  ·exact h.fr ψ ((mem ψ).2 (by simp [hsub.subset c]))
  ·exact h.fr ψ ((mem ψ).2 (by simp [c]))
 ·intro ψ G hG
  have hn:ψ≠φ:=by rintro rfl;rw [h.fr ψ hφv] at hG;cases hG
  have h0:=h.sub _ _ hG
  rw [h2 ψ hn,hk ψ (fun c=>by rw [hw ψ c] at h0;cases h0) (by rw [h0];simp),h0]
end Go.Proofs.YtggnjjalfnhiiaaGreatDoor.E
/- Code that is taken apart: the program's UnfuseCode. -/
namespace Go.Proofs.YtggnjjalfnhiiaaGreatDoor.E
open Go Go.RowKit
set_option maxRecDepth 100000
variable [L:Lam]
variable {σ τ τ':AH} {R:AEnd→AH→Prop}
theorem Qqz {sz i:Nat} {a:AV} {es:List (List AV)} (h:Buf τ sz a es) (hi:i<es.length) (hl:es[i].length=sz):∃p,idx sz a (iv (i:Int)) τ=some p∧lodA sz p τ=some (.agg es[i]):=by
 obtain ⟨φ,st,rfl,hF⟩:=Jx h (by rintro rfl;cases hi)
 have ix:=Jf (st:=st) (off:=0) hF hi
 rw [Nat.zero_add] at ix
 exact ⟨_,ix,UG hF rfl (List.getElem?_eq_getElem hi) hl⟩
theorem OpsH.av1 {v:AV} {its:Its} (h:OpsH τ v its):v.one=true:=h.1.av1
theorem Qd5 {B:List BI} {xs ys:List Blk} {y:Blk} (h:cont B=xs++y::ys):∃BA b BC,B=BA++b::BC∧cont BA=xs∧Qv0 b=y∧cont BC=ys∧BA.length=xs.length:=by
 have h':B.map Qv0=xs++y::ys:=h
 obtain ⟨BA,B2,rfl,h1,h2⟩:=List.map_eq_append_iff.1 h'
 obtain ⟨b,BC,rfl,h3,h4⟩:=List.map_eq_cons_iff.1 h2
 exact ⟨BA,b,BC,rfl,h1,h3,h4,by rw [←h1];simp⟩
end Go.Proofs.YtggnjjalfnhiiaaGreatDoor.E
/- Code that is copied and taken apart: the reference's way. -/
namespace Go.Proofs.YtggnjjalfnhiiaaGreatDoor.E
open Go Go.RowKit
set_option maxRecDepth 100000
variable [L:Lam]
variable {σ τ τ':AH} {R:AEnd→AH→Prop}
set_option maxHeartbeats 1000000 in
theorem QiT {bs:List Blk} (hl:bs.length≤1048576) (hb:∀b,b∈bs→b.ops.length≤1048576∧∀o,o∈b.ops→o.data.length≤1048576) (h:∀v B τ,cont B=bs→NewB σ τ v B→R (.ret v) τ):acall TP QgM [roBk bs] σ R:=by
 refine QlU ?_
 unfold Qiz x82;dsimp only [den,dE,di,tupL,lTup,dwat,Qe,List.map,Option.map,den0,den1,den2,den3,den4]
 refine bsl0 ?_
 refine J4 bs.length (fun i x τ=>∃v B,x=(roBk bs,v,iv (i:Int),())∧cont B=bs.take i∧NewB σ τ v B) ⟨.emp,[],rfl,rfl,.emp (.refl σ)⟩ ?_
 rintro i _ τ hi ⟨v,B,rfl,hcB,hN⟩ R' hR'
 simp only [QB,RR]
 by_cases hlt:i<bs.length
 ·have g:(i:Int)<(bs.length:Int):=by omega
  obtain ⟨hol,hod⟩:=hb _ (List.getElem_mem hlt)
  have eb:bld [(.val (.int .i64 0)),(.val (.slice none 0 0))] [(0,1),(1,1)] [(0,iv bs[i].args)]=some (.agg [iv bs[i].args,nilS]):=rfl
  simp only [g,Qu hlt JX,eb,RR,RT]
  intro φ hφ
  refine QG (es:=[[iv 0,nilS]]) (cs:=[iv bs[i].args,nilS]) (by rw [AH.set_same];rfl) (by simp) rfl rfl rfl (one2 rfl rfl) ?_
  simp only [List.set_cons_zero,AH.set_set]
  refine J4 bs[i].ops.length (fun j x τ'=>∃w its,x=(roBk bs,v,iv (i:Int),.ptr φ 0 0 0,iv (j:Int),())∧its.map (·.1)=bs[i].ops.take j∧NewO τ τ' w its∧τ' φ=some ⟨0,2,[[iv bs[i].args,w]]⟩∧φ∉Uc w its)
   ⟨nilS,[],rfl,rfl,⟨⟨QrJ,fun p hp=>by cases hp⟩,.nil,(fun ψ c=>by cases c),.set (.refl τ) _ hφ⟩,AH.set_same ..,fun c=>by cases c⟩ ?_
  rintro j _ τ1 hj ⟨w,its,rfl,hits,hO,hF,hφo⟩ R2 hR2
  have hil:its.length=j:=by have:=congrArg List.length hits;simpa [Nat.min_eq_left hj] using this
  simp only [Qu hlt JX,QB,RR,RT]
  by_cases hlt2:j<bs[i].ops.length
  ·have g2:(j:Int)<(bs[i].ops.length:Int):=by omega
   have hdl:=hod _ (List.getElem_mem hlt2)
   simp only [g2,Qu hlt2 Jg,Qs (Jg _),RR]
   intro χ hχ
   refine QG (es:=[[iv 0,iv 0,iv 0,iv 0,iv 0,str ⟨#[]⟩,nilS]]) (cs:=Qp bs[i].ops[j]) (by rw [AH.set_same];rfl) (by simp) rfl rfl rfl (Qc5 _) ?_
   simp only [List.set_cons_zero,AH.set_set]
   refine bsl0 ?_
   have el:lod (.ptr χ 0 0 6) (τ1.set χ ⟨0,7,[Qp bs[i].ops[j]]⟩)=some (roD bs[i].ops[j].data):=Qz (AH.set_same ..) rfl rfl
   simp only [el,RR]
   refine Ud (es:=[]) (xs:=bs[i].ops[j].data.map Qc) (.inl ⟨.inr rfl,rfl⟩) rfl (by intro c hc;obtain ⟨x,_,rfl⟩:=List.mem_map.1 hc;rfl) (by intro c hc y hy;obtain ⟨x,_,rfl⟩:=List.mem_map.1 hc;exact Q3 x y hy) (by simp;omega) fun a τ2 hA hAk hAf=>?_
   rw [List.nil_append] at hA
   have hAs:AH.Sub (τ1.set χ ⟨0,7,[Qp bs[i].ops[j]]⟩) τ2:=hAk.sub (.refl _) fun ψ c=>by cases c
   have hAf:∀ψ,ψ∈famL a→(τ1.set χ ⟨0,7,[Qp bs[i].ops[j]]⟩) ψ=none:=fun ψ hψ=>(hAf ψ hψ).elim (fun c=>by cases c) id
   have hF2:τ2 χ=some ⟨0,7,[Qp bs[i].ops[j]]⟩:=hAs _ _ (AH.set_same ..)
   refine Q0 hF2 rfl (by decide) (JJ hA.av1) hA.av1 ?_
   have hφa:χ∉famL a:=fun c=>by have:=hAf χ c;rw [AH.set_same] at this;cases this
   refine ⟨.rop (Qm bs[i].ops[j] a) 0,(τ2.set χ ⟨0,7,[Qm bs[i].ops[j] a]⟩).del χ,.del _ _,.ptr (AH.set_same ..) (AH.del_same ..) rfl (by simp) rfl rfl (fun j hj=> .same _),?_⟩
   generalize hτ3:(τ2.set χ ⟨0,7,[Qm bs[i].ops[j] a]⟩).del χ=τ3
   have h3:∀ψ,ψ≠χ→τ3 ψ=τ2 ψ:=fun ψ hn=>by rw [←hτ3,AH.del_ne _ hn,AH.set_ne' hn]
   have hs3:AH.Sub τ1 τ3:=fun ψ F hF=>by
    have hn:ψ≠χ:=by rintro rfl;rw [hχ] at hF;cases hF
    rw [h3 ψ hn]
    exact hAs _ _ (by rw [AH.set_ne' hn];exact hF)
   have hA3:Buf τ3 4 a (bs[i].ops[j].data.map Qc):=Je hA fun ψ hψ=>h3 ψ (by rintro rfl;exact hφa hψ)
   have hAf1:∀ψ,ψ∈famL a→τ1 ψ=none:=fun ψ hψ=>(AH.set_none.1 (hAf ψ hψ)).2
   have hF3:τ3 φ=some ⟨0,2,[[iv bs[i].args,w]]⟩:=hs3 _ _ hF
   have el2:lod (.ptr φ 0 0 1) τ3=some w:=Qz hF3 rfl rfl
   simp only [el2,Qs (cs:=Qm bs[i].ops[j] a) (n:=7) rfl,RR]
   refine (hO.grow hs3).push (p:=(bs[i].ops[j],a)) rfl hA3 (fun ψ hψ c=>?_) (fun ψ hψ=>hO.sub.none (hAf1 ψ hψ)) hA.av1 (by omega) fun w' τ4 hN4 hK4 hf4=>?_
   ·obtain ⟨F,e⟩:=hO.own.live c
    rw [hAf1 ψ hψ] at e;cases e
   have hφw:φ∉famL w:=fun c=>hφo (List.mem_append_left _ c)
   have hF4:τ4 φ=some ⟨0,2,[[iv bs[i].args,w]]⟩:=by rw [hK4 φ hφw (by rw [hF3];simp)];exact hF3
   have hφo4:φ∉Uc w' (its++[(bs[i].ops[j],a)]):=by
    intro c
    rcases List.mem_append.1 c with c|c
    ·rcases hf4 φ c with d|d
     ·exact hφw d
     ·rw [hF3] at d;cases d
    ·rw [JA] at c
     rcases List.mem_append.1 c with c|c
     ·exact hφo (List.mem_append_right _ c)
     ·have:φ∈famL a:=by simpa [itsF] using c
      have:=hAf1 φ this
      rw [hF] at this;cases this
   refine Q0 hF4 rfl (by decide) (JJ hN4.one) hN4.one ?_
   simp only [Qj hlt2 (by omega),RR]
   have hkp:Kp [φ] τ4 (τ4.set φ ⟨0,2,[[iv bs[i].args,w]].set 0 ([iv bs[i].args,w].set 1 w')⟩):=fun ψ hψ _=>AH.set_ne' (by rintro rfl;exact hψ (by simp))
   exact hR2 _ _ _ hlt2 (.refl _) ⟨w',its++[(bs[i].ops[j],a)],rfl,by rw [List.take_succ_eq_append_getElem hlt2,List.map_append,hits];rfl,
    hN4.kp hkp (fun ψ hψ c=>hφo4 (by obtain rfl:ψ=φ:=(by simpa using c);exact hψ)) (fun ψ hψ=>by obtain rfl:ψ=φ:=(by simpa using hψ);exact hφ),AH.set_same ..,hφo4⟩
  ·have g2:¬(j:Int)<(bs[i].ops.length:Int):=by omega
   obtain rfl:j=bs[i].ops.length:=by omega
   rw [List.take_length] at hits
   have el3:lodA 2 (.ptr φ 0 0 0) τ1=some (.agg [iv bs[i].args,w]):=UG hF rfl rfl rfl
   simp only [g2,el3,RR]
   have hN1:=hN.grow hO.sub
   refine hN1.push (its:=its) rfl hO.own hO.nd (fun ψ hψ c=>?_) (fun ψ hψ=>hN.sub.none (hO.fr ψ hψ)) hO.one ?_ fun v' τ4 hN4=>?_
   ·obtain ⟨F,e⟩:=hN.own.live c
    rw [hO.fr ψ hψ] at e;cases e
   ·have:=congrArg List.length hcB
    simp [cont] at this
    omega
   simp only [Qj hlt (by omega),RR]
   refine hR' _ _ _ hlt (.refl _) ⟨v',B++[⟨bs[i].args,w,its⟩],rfl,?_,hN4⟩
   rw [List.take_succ_eq_append_getElem hlt,cont,List.map_append,←cont,hcB]
   simp only [List.map_cons,List.map_nil,hits]
 ·have g:¬(i:Int)<(bs.length:Int):=by omega
  obtain rfl:i=bs.length:=by omega
  rw [List.take_length] at hcB
  simp only [g,RR]
  exact Qa (h v B τ hcB hN)
end Go.Proofs.YtggnjjalfnhiiaaGreatDoor.E
/- Code that is taken apart: the reference's way. -/
namespace Go.Proofs.YtggnjjalfnhiiaaGreatDoor.E
open Go Go.RowKit
set_option maxRecDepth 100000
variable [L:Lam]
variable {σ τ τ':AH} {R:AEnd→AH→Prop}
set_option maxHeartbeats 1000000 in
theorem QoB {w u:AV} {W:Its} {xs:List Int} (hW:Buf τ 7 w (W.map Qh)) (hu:Buf τ 1 u (ivs xs)) (hd:∀ψ,ψ∈famL w→ψ∉famL u) (ht:∀p,p∈W→0≤p.1.a∧0≤p.1.c∧okT xs.length p.1) (hl:W.length≤4294967296)
  (h:∀τ',Buf τ' 7 w ((W.map (QN xs)).map Qh)→(∀ψ,ψ∉famL w→τ' ψ=τ ψ)→R (.ret w) τ'):acall TP Qfx [w,u] τ R:=by
 refine QkT ?_
 unfold Qhe x115;dsimp only [den,dE,di,tupL,lTup,dwat,Qe,List.map,Option.map,den0,den1,den2,den3,den4]
 have hlen:=Q9 hW
 rw [show (W.map Qh).length=W.length by simp] at hlen
 refine QH (fun n x τ'=>∃don rest:Its,W=don++rest∧rest.length=n∧x=(w,u,iv (don.length:Int),())∧Buf τ' 7 w ((don.map (QN xs)++rest).map Qh)∧∀ψ,ψ∉famL w→τ' ψ=τ ψ) W.length ⟨[],W,rfl,rfl,rfl,hW,fun _ _=>rfl⟩ ?_
 rintro n x τ1 ⟨don,rest,hit,hrl,rfl,hB,hfr⟩ R' hR'
 simp only [hlen,RR]
 cases rest with
 |nil=>
  rw [List.append_nil] at hit
  subst hit
  rw [List.append_nil] at hB
  have g:¬(W.length:Int)<(W.length:Int):=by omega
  simp only [g,RR]
  exact Qa (h τ1 hB hfr)
 |cons p r=>
  have hi:don.length<W.length:=by rw [hit];simp
  have g:(don.length:Int)<(W.length:Int):=by omega
  have hu1:Buf τ1 1 u (ivs xs):=Je hu fun ψ hψ=>hfr ψ fun c=>hd ψ c hψ
  have hle:((don.map (QN xs)++p::r).map Qh).length=W.length:=by rw [hit];simp
  obtain ⟨φ,st,hw,hF⟩:=Jx hB (by simp)
  rw [hle] at hw
  subst hw
  have hpl:((don.map (QN xs)).map Qh).length=don.length:=by simp
  have hset:τ1=τ1.set φ ⟨st,7,(don.map (QN xs)).map Qh++Qh p::r.map Qh⟩:=by
   rw [AH.set_self];rw [hF];simp
  have hrow:((don.map (QN xs)++p::r).map Qh).getD don.length []=Qm p.1 p.2:=by simp [List.getD]
  obtain ⟨ha0,hc0,hto⟩:=ht p (by rw [hit];simp)
  have fin:∀(q:OpD × AV) (row:List AV),row=Qh q→q=QN xs p→R' (.own φ st 0 W.length,u,iv ((don.length+1:Nat):Int),()) (τ1.set φ ⟨st,7,(don.map (QN xs)).map Qh++row::r.map Qh⟩):=by
   rintro q row rfl rfl
   refine hR' _ _ r.length _ (by rw [←hrl];simp) (.refl _) ⟨don++[p],r,by simp [hit],rfl,by simp;rfl,.inr ⟨φ,st,by rw [hit];simp,by rw [AH.set_same];simp⟩,fun ψ hψ=>?_⟩
   rw [AH.set_ne' (by rintro rfl;exact hψ (by simp [famL]))]
   exact hfr ψ hψ
  have ix:=Jf (st:=st) (off:=0) hF hi
  rw [Nat.zero_add] at ix
  have l0:lod (.ptr φ st don.length 0) τ1=some (iv p.1.kind):=Qz hF rfl (by rw [hrow];rfl)
  simp only [g,jn,ix,l0,RR]
  unfold okT tgtN at hto
  by_cases c1:p.1.kind=5∨p.1.kind=6
  ·rw [if_pos c1] at hto
   have l1:lod (.ptr φ st don.length 1) τ1=some (iv p.1.a):=Qz hF rfl (by rw [hrow];rfl)
   obtain ⟨q,q1,q2⟩:=Qnv (j:=p.1.a.toNat) hu1 (by omega)
   rw [Int.toNat_of_nonneg ha0] at q1
   have goal:∀K:AH→Prop,(K (τ1.set φ ⟨st,7,(don.map (QN xs)).map Qh++(Qh p).set 1 (iv (atH xs p.1.a.toNat))::r.map Qh⟩))→sto 1 (.ptr φ st don.length 1) (iv (atH xs p.1.a.toNat)) τ1 K:=by
    intro K hK
    rw [hset]
    refine JB hpl (by omega) rfl ?_
    exact hK
   have fin1:=fin (QN xs p) ((Qh p).set 1 (iv (atH xs p.1.a.toNat))) (by simp [QN,UM,c1,Qm]) rfl
   by_cases c5:p.1.kind=5
   ·simp only [c5,Int.reduceEq,l1,q1,q2,ix,RR]
    refine goal _ ?_
    simp only [Qj hi (by omega),RR]
    exact fin1
   ·have c6:p.1.kind=6:=c1.resolve_left c5
    simp only [c6,Int.reduceEq,l1,q1,q2,ix,RR]
    refine goal _ ?_
    simp only [Qj hi (by omega),RR]
    exact fin1
  have n5:¬p.1.kind=5:=fun c=>c1 (.inl c)
  have n6:¬p.1.kind=6:=fun c=>c1 (.inr c)
  rw [if_neg c1] at hto
  by_cases c2:p.1.kind=16
  ·rw [if_pos c2] at hto
   have l1:lod (.ptr φ st don.length 3) τ1=some (iv p.1.c):=Qz hF rfl (by rw [hrow];rfl)
   obtain ⟨q,q1,q2⟩:=Qnv (j:=p.1.c.toNat) hu1 (by omega)
   rw [Int.toNat_of_nonneg hc0] at q1
   simp only [c2,Int.reduceEq,l1,q1,q2,ix,RR]
   rw [hset]
   refine JB hpl (by omega) rfl ?_
   simp only [Qj hi (by omega),RR]
   exact fin (QN xs p) _ (by simp [QN,UM,c2,Qm]) rfl
  simp only [n5,n6,c2,Qj hi (by omega),RR]
  rw [hset]
  exact fin p _ rfl (by simp [QN,UM,c1,c2])
end Go.Proofs.YtggnjjalfnhiiaaGreatDoor.E
/- Code that is fused: what it comes to. -/
namespace Go.Proofs.YtggnjjalfnhiiaaGreatDoor.E
open Go Go.RowKit
set_option maxRecDepth 100000
variable [L:Lam]
variable {σ τ τ':AH} {R:AEnd→AH→Prop}
def hasB (tab bit:Int):Bool:=decide ((tab / bit) % 2=1)
def twoD (tab:Int) (o p:OpD):Option OpD:=
 if o.kind=1∧p.kind=12∧hasB tab 1=true then some ⟨13,0,0,0,0,⟨#[]⟩,o.data⟩
 else if o.kind=2∧p.kind=12∧hasB tab 2=true then some ⟨14,o.a,o.b,0,0,⟨#[]⟩,[]⟩
 else if o.kind=2∧p.kind=2∧hasB tab 4=true then some ⟨15,o.a,o.b,p.a,p.b,⟨#[]⟩,[]⟩
 else if o.kind=2∧p.kind=6∧hasB tab 8=true then some ⟨16,o.a,o.b,p.a,0,⟨#[]⟩,[]⟩ else none
def twoA (p:OpD × AV):AV:=if p.1.kind=1 then p.2 else nilS
def UN (tab:Int) (T:Nat→Bool):Nat→List OpD→List OpD
 |_,[]=>[]
 |_,[p]=>[p]
 |k,p::q::r=>match T (k+1),twoD tab p q with
  |false,some o=>o::UN tab T (k+2) r
  |_,_=>p::UN tab T (k+1) (q::r)
def Q4 (tab:Int) (T:Nat→Bool):Nat→Its→Its
 |_,[]=>[]
 |_,[p]=>[p]
 |k,p::q::r=>match T (k+1),twoD tab p.1 q.1 with
  |false,some o=>(o,twoA p)::Q4 tab T (k+2) r
  |_,_=>p::Q4 tab T (k+1) (q::r)
def plF (tab:Int) (T:Nat→Bool) (z:Int→Int):Nat→Int→List OpD→List Int
 |_,_,[]=>[]
 |_,m,[_]=>[m]
 |k,m,p::q::r=>match T (k+1),twoD tab p q with
  |false,some _=>m::z m::plF tab T z (k+2) (m+1) r
  |_,_=>m::plF tab T z (k+1) (m+1) (q::r)
theorem Qkd (tab:Int) (T:Nat→Bool):∀(n k:Nat) (its:Its),its.length≤n→(Q4 tab T k its).map (·.1)=UN tab T k (its.map (·.1)):=by
 intro n
 induction n with
 |zero=>intro k its h;cases its with|nil=>rfl|cons=>simp at h
 |succ n ih=>
  intro k its h
  match its,h with
  |[],_=>rfl
  |[p],_=>rfl
  |p::q::r,h=>
   simp only [Q4,UN,List.map_cons]
   split
   ·rename_i o h1 h2
    simp only [List.map_cons]
    rw [ih (k+2) r (by simp at h;omega)]
   ·simp only [List.map_cons]
    rw [ih (k+1) (q::r) (by simp at h ⊢;omega)]
    rfl
theorem Qic (p:OpD × AV):(famL (twoA p)).Sublist (famL p.2):=by
 unfold twoA
 split
 ·exact .refl _
 ·simp [famL]
theorem Qf8 (tab:Int) (T:Nat→Bool):∀(n k:Nat) (its:Its),its.length≤n→(itsF (Q4 tab T k its)).Sublist (itsF its):=by
 intro n
 induction n with
 |zero=>intro k its h;cases its with|nil=>exact .slnil|cons=>simp at h
 |succ n ih=>
  intro k its h
  match its,h with
  |[],_=>exact .slnil
  |[p],_=>exact .refl _
  |p::q::r,h=>
   simp only [Q4]
   split
   ·rename_i o h1 h2
    rw [Ju,Ju,Ju]
    exact (Qic p).append ((ih (k+2) r (by simp at h;omega)).trans (List.sublist_append_right _ _))
   ·rw [Ju,Ju]
    exact (List.Sublist.refl _).append (ih (k+1) (q::r) (by simp at h ⊢;omega))
theorem Qo9 {tab:Int} {o p q:OpD} (h:twoD tab o p=some q):q.data=(if o.kind=1 then o.data else [])∧q.name=⟨#[]⟩:=by
 unfold twoD at h
 split at h
 ·rename_i c;cases h;rw [if_pos c.1];exact ⟨rfl,rfl⟩
 split at h
 ·rename_i c;cases h;rw [if_neg (by omega)];exact ⟨rfl,rfl⟩
 split at h
 ·rename_i c;cases h;rw [if_neg (by omega)];exact ⟨rfl,rfl⟩
 split at h
 ·rename_i c;cases h;rw [if_neg (by omega)];exact ⟨rfl,rfl⟩
 ·cases h
theorem QqA {tab:Int} {p:OpD × AV} {q o:OpD} (h:twoD tab p.1 q=some o) (hb:Buf τ 4 p.2 (p.1.data.map Qc)):Buf τ 4 (twoA p) (o.data.map Qc):=by
 rw [(Qo9 h).1]
 unfold twoA
 split
 ·exact hb
 ·exact QrJ
theorem QqB {p:OpD × AV} (h:p.2.one=true):(twoA p).one=true:=by
 unfold twoA
 split
 ·exact h
 ·rfl
theorem QrL (tab:Int) (T:Nat→Bool) (z:Int→Int):∀(n k:Nat) (m:Int) (os:List OpD),os.length≤n→(plF tab T z k m os).length=os.length:=by
 intro n
 induction n with
 |zero=>intro k m os h;cases os with|nil=>rfl|cons=>simp at h
 |succ n ih=>
  intro k m os h
  match os,h with
  |[],_=>rfl
  |[p],_=>rfl
  |p::q::r,h=>
   simp only [plF]
   split
   ·simp only [List.length_cons];rw [ih _ _ r (by simp at h;omega)]
   ·simp only [List.length_cons];rw [ih _ _ (q::r) (by simp at h ⊢;omega)];rfl
theorem Qvh (tab:Int) (T:Nat→Bool) (z z':Int→Int):∀(n k:Nat) (m:Int) (os:List OpD),os.length≤n→∀j,(j=0∨T (k+j)=true)→atH (plF tab T z k m os) j=atH (plF tab T z' k m os) j:=by
 intro n
 induction n with
 |zero=>intro k m os h;cases os with|nil=>intro j _;rfl|cons=>simp at h
 |succ n ih=>
  intro k m os h j hj
  match os,h with
  |[],_=>rfl
  |[p],_=>rfl
  |p::q::r,h=>
   simp only [plF]
   split
   ·rename_i o h1 h2
    match j with
    |0=>rfl
    |1=>
     rcases hj with c|c
     ·cases c
     ·rw [h1] at c;cases c
    |j+2=>
     have:=ih (k+2) (m+1) r (by simp at h;omega) j (by
      rcases hj with c|c
      ·cases c
      ·right;rw [show k+2+j=k+(j+2) by omega];exact c)
     simpa [atH] using this
   ·match j with
    |0=>rfl
    |j+1=>
     have:=ih (k+1) (m+1) (q::r) (by simp at h ⊢;omega) j (by
      rcases hj with c|c
      ·cases c
      ·right;rw [show k+1+j=k+(j+1) by omega];exact c)
     simpa [atH] using this
theorem Qyf {n:Nat} {tab:Int} {o p q:OpD} (h1:smO o) (h2:smO p) (ht:tgtN p<n) (h:twoD tab o p=some q):0≤q.a∧0≤q.c∧okT n q∧(0≤tgtN q→tgtN q=tgtN p):=by
 obtain ⟨a1,a2,a3,a4,a5,a6,a7,a8⟩:=h1
 obtain ⟨b1,b2,b3,b4,b5,b6,b7,b8⟩:=h2
 unfold tgtN at ht
 unfold twoD at h
 unfold okT
 split at h
 ·cases h;simp [tgtN];omega
 split at h
 ·cases h;simp [tgtN];omega
 split at h
 ·cases h;simp [tgtN];omega
 split at h
 ·rename_i c
  cases h
  rw [if_pos (by omega)] at ht
  simp [tgtN,c.2.1];omega
 ·cases h
theorem Qmn (tab:Int) (T:Nat→Bool) (N:Nat):∀(n k:Nat) (os:List OpD),os.length≤n→smB os→(∀o,o∈os→tgtN o<N)→∀q,q∈UN tab T k os→0≤q.a∧0≤q.c∧okT N q∧(0≤tgtN q→∃o,o∈os∧tgtN o=tgtN q):=by
 intro n
 induction n with
 |zero=>intro k os h;cases os with|nil=>intro _ _ q hq;cases hq|cons=>simp at h
 |succ n ih=>
  intro k os h hs ht q hq
  have self:∀o,o∈os→0≤o.a∧0≤o.c∧okT N o:=fun o ho=>by
   obtain ⟨a1,a2,a3,a4,a5,a6,a7,a8⟩:=hs o ho
   refine ⟨a1,a5,?_,ht o ho⟩
   unfold tgtN;repeat' split<;>omega
  match os,h,hs,ht,self,hq with
  |[],_,_,_,_,hq=>cases hq
  |[p],_,hs,ht,self,hq=>
   obtain rfl:q=p:=by simpa [UN] using hq
   obtain ⟨s1,s2,s3⟩:=self q (by simp)
   exact ⟨s1,s2,s3,fun _=>⟨q,by simp,rfl⟩⟩
  |p::p2::r,h,hs,ht,self,hq=>
   simp only [UN] at hq
   split at hq
   ·rename_i o h1 h2
    rcases List.mem_cons.1 hq with rfl|hq
    ·obtain ⟨t1,t2,t3,t4⟩:=Qyf (n:=N) (hs p (by simp)) (hs p2 (by simp)) (ht p2 (by simp)) h2
     exact ⟨t1,t2,t3,fun c=>⟨p2,by simp,(t4 c).symm⟩⟩
    ·obtain ⟨s1,s2,s3,s4⟩:=ih (k+2) r (by simp at h;omega) (fun o ho=>hs o (by simp [ho])) (fun o ho=>ht o (by simp [ho])) q hq
     exact ⟨s1,s2,s3,fun c=>by obtain ⟨o,ho,e⟩:=s4 c;exact ⟨o,by simp [ho],e⟩⟩
   ·rcases List.mem_cons.1 hq with rfl|hq
    ·obtain ⟨s1,s2,s3⟩:=self q (by simp)
     exact ⟨s1,s2,s3,fun _=>⟨q,by simp,rfl⟩⟩
    ·obtain ⟨s1,s2,s3,s4⟩:=ih (k+1) (p2::r) (by simp at h ⊢;omega) (fun o ho=>hs o (by simp at ho ⊢;rcases ho with rfl|ho<;>simp [*])) (fun o ho=>ht o (by simp at ho ⊢;rcases ho with rfl|ho<;>simp [*])) q hq
     exact ⟨s1,s2,s3,fun c=>by obtain ⟨o,ho,e⟩:=s4 c;exact ⟨o,by simp at ho ⊢;rcases ho with rfl|ho<;>simp [*],e⟩⟩
def isT (os:List OpD) (t:Nat):Bool:=os.any fun o=>decide (tgtN o=(t:Int))
def fusO (tab:Int) (os:List OpD):List OpD:=(UN tab (isT os) 0 os).map (UM (plF tab (isT os) (fun m=>m) 0 0 os))
theorem QsE {xs ys:List Int} {o:OpD} (h:0≤tgtN o→atH xs (tgtN o).toNat=atH ys (tgtN o).toNat) (h0:0≤o.a) (h2:0≤o.c):UM xs o=UM ys o:=by
 unfold tgtN at h
 unfold UM
 split
 ·rename_i c
  rw [if_pos c] at h
  rw [h h0]
 ·rename_i c
  rw [if_neg c] at h
  split
  ·rename_i c2
   rw [if_pos c2] at h
   rw [h h2]
  ·rfl
theorem Qvi (tab:Int) (z:Int→Int) {os:List OpD} (hs:smB os) (ht:∀o,o∈os→tgtN o<os.length):(UN tab (isT os) 0 os).map (UM (plF tab (isT os) z 0 0 os))=fusO tab os:=by
 refine List.map_congr_left fun q hq=>?_
 obtain ⟨h1,h2,h3,h4⟩:=Qmn tab (isT os) os.length os.length 0 os (Nat.le_refl _) hs ht q hq
 refine QsE (fun c=>?_) h1 h2
 refine Qvh tab (isT os) z _ os.length 0 0 os (Nat.le_refl _) _ (.inr ?_)
 obtain ⟨o,ho,e⟩:=h4 c
 unfold isT
 rw [List.any_eq_true]
 exact ⟨o,ho,decide_eq_true (by rw [e,Nat.zero_add];omega)⟩
end Go.Proofs.YtggnjjalfnhiiaaGreatDoor.E
/- Code that is fused: two operations as one. -/
namespace Go.Proofs.YtggnjjalfnhiiaaGreatDoor.E
open Go Go.RowKit
set_option maxRecDepth 100000
variable [L:Lam]
variable {σ τ τ':AH} {R:AEnd→AH→Prop}
theorem Qvj {x y:AV} {xs ys z:List AV} {n m k0:Nat} {k:AV→AV→AV→AH→Prop} (hx:JD x=some xs) (hy:JD y=some ys) (h:∀φ,σ φ=none→k (.rop xs 0) (.rop ys 0) (.ptr φ 0 0 0) (σ.set φ ⟨0,z.length,[z]⟩)):
  abox x σ fun v3 σ=>abox y σ fun v4 σ=>new z σ fun v6 σ=>frz v3 σ fun f3 σ=>frz v4 σ fun f4 σ=>k f3 f4 v6 σ:=by
 unfold abox
 rw [hx]
 simp only []
 intro φ3 h3
 rw [hy]
 simp only []
 intro φ4 h4 φ6 h6
 rw [AH.set_none] at h4 h6
 rw [AH.set_none] at h6
 have e:((σ.set φ3 ⟨0,xs.length,[xs]⟩).set φ4 ⟨0,ys.length,[ys]⟩).set φ6 ⟨0,z.length,[z]⟩=((σ.set φ6 ⟨0,z.length,[z]⟩).set φ4 ⟨0,ys.length,[ys]⟩).set φ3 ⟨0,xs.length,[xs]⟩:=by
  rw [AH.set_comm (σ.set φ3 ⟨0,xs.length,[xs]⟩) _ _ (Ne.symm h6.1),AH.set_comm σ _ _ (Ne.symm h6.2.1),AH.set_comm _ _ _ (Ne.symm h4.1)]
 rw [e]
 refine QI (AH.set_none.2 ⟨Ne.symm h4.1,AH.set_none.2 ⟨Ne.symm h6.2.1,h3⟩⟩) rfl ?_
 refine QI (AH.set_none.2 ⟨Ne.symm h6.1,h4.2⟩) rfl ?_
 exact h φ6 h6.2.2
theorem QkE {tab bit:Int} (h0:0≤tab) (h1:tab≤15) (hb:bit=1∨bit=2∨bit=4∨bit=8):∃v,ibin .and (iv tab) (.val (.int .i64 bit))=some (iv v)∧decide (v=0)= !hasB tab bit:=by
 have:tab=0∨tab=1∨tab=2∨tab=3∨tab=4∨tab=5∨tab=6∨tab=7∨tab=8∨tab=9∨tab=10∨tab=11∨tab=12∨tab=13∨tab=14∨tab=15:=by omega
 rcases hb with rfl|rfl|rfl|rfl<;>rcases this with rfl|rfl|rfl|rfl|rfl|rfl|rfl|rfl|rfl|rfl|rfl|rfl|rfl|rfl|rfl|rfl<;>exact ⟨_,rfl,by decide⟩
theorem fin7 {φ:Nat} {z cs:List AV} {ok:Bool} (hF:τ φ=some ⟨0,7,[z]⟩) (hz:z.length=7) (hc:cs.length=7) (h1:∀y,y∈cs→y.one=true) (h:aret (.tup [.agg cs,bv ok]) (τ.set φ ⟨0,7,[cs]⟩) R):
  sto 7 (.ptr φ 0 0 0) (.agg cs) τ fun σ=>og (lodA 7 (.ptr φ 0 0 0) σ) fun r=>aret (.tup [r,bv ok]) σ R:=by
 refine QG (es:=[z]) (cs:=cs) hF (by simp) (by simpa using hz) rfl hc h1 ?_
 simp only [List.set_cons_zero]
 have e:=UG (σ:=τ.set φ ⟨0,7,[cs]⟩) (φ:=φ) (st:=0) (i:=0) (n:=7) (cs:=cs) (AH.set_same ..) rfl rfl hc
 rw [e]
 exact h
theorem Qnw {a:AV} {es:List (List AV)} {o:OpD} (h:Buf τ 4 a es):bld [(.val (.int .i64 0)),(.val (.int .i64 0)),(.val (.int .i64 0)),(.val (.int .i64 0)),(.val (.int .i64 0)),(.val (.string ⟨#[]⟩)),(.val (.slice none 0 0))] [(0,1),(1,1),(2,1),(3,1),(4,1),(5,1),(6,1)] [(0,(.val (.int .i64 13))),(6,a)]=some (.agg (Qm ⟨13,0,0,0,0,⟨#[]⟩,o.data⟩ a)):=by
 rcases h with ⟨rfl|rfl,_⟩|⟨φ,st,rfl,_⟩<;>rfl
structure TwoR (tab:Int) (p q:OpD × AV) (row:List AV) (ok:Bool):Prop where
 len:row.length=7
 one:∀y,y∈row→y.one=true
 yes:∀o,twoD tab p.1 q.1=some o→ok=true∧row=Qh (o,twoA p)
 no:twoD tab p.1 q.1=none→ok=false
set_option maxHeartbeats 2000000 in
theorem Qrg {p q:OpD × AV} {tab:Int} (h0:0≤tab) (h1:tab≤15) (hp:Buf σ 4 p.2 (p.1.data.map Qc)) (h:∀row ok,TwoR tab p q row ok→R (.ret (.tup [.agg row,bv ok])) σ):acall TP Qjj [.agg (Qh p),.agg (Qh q),iv tab] σ R:=by
 obtain ⟨v1,e1,g1⟩:=QkE h0 h1 (bit:=1) (by simp)
 obtain ⟨v2,e2,g2⟩:=QkE h0 h1 (bit:=2) (by simp)
 obtain ⟨v4,e4,g4⟩:=QkE h0 h1 (bit:=4) (by simp)
 obtain ⟨v8,e8,g8⟩:=QkE h0 h1 (bit:=8) (by simp)
 have ha1:=hp.av1
 refine Qoc ?_
 unfold Qlq x90;dsimp only [den,dE,di,tupL,lTup,dwat,Qe,List.map,Option.map,den0,den1,den2,den3,den4]
 refine Qvj (n:=7) (m:=7) (k0:=7) rfl rfl fun φ hφ=>?_
 have hF:=AH.set_same σ φ (⟨0,7,[[(AV.val (.int .i64 0)),(.val (.int .i64 0)),(.val (.int .i64 0)),(.val (.int .i64 0)),(.val (.int .i64 0)),(.val (.string ⟨#[]⟩)),(.val (.slice none 0 0))]]⟩:Fam)
 have fin:∀(cs:List AV) (ok:Bool),TwoR tab p q cs ok→sto 7 (.ptr φ 0 0 0) (.agg cs) (σ.set φ ⟨0,7,[[(AV.val (.int .i64 0)),(.val (.int .i64 0)),(.val (.int .i64 0)),(.val (.int .i64 0)),(.val (.int .i64 0)),(.val (.string ⟨#[]⟩)),(.val (.slice none 0 0))]]⟩) fun σ=>og (lodA 7 (.ptr φ 0 0 0) σ) fun r=>aret (.tup [r,bv ok]) σ R:=fun cs ok ht=>
  fin7 hF rfl ht.len ht.one (U7 (by rw [AH.set_set];exact .set (.refl σ) _ hφ) (h cs ok ht))
 have k0:∀τ,lod (.rop (Qh p) 0) τ=some (iv p.1.kind):=fun _=>rfl
 have k1:∀τ,lod (.rop (Qh p) 1) τ=some (iv p.1.a):=fun _=>rfl
 have k2:∀τ,lod (.rop (Qh p) 2) τ=some (iv p.1.b):=fun _=>rfl
 have k6:∀τ,lod (.rop (Qh p) 6) τ=some p.2:=fun _=>rfl
 have q0:∀τ,lod (.rop (Qh q) 0) τ=some (iv q.1.kind):=fun _=>rfl
 have q1:∀τ,lod (.rop (Qh q) 1) τ=some (iv q.1.a):=fun _=>rfl
 have q2:∀τ,lod (.rop (Qh q) 2) τ=some (iv q.1.b):=fun _=>rfl
 have b13:=Qnw (o:=p.1) hp
 have b14:bld [(.val (.int .i64 0)),(.val (.int .i64 0)),(.val (.int .i64 0)),(.val (.int .i64 0)),(.val (.int .i64 0)),(.val (.string ⟨#[]⟩)),(.val (.slice none 0 0))] [(0,1),(1,1),(2,1),(3,1),(4,1),(5,1),(6,1)] [(0,(.val (.int .i64 14))),(1,iv p.1.a),(2,iv p.1.b)]=some (.agg (Qm ⟨14,p.1.a,p.1.b,0,0,⟨#[]⟩,[]⟩ nilS)):=rfl
 have b15:bld [(.val (.int .i64 0)),(.val (.int .i64 0)),(.val (.int .i64 0)),(.val (.int .i64 0)),(.val (.int .i64 0)),(.val (.string ⟨#[]⟩)),(.val (.slice none 0 0))] [(0,1),(1,1),(2,1),(3,1),(4,1),(5,1),(6,1)] [(0,(.val (.int .i64 15))),(1,iv p.1.a),(2,iv p.1.b),(3,iv q.1.a),(4,iv q.1.b)]=some (.agg (Qm ⟨15,p.1.a,p.1.b,q.1.a,q.1.b,⟨#[]⟩,[]⟩ nilS)):=rfl
 have b16:bld [(.val (.int .i64 0)),(.val (.int .i64 0)),(.val (.int .i64 0)),(.val (.int .i64 0)),(.val (.int .i64 0)),(.val (.string ⟨#[]⟩)),(.val (.slice none 0 0))] [(0,1),(1,1),(2,1),(3,1),(4,1),(5,1),(6,1)] [(0,(.val (.int .i64 16))),(1,iv p.1.a),(2,iv p.1.b),(3,iv q.1.a)]=some (.agg (Qm ⟨16,p.1.a,p.1.b,q.1.a,0,⟨#[]⟩,[]⟩ nilS)):=rfl
 have bz:bld [(.val (.int .i64 0)),(.val (.int .i64 0)),(.val (.int .i64 0)),(.val (.int .i64 0)),(.val (.int .i64 0)),(.val (.string ⟨#[]⟩)),(.val (.slice none 0 0))] [(0,1),(1,1),(2,1),(3,1),(4,1),(5,1),(6,1)] []=some (.agg (Qm ⟨0,0,0,0,0,⟨#[]⟩,[]⟩ nilS)):=rfl
 have no:twoD tab p.1 q.1=none→TwoR tab p q (Qm ⟨0,0,0,0,0,⟨#[]⟩,[]⟩ nilS) false:=fun hn=>⟨rfl,one7 rfl,(fun o ho=>by rw [hn] at ho;cases ho),fun _=>rfl⟩
 have yes:∀o a,twoD tab p.1 q.1=some o→a=twoA p→a.one=true→TwoR tab p q (Qm o a) true:=fun o a ho ha ha1=>⟨rfl,one7 ha1,(fun o' ho'=>by rw [ho] at ho';cases ho';subst ha;exact ⟨rfl,rfl⟩),fun hn=>by rw [ho] at hn;cases hn⟩
 have big:∀X:Prop,(∀(c1:Bool) (d12 d2 d6:Bool),X)→X:=fun X hX=>hX true true true true
 by_cases a1:p.1.kind=1
 ·have a2:¬p.1.kind=2:=by omega
  by_cases a12:q.1.kind=12
  ·cases hb:hasB tab 1
   ·have hn:twoD tab p.1 q.1=none:=by unfold twoD;simp [a1,a12,hb]
    rw [hb] at g1
    simp only [k0,q0,a1,a12,e1,g1,Int.reduceEq,bz,RR]
    exact fin _ _ (no hn)
   ·have hn:twoD tab p.1 q.1=some ⟨13,0,0,0,0,⟨#[]⟩,p.1.data⟩:=by unfold twoD;simp [a1,a12,hb]
    rw [hb] at g1
    simp only [k0,k6,q0,a1,a12,e1,g1,Int.reduceEq,b13,RR]
    exact fin _ _ (yes _ _ hn (by unfold twoA;rw [if_pos a1]) ha1)
  ·have hn:twoD tab p.1 q.1=none:=by unfold twoD;simp [a1,a12]
   simp only [k0,q0,a1,a12,Int.reduceEq,bz,RR]
   exact fin _ _ (no hn)
 by_cases a2:p.1.kind=2
 ·have tA:nilS=twoA p:=by unfold twoA;rw [if_neg a1]
  by_cases a12:q.1.kind=12
  ·cases hb:hasB tab 2
   ·have hn:twoD tab p.1 q.1=none:=by unfold twoD;simp [a2,a12,hb]
    rw [hb] at g2
    simp only [k0,q0,a2,a12,e2,g2,Int.reduceEq,bz,RR]
    exact fin _ _ (no hn)
   ·have hn:twoD tab p.1 q.1=some ⟨14,p.1.a,p.1.b,0,0,⟨#[]⟩,[]⟩:=by unfold twoD;simp [a2,a12,hb]
    rw [hb] at g2
    simp only [k0,k1,k2,q0,a2,a12,e2,g2,Int.reduceEq,b14,RR]
    exact fin _ _ (yes _ _ hn tA rfl)
  by_cases a22:q.1.kind=2
  ·cases hb:hasB tab 4
   ·have hn:twoD tab p.1 q.1=none:=by unfold twoD;simp [a2,a22,hb]
    rw [hb] at g4
    simp only [k0,q0,a2,a22,e4,g4,Int.reduceEq,bz,RR]
    exact fin _ _ (no hn)
   ·have hn:twoD tab p.1 q.1=some ⟨15,p.1.a,p.1.b,q.1.a,q.1.b,⟨#[]⟩,[]⟩:=by unfold twoD;simp [a2,a22,hb]
    rw [hb] at g4
    simp only [k0,k1,k2,q0,q1,q2,a2,a22,e4,g4,Int.reduceEq,b15,RR]
    exact fin _ _ (yes _ _ hn tA rfl)
  by_cases a6:q.1.kind=6
  ·cases hb:hasB tab 8
   ·have hn:twoD tab p.1 q.1=none:=by unfold twoD;simp [a2,a6,hb]
    rw [hb] at g8
    simp only [k0,q0,a2,a6,e8,g8,Int.reduceEq,bz,RR]
    exact fin _ _ (no hn)
   ·have hn:twoD tab p.1 q.1=some ⟨16,p.1.a,p.1.b,q.1.a,0,⟨#[]⟩,[]⟩:=by unfold twoD;simp [a2,a6,hb]
    rw [hb] at g8
    simp only [k0,k1,k2,q0,q1,a2,a6,e8,g8,Int.reduceEq,b16,RR]
    exact fin _ _ (yes _ _ hn tA rfl)
  have hn:twoD tab p.1 q.1=none:=by unfold twoD;simp [a2,a12,a22,a6]
  simp only [k0,q0,a2,a12,a22,a6,Int.reduceEq,bz,RR]
  exact fin _ _ (no hn)
 have hn:twoD tab p.1 q.1=none:=by unfold twoD;simp [a1,a2]
 simp only [k0,a1,a2,bz,RR]
 exact fin _ _ (no hn)
theorem Qbv {tab bit:Int} (h0:0≤tab) (h1:tab≤15) (hb:bit=1∨bit=2∨bit=4∨bit=8) (h:R (.ret (bv (hasB tab bit))) σ):acall TP QgV [iv tab,.val (.int .i64 bit)] σ R:=by
 refine Ql3 ?_
 unfold QiI x152;dsimp only [den,dE,di,tupL,lTup,dwat,Qe,List.map,Option.map,den0,den1,den2,den3,den4]
 unfold hasB at h
 have e1:ibin .quo (iv tab) (.val (.int .i64 bit))=some (iv (tab / bit)):=by
  rcases hb with rfl|rfl|rfl|rfl
  all_goals
   show some (iv (IntKind.i64.wrap (tab.tdiv _)))=_
   rw [Int.tdiv_eq_ediv_of_nonneg h0,Qay (by omega) (by omega)]
 have hq:0≤tab / bit:=by rcases hb with rfl|rfl|rfl|rfl<;>omega
 have e2:ibin .rem (iv (tab / bit)) (.val (.int .i64 2))=some (iv (tab / bit % 2)):=by
  show some (iv ((tab / bit).tmod 2))=_
  rw [Int.tmod_eq_emod_of_nonneg hq]
 simp only [e1,e2,RR]
 exact Qa h
end Go.Proofs.YtggnjjalfnhiiaaGreatDoor.E
/- Code that is fused: the reference's two as one; who is led to. -/
namespace Go.Proofs.YtggnjjalfnhiiaaGreatDoor.E
open Go Go.RowKit
set_option maxRecDepth 100000
variable [L:Lam]
variable {σ τ τ':AH} {R:AEnd→AH→Prop}
set_option maxHeartbeats 2000000 in
theorem Qps {p q:OpD × AV} {tab:Int} {φ st i j:Nat} {F:Fam} (h0:0≤tab) (h1:tab≤15) (hF:σ φ=some F) (hst:F.st=st) (hi:F.es[i]? =some (Qh p)) (hj:F.es[j]? =some (Qh q)) (hp:Buf σ 4 p.2 (p.1.data.map Qc))
  (h:∀row ok,TwoR tab p q row ok→R (.ret (.tup [.agg row,bv ok])) σ):acall TP QgN [.ptr φ st i 0,.ptr φ st j 0,iv tab] σ R:=by
 have ha1:=hp.av1
 have hrp:F.es.getD i []=Qh p:=by simp [List.getD,hi]
 have hrq:F.es.getD j []=Qh q:=by simp [List.getD,hj]
 refine QlW ?_
 unfold QiB x114;dsimp only [den,dE,di,tupL,lTup,dwat,Qe,List.map,Option.map,den0,den1,den2,den3,den4]
 intro χ hχ
 have hFχ:=AH.set_same σ χ (⟨0,[(AV.val (.int .i64 0)),(.val (.int .i64 0)),(.val (.int .i64 0)),(.val (.int .i64 0)),(.val (.int .i64 0)),(.val (.string ⟨#[]⟩)),(.val (.slice none 0 0))].length,[[(AV.val (.int .i64 0)),(.val (.int .i64 0)),(.val (.int .i64 0)),(.val (.int .i64 0)),(.val (.int .i64 0)),(.val (.string ⟨#[]⟩)),(.val (.slice none 0 0))]]⟩:Fam)
 have hs0:∀G,AH.Sub σ ((σ.set χ ⟨0,[(AV.val (.int .i64 0)),(.val (.int .i64 0)),(.val (.int .i64 0)),(.val (.int .i64 0)),(.val (.int .i64 0)),(.val (.string ⟨#[]⟩)),(.val (.slice none 0 0))].length,[[(AV.val (.int .i64 0)),(.val (.int .i64 0)),(.val (.int .i64 0)),(.val (.int .i64 0)),(.val (.int .i64 0)),(.val (.string ⟨#[]⟩)),(.val (.slice none 0 0))]]⟩).set χ G):=fun G=>by rw [AH.set_set];exact .set (.refl σ) _ hχ
 have hφ:(σ.set χ ⟨0,[(AV.val (.int .i64 0)),(.val (.int .i64 0)),(.val (.int .i64 0)),(.val (.int .i64 0)),(.val (.int .i64 0)),(.val (.string ⟨#[]⟩)),(.val (.slice none 0 0))].length,[[(AV.val (.int .i64 0)),(.val (.int .i64 0)),(.val (.int .i64 0)),(.val (.int .i64 0)),(.val (.int .i64 0)),(.val (.string ⟨#[]⟩)),(.val (.slice none 0 0))]]⟩) φ=some F:=by
  rw [AH.set_ne' (by rintro rfl;rw [hF] at hχ;cases hχ)];exact hF
 generalize σ.set χ ⟨0,[(AV.val (.int .i64 0)),(.val (.int .i64 0)),(.val (.int .i64 0)),(.val (.int .i64 0)),(.val (.int .i64 0)),(.val (.string ⟨#[]⟩)),(.val (.slice none 0 0))].length,[[(AV.val (.int .i64 0)),(.val (.int .i64 0)),(.val (.int .i64 0)),(.val (.int .i64 0)),(.val (.int .i64 0)),(.val (.string ⟨#[]⟩)),(.val (.slice none 0 0))]]⟩=τ0 at hFχ hs0 hφ ⊢
 have fin:∀(cs:List AV) (ok:Bool),TwoR tab p q cs ok→sto 7 (.ptr χ 0 0 0) (.agg cs) τ0 fun σ=>og (lodA 7 (.ptr χ 0 0 0) σ) fun r=>aret (.tup [r,bv ok]) σ R:=fun cs ok ht=>
  fin7 hFχ rfl ht.len ht.one (U7 (hs0 _) (h cs ok ht))
 have lp:∀(k:Nat) (v:AV),(Qh p)[k]? =some v→lod (.ptr φ st i k) τ0=some v:=fun k v h=>Qz hφ hst (by rw [hrp];exact h)
 have lq:∀(k:Nat) (v:AV),(Qh q)[k]? =some v→lod (.ptr φ st j k) τ0=some v:=fun k v h=>Qz hφ hst (by rw [hrq];exact h)
 have k0:=lp 0 _ rfl
 have k1:=lp 1 _ rfl
 have k2:=lp 2 _ rfl
 have k6:=lp 6 _ rfl
 have q0:=lq 0 _ rfl
 have q1:=lq 1 _ rfl
 have q2:=lq 2 _ rfl
 have b13:=Qnw (o:=p.1) hp
 have b14:bld [(.val (.int .i64 0)),(.val (.int .i64 0)),(.val (.int .i64 0)),(.val (.int .i64 0)),(.val (.int .i64 0)),(.val (.string ⟨#[]⟩)),(.val (.slice none 0 0))] [(0,1),(1,1),(2,1),(3,1),(4,1),(5,1),(6,1)] [(0,(.val (.int .i64 14))),(1,iv p.1.a),(2,iv p.1.b)]=some (.agg (Qm ⟨14,p.1.a,p.1.b,0,0,⟨#[]⟩,[]⟩ nilS)):=rfl
 have b15:bld [(.val (.int .i64 0)),(.val (.int .i64 0)),(.val (.int .i64 0)),(.val (.int .i64 0)),(.val (.int .i64 0)),(.val (.string ⟨#[]⟩)),(.val (.slice none 0 0))] [(0,1),(1,1),(2,1),(3,1),(4,1),(5,1),(6,1)] [(0,(.val (.int .i64 15))),(1,iv p.1.a),(2,iv p.1.b),(3,iv q.1.a),(4,iv q.1.b)]=some (.agg (Qm ⟨15,p.1.a,p.1.b,q.1.a,q.1.b,⟨#[]⟩,[]⟩ nilS)):=rfl
 have b16:bld [(.val (.int .i64 0)),(.val (.int .i64 0)),(.val (.int .i64 0)),(.val (.int .i64 0)),(.val (.int .i64 0)),(.val (.string ⟨#[]⟩)),(.val (.slice none 0 0))] [(0,1),(1,1),(2,1),(3,1),(4,1),(5,1),(6,1)] [(0,(.val (.int .i64 16))),(1,iv p.1.a),(2,iv p.1.b),(3,iv q.1.a)]=some (.agg (Qm ⟨16,p.1.a,p.1.b,q.1.a,0,⟨#[]⟩,[]⟩ nilS)):=rfl
 have bz:bld [(.val (.int .i64 0)),(.val (.int .i64 0)),(.val (.int .i64 0)),(.val (.int .i64 0)),(.val (.int .i64 0)),(.val (.string ⟨#[]⟩)),(.val (.slice none 0 0))] [(0,1),(1,1),(2,1),(3,1),(4,1),(5,1),(6,1)] []=some (.agg (Qm ⟨0,0,0,0,0,⟨#[]⟩,[]⟩ nilS)):=rfl
 have no:twoD tab p.1 q.1=none→TwoR tab p q (Qm ⟨0,0,0,0,0,⟨#[]⟩,[]⟩ nilS) false:=fun hn=>⟨rfl,one7 rfl,(fun o ho=>by rw [hn] at ho;cases ho),fun _=>rfl⟩
 have yes:∀o a (b:Bool),(b=true→twoD tab p.1 q.1=some o)→(b=false→twoD tab p.1 q.1=none)→a=twoA p→a.one=true→TwoR tab p q (Qm o a) b:=fun o a b ho hn ha ha1=>⟨rfl,one7 ha1,(fun o' ho'=>by
  cases b with
  |true=>rw [ho rfl] at ho';cases ho';subst ha;exact ⟨rfl,rfl⟩
  |false=>rw [hn rfl] at ho';cases ho'),fun hn2=>by
  cases b with
  |true=>rw [ho rfl] at hn2;cases hn2
  |false=>rfl⟩
 by_cases a1:p.1.kind=1
 ·have a2:¬p.1.kind=2:=by omega
  by_cases a12:q.1.kind=12
  ·simp only [k0,k6,q0,a1,a12,Int.reduceEq,b13,RR]
   refine Qbv h0 h1 (by simp) ?_
   simp only [k6,true_and,RR]
   exact fin _ _ (yes _ _ _ (fun hb=>by unfold twoD;simp [a1,a12,hb]) (fun hb=>by unfold twoD;simp [a1,a12,hb]) (by unfold twoA;rw [if_pos a1]) ha1)
  ·have hn:twoD tab p.1 q.1=none:=by unfold twoD;simp [a1,a12]
   simp only [k0,q0,a1,a12,Int.reduceEq,bz,RR]
   exact fin _ _ (no hn)
 by_cases a2:p.1.kind=2
 ·have tA:nilS=twoA p:=by unfold twoA;rw [if_neg a1]
  by_cases a12:q.1.kind=12
  ·simp only [k0,k1,k2,q0,a2,a12,Int.reduceEq,b14,RR]
   refine Qbv h0 h1 (by simp) ?_
   simp only [k1,k2,true_and,RR]
   exact fin _ _ (yes _ _ _ (fun hb=>by unfold twoD;simp [a2,a12,hb]) (fun hb=>by unfold twoD;simp [a2,a12,hb]) tA rfl)
  by_cases a22:q.1.kind=2
  ·simp only [k0,k1,k2,q0,q1,q2,a2,a22,Int.reduceEq,b15,RR]
   refine Qbv h0 h1 (by simp) ?_
   simp only [k1,k2,q1,q2,true_and,RR]
   exact fin _ _ (yes _ _ _ (fun hb=>by unfold twoD;simp [a2,a22,hb]) (fun hb=>by unfold twoD;simp [a2,a22,hb]) tA rfl)
  by_cases a6:q.1.kind=6
  ·simp only [k0,k1,k2,q0,q1,a2,a6,Int.reduceEq,b16,RR]
   refine Qbv h0 h1 (by simp) ?_
   simp only [k1,k2,q1,true_and,RR]
   exact fin _ _ (yes _ _ _ (fun hb=>by unfold twoD;simp [a2,a6,hb]) (fun hb=>by unfold twoD;simp [a2,a6,hb]) tA rfl)
  have hn:twoD tab p.1 q.1=none:=by unfold twoD;simp [a2,a12,a22,a6]
  simp only [k0,q0,a2,a12,a22,a6,Int.reduceEq,bz,RR]
  exact fin _ _ (no hn)
 have hn:twoD tab p.1 q.1=none:=by unfold twoD;simp [a1,a2]
 simp only [k0,a1,a2,bz,RR]
 exact fin _ _ (no hn)
theorem Qlb {b:Blk} {t:Nat} (hl:b.ops.length≤200) (h:R (.ret (bv (isT b.ops t))) σ):acall TP QaE [.rop (QL b) 0,iv (t:Int)] σ R:=by
 refine QhZ ?_
 unfold QdQ x113;dsimp only [den,dE,di,tupL,lTup,dwat,Qe,List.map,Option.map,den0,den1,den2,den3,den4]
 refine UW b.ops.length (fun i=>(AV.rop (QL b) 0,iv (t:Int),iv (i:Int),())) (fun i=>∀(j:Nat) (hj:j<b.ops.length),j<i→tgtN b.ops[j]≠(t:Int)) rfl (fun j hj h=>by omega) ?_
 intro i hi hH R' hR'
 simp only [RR,RT,QB]
 by_cases hlt:i<b.ops.length
 ·have g:(i:Int)<(b.ops.length:Int):=by omega
  simp only [g,Qu hlt Jg,RR,RT]
  refine Qnh ?_
  by_cases c:tgtN b.ops[i]=(t:Int)
  ·simp only [c,RR]
   have:isT b.ops t=true:=by
    unfold isT
    rw [List.any_eq_true]
    exact ⟨_,List.getElem_mem hlt,decide_eq_true c⟩
   rw [this] at h
   exact Qa h
  ·simp only [c,Qj hlt (by omega),RR]
   refine hR' hlt (fun j hj h1=>?_) _ (.refl _)
   rcases Nat.lt_or_ge j i with h2|h2
   ·exact hH j hj h2
   ·obtain rfl:j=i:=by omega
    exact c
 ·have g:¬(i:Int)<(b.ops.length:Int):=by omega
  simp only [g,RR]
  have:isT b.ops t=false:=by
   unfold isT
   rw [List.any_eq_false]
   intro o ho
   obtain ⟨j,hj,rfl⟩:=List.getElem_of_mem ho
   simpa using hH j hj (by omega)
  rw [this] at h
  exact Qa h
theorem Qpt {av:AV} {its:Its} {n:Int} {φ st i t:Nat} {F:Fam} {K:AEnd→AH→Prop} (hF:τ φ=some F) (hst:F.st=st) (hsz:F.sz=2) (hi:F.es[i]? =some [iv n,av]) (hH:OpsH τ av its) (hl:its.length≤200)
  (hK:K (.ret (bv (isT (its.map (·.1)) t))) τ):acall TP QaE [.ptr φ st i 0,iv (t:Int)] τ K:=by
 have hlt:i<F.es.length:=(List.getElem?_eq_some_iff.1 hi).1
 have hg:F.es.getD i []=[iv n,av]:=by simp [List.getD,hi]
 refine Qib (args':=[.rop (QL ⟨n,its.map (·.1)⟩) 0,iv (t:Int)]) (.val _) rfl (fun k hk=>?_) (fun R hR=>Qlb (by simpa using hl) hR) hK
 match k,hk with
 |0,_=>
  refine .ptr hF rfl hst hlt (by rw [hg,hsz];rfl) (by rw [hsz];rfl) fun j hj=>?_
  rw [hg]
  match j,hj with
  |0,_=>exact .same _
  |1,_=>exact Qqu hH fun _ _=>rfl
 |1,_=>exact .same _
def LedH (τ:AH) (a:AV) (xs:List Int):Prop:=(a= .emp∧xs=[])∨∃φ st fs,a= .own φ st 0 xs.length∧τ φ=some ⟨st,1,ivs (xs++fs)⟩
theorem LedH.live {a:AV} {xs:List Int} (h:LedH τ a xs) {ψ:Nat} (hψ:ψ∈famL a):τ ψ≠none:=by
 rcases h with ⟨rfl,_⟩|⟨φ,st,fs,rfl,hF⟩
 ·cases hψ
 ·obtain rfl:ψ=φ:=by simpa [famL] using hψ
  rw [hF];simp
theorem LedH.kp {a:AV} {xs:List Int} {F:List Nat} (h:LedH τ a xs) (k:Kp F τ τ') (hd:∀ψ,ψ∈famL a→ψ∉F):LedH τ' a xs:=by
 rcases h with h|⟨φ,st,fs,rfl,hF⟩
 ·exact .inl h
 ·exact .inr ⟨φ,st,fs,rfl,by rw [k φ (hd φ (by simp [famL])) (by rw [hF];simp)];exact hF⟩
theorem LedH.fz {a:AV} {xs:List Int} (h:LedH τ a xs):Fz ah0 τ a (.ro (ivs xs)):=by
 rcases h with ⟨rfl,rfl⟩|⟨φ,st,fs,rfl,hF⟩
 ·exact .emp
 ·refine .own hF rfl rfl (by simp) (by simp) (fun i hi=>by simp [hi]) fun i j hi hj=>?_
  have hj:j<1:=hj
  obtain rfl:j=0:=by omega
  rw [Nat.zero_add]
  have e1:(ivs (xs++fs)).getD i []=[iv xs[i]]:=by simp [List.getD,List.getElem?_append,hi]
  have e2:(ivs xs).getD i []=[iv xs[i]]:=by simp [List.getD,hi]
  simp only [e1,e2]
  exact .same _
theorem Qlc {xs:List Int} {t:Nat} (hl:xs.length≤1000000) (h:R (.ret (bv (decide ((t:Int)∈xs)))) σ):acall TP QaD [.ro (ivs xs),iv (t:Int)] σ R:=by
 refine QhV ?_
 unfold QdM x89;dsimp only [den,dE,di,tupL,lTup,dwat,Qe,List.map,Option.map,den0,den1,den2,den3,den4]
 refine QkV ?_
 unfold Qhg x126;dsimp only [den,dE,di,tupL,lTup,dwat,Qe,List.map,Option.map,den0,den1,den2,den3,den4]
 simp only [QB (fun x:Int=>[iv x]),RR]
 refine UW xs.length (fun i=>(AV.ro (ivs xs),iv (t:Int),iv (xs.length:Int),iv (i:Int),())) (fun i=>∀(j:Nat) (hj:j<xs.length),j<i→xs[j]≠(t:Int)) rfl (fun j hj h=>by omega) ?_
 intro i hi hH R' hR'
 by_cases hlt:i<xs.length
 ·have g:(i:Int)<(xs.length:Int):=by omega
  have ix:=Qu (σ:=σ) (enc:=fun x:Int=>[iv x]) (sz:=1) hlt fun _=>rfl
  have el:∀τ,lod (.rop [iv xs[i]] 0) τ=some (iv xs[i]):=fun _=>rfl
  simp only [g,ix,el,RR]
  by_cases c:(t:Int)=xs[i]
  ·have g2:(0:Int)≤(i:Int):=by omega
   have hm:(t:Int)∈xs:=by rw [c];exact List.getElem_mem hlt
   rw [decide_eq_true hm] at h
   simp only [c,RR]
   refine Qa ?_
   simp only [g2,RR]
   exact Qa h
  ·simp only [c,Qj hlt (by omega),RR]
   refine hR' hlt (fun j hj h1=>?_) _ (.refl _)
   rcases Nat.lt_or_ge j i with h2|h2
   ·exact hH j hj h2
   ·obtain rfl:j=i:=by omega
    exact fun e=>c e.symm
 ·have g:¬(i:Int)<(xs.length:Int):=by omega
  have hm:¬(t:Int)∈xs:=fun hm=>by
   obtain ⟨j,hj,e⟩:=List.getElem_of_mem hm
   exact hH j hj (by omega) e
  rw [decide_eq_false hm] at h
  have g2:¬(0:Int)≤ -1:=by omega
  simp only [g,RR]
  refine Qa ?_
  simp only [g2,RR]
  exact Qa h
theorem Qvk (os:List OpD) (t:Nat):decide ((t:Int)∈tgtL os)=isT os t:=by
 rw [Bool.eq_iff_iff,decide_eq_true_iff,QuY]
 unfold isT
 rw [List.any_eq_true]
 constructor
 ·rintro ⟨_,o,ho,e⟩;exact ⟨o,ho,decide_eq_true e⟩
 ·rintro ⟨o,ho,e⟩;exact ⟨by omega,o,ho,of_decide_eq_true e⟩
theorem Qpu {led:AV} {os:List OpD} {t:Nat} {K:AEnd→AH→Prop} (h:LedH τ led (tgtL os)) (hl:os.length≤200) (hK:K (.ret (bv (isT os t))) τ):acall TP QaD [led,iv (t:Int)] τ K:=by
 have hlen:=QuZ os
 refine Qib (args':=[.ro (ivs (tgtL os)),iv (t:Int)]) (v:=bv (isT os t)) (.val _) rfl (fun k hk=>?_) (fun R hR=>Qlc (by omega) (by rw [Qvk];exact hR)) hK
 match k,hk with
 |0,_=>exact h.fz
 |1,_=>exact .same _
theorem Qvl {φ st:Nat} {xs:List Int}:NomH (ah0.set φ ⟨st,1,ivs xs⟩):=by
 intro ψ F hF i j hi hj
 by_cases e:ψ=φ
 ·subst e
  rw [AH.set_same] at hF
  cases hF
  have hj:j<1:=hj
  obtain rfl:j=0:=by omega
  have hi':i<xs.length:=by simpa using hi
  have e:((ivs xs).getD i []).getD 0 .any=iv (xs[i]):=by simp only [List.getD,List.getElem?_map,List.getElem?_eq_getElem hi'];rfl
  simp only
  rw [e]
  exact .val _
 ·rw [AH.set_ne' e] at hF;cases hF
theorem Qke {av:AV} {its:Its} {n:Int} {K:AEnd→AH→Prop} (hH:OpsH τ av its) (hs:smB (its.map (·.1))) (hl:its.length≤200)
  (hK:∀led τ',LedH τ' led (tgtL (its.map (·.1)))→AH.Sub τ τ'→(∀ψ,ψ∈famL led→τ ψ=none)→K (.ret led) τ'):acall TP Qch [.agg [iv n,av]] τ K:=by
 refine (Qni (σ0:=ah0) (args:=[.agg [iv n,av]]) (args':=[.agg (QL ⟨n,its.map (·.1)⟩)]) (Q:=fun e σ1=>∃led,LedH σ1 led (tgtL (its.map (·.1)))∧e= .ret led) (Qqv τ) rfl (fun k hk=>?_)
  (Qj5 (b:=⟨n,its.map (·.1)⟩) hs (by simpa using hl) (fun h0=>⟨.emp,Qo4,.emp,.inl ⟨rfl,h0⟩,rfl⟩) (fun φ st fs _=>⟨.own ..,Qvl,_,.inr ⟨φ,st,fs,rfl,AH.set_same ..⟩,rfl⟩))).mono ?_
 ·obtain rfl:k=0:=by simp at hk;omega
  exact Fz.agg2 (.same _) (Qqu hH fun _ _=>rfl)
 ·rintro e σ' ⟨σ1,⟨led,hL,rfl⟩,rfl,hd⟩
  have hn:∀ψ,ψ∈famL led→τ ψ=none:=fun ψ hψ=>by
   cases e2:τ ψ with
   |none=>rfl
   |some G=>exact absurd (hd ψ G e2 rfl) (hL.live hψ)
  refine hK led _ ?_ (fun ψ F hF=>Qo1 hF rfl) hn
  rcases hL with h|⟨φ,st,fs,rfl,hF⟩
  ·exact .inl h
  ·exact .inr ⟨φ,st,fs,rfl,by rw [Qct (.inl (hn φ (by simp [famL])))];exact hF⟩
end Go.Proofs.YtggnjjalfnhiiaaGreatDoor.E

import Derived.Below
import Derived.Laws.Sem
import Derived.Laws.World
import Derived.Laws.Cells
import Derived.RangeFuncOwn
import Derived.Calls
import Derived.CallsIn
import Derived.TacticsIn
import Derived.OrdersIn
import Derived.LoopIn
import Derived.RangeFuncIn
import Derived.RangeFuncRecord
import Derived.RangeFuncLeaves
import Derived.RangeFuncSeq
import Derived.RangeFuncNested
import GoSem.Dispatch
/- The engine, part 1: abstract values, abstract heaps, and what it is for a world to be one of them. -/
set_option linter.unusedSectionVars false
namespace Go.Proofs.YtggnjjalfnhiiaaGreatDoor.E
open Go Go.RowKit
section
inductive AV where
 |val (v:Value)
 |agg (cs:List AV)
 |tup (cs:List AV)
 |ro (es:List (List AV))
 |rop (cs:List AV) (off:Nat)
 |own (φ st off n:Nat)
 |ptr (φ st i off:Nat)
 |clo (fn:Fn) (first cap:List AV)
 |ifc (t:TypeId) (v:AV)
 |emp
 |any
 |yld (l:Nat)
 |vw (φ st off n:Nat)
 deriving Inhabited
structure Reg where
 b:Nat
 base:Nat
 lo:Nat
 cap:Nat
 sz:Nat
structure Kap where
 ρ:Nat→Nat→Option Reg
 M:Nat→Nat→Option Value
 B:Nat
 W:World
inductive VR (κ:Kap):AV→Value→Prop
 |val (v:Value):VR κ (.val v) v
 |agg {cs:List AV} {vs:List Value} (hl:cs.length=vs.length) (h:∀i,i<cs.length→VR κ (cs.getD i .any) (vs.getD i undef)):
   VR κ (.agg cs) (.agg vs.toArray)
 |tup {cs:List AV} {vs:List Value} (hl:cs.length=vs.length) (h:∀i,i<cs.length→VR κ (cs.getD i .any) (vs.getD i undef)):
   VR κ (.tup cs) (.tuple vs.toArray)
 |roEnd (a:Option Addr):VR κ (.ro []) (.slice a 0 0)
 |ro {es:List (List AV)} {b off cap sz:Nat} {vals:Nat→Nat→Value} (hc:es.length≤cap)
   (hz:∀i,i<es.length→(es.getD i []).length=sz)
   (hm:∀i j,i<es.length→j<sz→κ.M b (off+i*sz+j)=some (vals i j))
   (hv:∀i j,i<es.length→j<sz→VR κ ((es.getD i []).getD j .any) (vals i j)):
   VR κ (.ro es) (.slice (some ⟨b,off,none⟩) es.length cap)
 |rop {cs:List AV} {off b base:Nat} {vals:Nat→Value}
   (hm:∀j,j<cs.length→κ.M b (base+j)=some (vals j))
   (hv:∀j,j<cs.length→VR κ (cs.getD j .any) (vals j)):
   VR κ (.rop cs off) (.pointer (some ⟨b,base+off,none⟩))
 |own {φ st off n:Nat} {r:Reg} (h:κ.ρ φ st=some r) (hlo:r.lo≤off) (hn:off+n≤r.lo+r.cap):
   VR κ (.own φ st off n) (.slice (some ⟨r.b,r.base+(off - r.lo)*r.sz,none⟩) n (r.lo+r.cap - off))
 |ownEnd {φ st off:Nat} {r:Reg} {a:Addr} (h:κ.ρ φ st=some r) (hoff:off=r.lo+r.cap):
   VR κ (.own φ st off 0) (.slice (some a) 0 0)
 |vw {φ st off n cap:Nat} {r:Reg} (h:κ.ρ φ st=some r) (hlo:r.lo≤off) (hn:off+n≤r.lo+r.cap):
   VR κ (.vw φ st off n) (.slice (some ⟨r.b,r.base+(off - r.lo)*r.sz,none⟩) n cap)
 |ptr {φ st i off:Nat} {r:Reg} (h:κ.ρ φ st=some r) (hlo:r.lo≤i):
   VR κ (.ptr φ st i off) (.pointer (some ⟨r.b,r.base+(i - r.lo)*r.sz+off,none⟩))
 |clo {fn:Fn} {first cap:List AV} {fs cs:List Value} (hl:first.length=fs.length) (hl2:cap.length=cs.length)
   (h:∀i,i<first.length→VR κ (first.getD i .any) (fs.getD i undef))
   (h2:∀i,i<cap.length→VR κ (cap.getD i .any) (cs.getD i undef)):
   VR κ (.clo fn first cap) (.func fn fs.toArray cs.toArray)
 |ifc {t:TypeId} {a:AV} {v:Value} (h:VR κ a v):VR κ (.ifc t a) (.iface t v)
 |emp (a:Option Addr):VR κ .emp (.slice a 0 0)
 |any (v:Value):VR κ .any v
 |yld (l:Nat):VR κ (.yld l) (.func (.yield l) #[] #[])
structure Fam where
 st:Nat
 sz:Nat
 es:List (List AV)
abbrev AH:=Nat→Option Fam
def AH.set (σ:AH) (φ:Nat) (F:Fam):AH:=fun i=>if i=φ then some F else σ i
def AH.del (σ:AH) (φ:Nat):AH:=fun i=>if i=φ then none else σ i
theorem AH.set_same (σ:AH) (φ:Nat) (F:Fam):(σ.set φ F) φ=some F:=by simp[AH.set]
theorem AH.set_ne (σ:AH) {φ ψ:Nat} (F:Fam) (h:ψ≠φ):(σ.set φ F) ψ=σ ψ:=by simp[AH.set,h]
theorem AH.del_same (σ:AH) (φ:Nat):(σ.del φ) φ=none:=by simp[AH.del]
theorem AH.del_ne (σ:AH) {φ ψ:Nat} (h:ψ≠φ):(σ.del φ) ψ=σ ψ:=by simp[AH.del,h]
theorem AH.set_none {σ:AH} {φ ψ:Nat} {F:Fam}:(σ.set φ F) ψ=none↔ψ≠φ∧σ ψ=none:=by
 unfold AH.set;by_cases h:ψ=φ<;>simp[h]
theorem AH.set_set (σ:AH) (φ:Nat) (F G:Fam):(σ.set φ F).set φ G=σ.set φ G:=by
 funext i;simp only[AH.set];split<;>rfl
theorem AH.set_self {σ:AH} {φ:Nat} {F:Fam} (h:σ φ=some F):σ.set φ F=σ:=by
 funext i;simp only[AH.set];split
 ·rename_i e;rw[e,h]
 ·rfl
theorem AH.set_comm (σ:AH) {φ ψ:Nat} (F G:Fam) (h:φ≠ψ):(σ.set φ F).set ψ G=(σ.set ψ G).set φ F:=by
 funext i;simp only[AH.set];by_cases h1:i=φ<;>by_cases h2:i=ψ<;>simp_all
def AH.Sub (σ' σ:AH):Prop:=∀φ F,σ' φ=some F→σ φ=some F
theorem AH.Sub.refl (σ:AH):AH.Sub σ σ:=fun _ _ h=>h
theorem AH.Sub.trans {a b c:AH} (h:AH.Sub a b) (k:AH.Sub b c):AH.Sub a c:=fun φ F h'=>k φ F (h φ F h')
theorem AH.Sub.set {a b:AH} (h:AH.Sub a b) {φ:Nat} (F:Fam) (hn:a φ=none):AH.Sub a (b.set φ F):=by
 intro ψ G hG;have:ψ≠φ:=by rintro rfl;rw[hn] at hG;cases hG
 rw[AH.set_ne _ _ this];exact h ψ G hG
theorem AH.Sub.set_both {a b:AH} (h:AH.Sub a b) (φ:Nat) (F:Fam):AH.Sub (a.set φ F) (b.set φ F):=by
 intro ψ G hG;by_cases e:ψ=φ
 ·subst e;rw[AH.set_same] at hG ⊢;exact hG
 ·rw[AH.set_ne _ _ e] at hG ⊢;exact h ψ G hG
theorem AH.Sub.del (σ:AH) (φ:Nat):AH.Sub (σ.del φ) σ:=by
 intro ψ G hG;by_cases e:ψ=φ
 ·subst e;rw[AH.del_same] at hG;cases hG
 ·rwa [AH.del_ne _ e] at hG
theorem AH.Sub.none {a b:AH} (h:AH.Sub a b) {φ:Nat} (hn:b φ=none):a φ=none:=by
 cases e:a φ with
 |none=>rfl
 |some F=>have:=h φ F e;rw[hn] at this;cases this
structure Holds (κ:Kap) (F:Fam) (r:Reg) (w:World):Prop where
 sz:r.sz=F.sz
 len:F.es.length≤r.lo+r.cap
 row:∃c e fz,w.heap[r.b]? =some (.cells c e fz)∧r.base+r.cap*r.sz≤c.size
 free:∀o,o<r.base+r.cap*r.sz→w.frozen? ⟨r.b,o,none⟩=false
 esz:∀i,r.lo≤i→i<F.es.length→(F.es.getD i []).length=F.sz
 cell:∀i j,r.lo≤i→i<F.es.length→j<F.sz→
  ∃v,w.cell? ⟨r.b,r.base+(i - r.lo)*r.sz+j,none⟩=some v∧VR κ ((F.es.getD i []).getD j .any) v
structure Ext (κ κ':Kap):Prop where
 ρ:∀φ st r,κ.ρ φ st=some r→κ'.ρ φ st=some r
 M:∀b o v,κ.M b o=some v→κ'.M b o=some v
 B:κ'.B=κ.B
 W:κ'.W=κ.W
theorem Ext.refl (κ:Kap):Ext κ κ:=⟨fun _ _ _ h=>h,fun _ _ _ h=>h,rfl,rfl⟩
theorem Ext.trans {a b c:Kap} (h:Ext a b) (k:Ext b c):Ext a c:=
 ⟨fun φ st r x=>k.ρ φ st r (h.ρ φ st r x),fun p o v x=>k.M p o v (h.M p o v x),k.B.trans h.B,k.W.trans h.W⟩
class Lam where
 lo:Nat→Option Obj
 kp:Kap→Prop
 kpm:∀κ κ',Ext κ κ'→kp κ→kp κ'
variable [Lam]
structure Rel (κ:Kap) (σ:AH) (w:World):Prop where
 has:∀φ F,σ φ=some F→∃r,κ.ρ φ F.st=some r∧κ.B≤r.b∧Holds κ F r w
 inj:∀φ ψ F G r s,σ φ=some F→σ ψ=some G→κ.ρ φ F.st=some r→κ.ρ ψ G.st=some s→φ≠ψ→r.b≠s.b
 mem:∀b o v,κ.M b o=some v→w.cell? ⟨b,o,none⟩=some v
 off:∀φ F r,σ φ=some F→κ.ρ φ F.st=some r→∀o,κ.M r.b o=none
 up:∀φ F st,σ φ=some F→F.st<st→κ.ρ φ st=none
 fin:∃N,∀φ,N≤φ→σ φ=none∧∀st,κ.ρ φ st=none
 bel:Below κ.B κ.W w
 bw:κ.B≤κ.W.heap.size
 obj:∀l o,Lam.lo l=some o→w.heap[l]? =some o∧o.isCells=false
 kp:Lam.kp κ
theorem VR.mono {κ κ':Kap} (E:Ext κ κ') {a:AV} {v:Value} (h:VR κ a v):VR κ' a v:=by
 induction h with
 |val v=>exact .val v
 |agg hl h ih=>exact .agg hl ih
 |tup hl h ih=>exact .tup hl ih
 |roEnd a=>exact .roEnd a
 |ro hc hz hm hv ih=>exact .ro hc hz (fun i j hi hj=>E.M _ _ _ (hm i j hi hj)) ih
 |rop hm hv ih=>exact .rop (fun j hj=>E.M _ _ _ (hm j hj)) ih
 |own h hlo hn=>exact .own (E.ρ _ _ _ h) hlo hn
 |ownEnd h ho=>exact .ownEnd (E.ρ _ _ _ h) ho
 |vw h hlo hn=>exact .vw (E.ρ _ _ _ h) hlo hn
 |ptr h hlo=>exact .ptr (E.ρ _ _ _ h) hlo
 |clo hl hl2 h h2 ih ih2=>exact .clo hl hl2 ih ih2
 |ifc h ih=>exact .ifc ih
 |emp a=>exact .emp a
 |any v=>exact .any v
 |yld l=>exact .yld l
structure Fra (κ:Kap) (σ:AH) (w:World) (κ':Kap) (σ':AH) (w':World):Prop where
 size:w.heap.size≤w'.heap.size
 blk:∀b,b<w.heap.size→(∀φ F r,σ φ=some F→κ.ρ φ F.st=some r→r.b≠b)→
  w'.heap[b]? =w.heap[b]? ∧(∀o,κ'.M b o=κ.M b o)∧(∀φ F r,σ' φ=some F→κ'.ρ φ F.st=some r→r.b≠b)
 ids:∀φ,σ φ=none→(∃st r,κ.ρ φ st=some r)→σ' φ=none∧∀st,κ'.ρ φ st=κ.ρ φ st
structure Stp (κ:Kap) (σ:AH) (w:World) (κ':Kap) (σ':AH) (w':World):Prop where
 ext:Ext κ κ'
 rel:Rel κ' σ' w'
 fra:Fra κ σ w κ' σ' w'
theorem Stp.refl {κ:Kap} {σ:AH} {w:World} (h:Rel κ σ w):Stp κ σ w κ σ w:=
 ⟨.refl κ,h,⟨Nat.le_refl _,fun _ _ hb=>⟨rfl,fun _=>rfl,hb⟩,fun _ h _=>⟨h,fun _=>rfl⟩⟩⟩
theorem Stp.trans {κ κ' κ'':Kap} {σ σ' σ'':AH} {w w' w'':World} (h:Stp κ σ w κ' σ' w') (k:Stp κ' σ' w' κ'' σ'' w''):Stp κ σ w κ'' σ'' w'':=by
 refine ⟨h.ext.trans k.ext,k.rel,⟨Nat.le_trans h.fra.size k.fra.size,?_,?_⟩⟩
 ·intro b hb hu;obtain ⟨a1,a2,a3⟩:=h.fra.blk b hb hu;obtain ⟨b1,b2,b3⟩:=k.fra.blk b (Nat.lt_of_lt_of_le hb h.fra.size) a3;exact ⟨b1.trans a1,fun o=>(b2 o).trans (a2 o),b3⟩
 ·intro φ hn he;obtain ⟨a1,a2⟩:=h.fra.ids φ hn he;obtain ⟨st,r,hr⟩:=he;obtain ⟨b1,b2⟩:=k.fra.ids φ a1 ⟨st,r,by rw[a2];exact hr⟩;exact ⟨b1,fun st=>(b2 st).trans (a2 st)⟩
theorem Rel.sub {κ:Kap} {σ σ':AH} {w:World} (h:Rel κ σ w) (s:AH.Sub σ' σ):Rel κ σ' w where
 has:=fun φ F hF=>h.has φ F (s φ F hF)
 inj:=fun φ ψ F G r t hF hG=>h.inj φ ψ F G r t (s φ F hF) (s ψ G hG)
 mem:=h.mem
 off:=fun φ F r hF=>h.off φ F r (s φ F hF)
 up:=fun φ F st hF=>h.up φ F st (s φ F hF)
 fin:=by
  obtain ⟨N,hN⟩:=h.fin;refine ⟨N,fun φ hφ=>⟨?_,(hN φ hφ).2⟩⟩;cases e:σ' φ with
  |none=>rfl
  |some F=>have:=s φ F e;rw[(hN φ hφ).1] at this;cases this
 bel:=h.bel
 bw:=h.bw
 obj:=h.obj
 kp:=h.kp
theorem Stp.sub {κ:Kap} {σ σ':AH} {w:World} (h:Rel κ σ w) (s:AH.Sub σ' σ):Stp κ σ w κ σ' w:=
 ⟨.refl κ,h.sub s,⟨Nat.le_refl _,fun _ _ hb=>⟨rfl,fun _=>rfl,fun φ F r hF=>hb φ F r (s φ F hF)⟩,fun _ hn _=>
  ⟨s.none hn,fun _=>rfl⟩⟩⟩
theorem cell?_heap {w w':World} {b:Nat} (h:w'.heap[b]? =w.heap[b]?) (o:Nat):w'.cell? ⟨b,o,none⟩=w.cell? ⟨b,o,none⟩:=by
 unfold World.cell?;simp only[h]
theorem frozen?_heap {w w':World} {b:Nat} (h:w'.heap[b]? =w.heap[b]?) (o:Nat):w'.frozen? ⟨b,o,none⟩=w.frozen? ⟨b,o,none⟩:=by
 unfold World.frozen?;simp only[h]
theorem Holds.same {κ κ':Kap} {F:Fam} {r:Reg} {w w':World} (E:Ext κ κ') (h:Holds κ F r w) (e:w'.heap[r.b]? =w.heap[r.b]?):Holds κ' F r w' where
 sz:=h.sz
 len:=h.len
 row:=by rw[e];exact h.row
 free:=fun o ho=>by rw[frozen?_heap e];exact h.free o ho
 esz:=h.esz
 cell:=fun i j hi hj hk=>by
  obtain ⟨v,h1,h2⟩:=h.cell i j hi hj hk;exact ⟨v,by rw[cell?_heap e];exact h1,h2.mono E⟩
theorem Stp.world {κ:Kap} {σ:AH} {w w':World} (h:Rel κ σ w) (hh:w'.heap=w.heap) (ho:w'.os=w.os) (ht:w'.tape=w.tape) (hu:w'.output=w.output):Stp κ σ w κ σ w':=by
 refine ⟨.refl κ,⟨?_,h.inj,?_,h.off,h.up,h.fin,?_,h.bw,fun l o hl=>by rw[hh];exact h.obj l o hl,h.kp⟩,⟨by rw[hh];exact Nat.le_refl _,?_,fun _ hn _=>⟨hn,fun _=>rfl⟩⟩⟩
 ·intro φ F hF;obtain ⟨r,h1,h2,h3⟩:=h.has φ F hF;exact ⟨r,h1,h2,h3.same (.refl κ) (by rw[hh])⟩
 ·intro b o v hm;rw[cell?_heap (w:=w) (w':=w') (by rw[hh])];exact h.mem b o v hm
 ·exact h.bel.trans ⟨ho,ht,hu,by rw[hh];exact Nat.le_refl _,fun k _=>by rw[hh]⟩
 ·intro b _ hb;exact ⟨by rw[hh],fun _=>rfl,hb⟩
theorem Stp.drew {κ:Kap} {σ:AH} {w:World} (h:Rel κ σ w):Stp κ σ w κ σ w.drew:= .world h rfl rfl rfl rfl
theorem Rel.block_lt {κ:Kap} {σ:AH} {w:World} (h:Rel κ σ w) {φ:Nat} {F:Fam} {r:Reg} (hF:σ φ=some F) (hr:κ.ρ φ F.st=some r):r.b<w.heap.size:=by
 obtain ⟨r',h1,_,h3⟩:=h.has φ F hF;rw[hr] at h1;obtain rfl:=Option.some.inj h1;obtain ⟨c,e,fz,hh,_⟩:=h3.row;rcases Nat.lt_or_ge r.b w.heap.size with h'|h'
 ·exact h'
 ·rw[Array.getElem?_eq_none h'] at hh;cases hh
theorem Rel.mem_lt {κ:Kap} {σ:AH} {w:World} (h:Rel κ σ w) {b o:Nat} {v:Value} (hm:κ.M b o=some v):b<w.heap.size:=
 World.block_lt_of_cell? (h:=h.mem b o v hm)
theorem Rel.bsize {κ:Kap} {σ:AH} {w:World} (h:Rel κ σ w):κ.B≤w.heap.size:=Nat.le_trans h.bw h.bel.size
def Kap.put (κ:Kap) (φ st:Nat) (r:Reg):Kap:={κ with ρ:=fun ψ t=>if ψ=φ∧t=st then some r else κ.ρ ψ t}
theorem Kap.put_same (κ:Kap) (φ st:Nat) (r:Reg):(κ.put φ st r).ρ φ st=some r:=by simp[Kap.put]
theorem Kap.put_ne (κ:Kap) {φ st:Nat} (r:Reg) {ψ t:Nat} (h:¬(ψ=φ∧t=st)):(κ.put φ st r).ρ ψ t=κ.ρ ψ t:=by simp[Kap.put,h]
theorem Kap.put_ext {κ:Kap} {φ st:Nat} (r:Reg) (h:κ.ρ φ st=none):Ext κ (κ.put φ st r):=by
 refine ⟨fun ψ t s hs=>?_,fun _ _ _ h=>h,rfl,rfl⟩;rw[Kap.put_ne];· exact hs
 rintro ⟨rfl,rfl⟩;rw[h] at hs;cases hs
theorem Stp.turn {κ:Kap} {σ:AH} {w w':World} (h:Rel κ σ w) {φ:Nat} {F':Fam} {r:Reg}
  (hnew:κ.ρ φ F'.st=none∨κ.ρ φ F'.st=some r)
  (hst:∀st,F'.st<st→κ.ρ φ st=none)
  (hown:(∃F s,σ φ=some F∧κ.ρ φ F.st=some s∧s.b=r.b)∨(w.heap.size≤r.b∧(σ φ=none→∀st,κ.ρ φ st=none)))
  (hsize:w.heap.size≤w'.heap.size)
  (hblk:∀b,b<w.heap.size→b≠r.b→w'.heap[b]? =w.heap[b]?)
  (hos:w'.os=w.os) (htape:w'.tape=w.tape) (hout:w'.output=w.output)
  (hh:Holds (κ.put φ F'.st r) F' r w'):Stp κ σ w (κ.put φ F'.st r) (σ.set φ F') w':=by
 have hE:Ext κ (κ.put φ F'.st r):=by
  rcases hnew with e|e
  ·exact Kap.put_ext r e
  ·refine ⟨fun ψ t s hs=>?_,fun _ _ _ h=>h,rfl,rfl⟩;by_cases c:ψ=φ∧t=F'.st
   ·obtain ⟨rfl,rfl⟩:=c;rw[Kap.put_same,←hs,e]
   ·rw[Kap.put_ne _ _ c];exact hs
 -- the row is none that another family has, and none of the memory that stays
 have hother:∀ψ G s,ψ≠φ→σ ψ=some G→κ.ρ ψ G.st=some s→s.b≠r.b:=by
  intro ψ G s hne hG hs;rcases hown with ⟨F,t,hF,ht,hb⟩|⟨hb,_⟩
  ·rw[←hb];exact h.inj ψ φ G F s t hG hF hs ht hne
  ·have:=h.block_lt hG hs;omega
 have hmem:∀o,κ.M r.b o=none:=by
  intro o;rcases hown with ⟨F,t,hF,ht,hb⟩|⟨hb,_⟩
  ·rw[←hb];exact h.off φ F t hF ht o
  ·cases e:κ.M r.b o with
   |none=>rfl
   |some v=>have:=h.mem_lt e;omega
 have hB:κ.B≤r.b:=by
  rcases hown with ⟨F,t,hF,ht,hb⟩|⟨hb,_⟩
  ·obtain ⟨t',h1,h2,_⟩:=h.has φ F hF;rw[ht] at h1;obtain rfl:=Option.some.inj h1;omega
  ·have:=h.bsize;omega
 have hput:∀ψ G s,(σ.set φ F') ψ=some G→(κ.put φ F'.st r).ρ ψ G.st=some s→(ψ=φ∧G=F'∧s=r)∨(ψ≠φ∧σ ψ=some G∧κ.ρ ψ G.st=some s):=by
  intro ψ G s hG hs;by_cases e:ψ=φ
  ·subst e;rw[AH.set_same] at hG;obtain rfl:=Option.some.inj hG;rw[Kap.put_same] at hs;exact .inl ⟨rfl,rfl,(Option.some.inj hs).symm⟩
  ·rw[AH.set_ne _ _ e] at hG;rw[Kap.put_ne _ _ (fun c=>e c.1)] at hs;exact .inr ⟨e,hG,hs⟩
 have hobj:∀l o,Lam.lo l=some o→w'.heap[l]? =some o∧o.isCells=false:=by
  intro l o hl;obtain ⟨h1,h2⟩:=h.obj l o hl;have hlt:=(Array.getElem?_eq_some_iff.1 h1).1;refine ⟨?_,h2⟩;rw[hblk l hlt ?_];· exact h1
  rintro rfl;rcases hown with ⟨F,t,hF,ht,hb⟩|⟨hb,_⟩
  ·obtain ⟨t',g1,_,g3⟩:=h.has φ F hF;rw[ht] at g1;obtain rfl:=Option.some.inj g1;obtain ⟨c,e,fz,hh,_⟩:=g3.row;rw[hb,h1] at hh;obtain rfl:=Option.some.inj hh;cases h2
  ·omega
 refine ⟨hE,⟨?_,?_,?_,?_,?_,?_,?_,h.bw,hobj,Lam.kpm _ _ hE h.kp⟩,⟨hsize,?_,?_⟩⟩
 ·intro ψ G hG;by_cases e:ψ=φ
  ·subst e;rw[AH.set_same] at hG;obtain rfl:=Option.some.inj hG;exact ⟨r,Kap.put_same ..,hB,hh⟩
  ·rw[AH.set_ne _ _ e] at hG;obtain ⟨s,h1,h2,h3⟩:=h.has ψ G hG;refine ⟨s,by rw[Kap.put_ne _ _ (fun c=>e c.1)];exact h1,h2,h3.same hE (hblk _ (h.block_lt hG h1) (hother ψ G s e hG h1))⟩
 ·intro φ1 φ2 F1 F2 s1 s2 hF1 hF2 hs1 hs2 hne;rcases hput _ _ _ hF1 hs1 with ⟨rfl,rfl,rfl⟩|⟨n1,a1,b1⟩<;>rcases hput _ _ _ hF2 hs2 with ⟨rfl,rfl,rfl⟩|⟨n2,a2,b2⟩
  ·exact absurd rfl hne
  ·exact (hother _ _ _ n2 a2 b2).symm
  ·exact hother _ _ _ n1 a1 b1
  ·exact h.inj _ _ _ _ _ _ a1 a2 b1 b2 hne
 ·intro b o v hm;have hb:b≠r.b:=by rintro rfl;have:=hmem o;rw[show κ.M r.b o=some v from hm] at this;cases this
  rw[cell?_heap (hblk b (h.mem_lt (show κ.M b o=some v from hm)) hb)];exact h.mem b o v hm
 ·intro ψ G s hG hs o;rcases hput _ _ _ hG hs with ⟨rfl,rfl,rfl⟩|⟨_,a2,b2⟩
  ·exact hmem o
  ·exact h.off _ _ _ a2 b2 o
 ·intro ψ G st hG hlt;by_cases e:ψ=φ
  ·subst e;rw[AH.set_same] at hG;obtain rfl:=Option.some.inj hG;rw[Kap.put_ne _ _ (fun c=>by omega)];exact hst st hlt
  ·rw[AH.set_ne _ _ e] at hG;rw[Kap.put_ne _ _ (fun c=>e c.1)];exact h.up ψ G st hG hlt
 ·obtain ⟨N,hN⟩:=h.fin;refine ⟨max N (φ+1),fun ψ hψ=>?_⟩;have h1:ψ≠φ:=by omega
  rw[AH.set_ne _ _ h1];exact ⟨(hN ψ (by omega)).1,fun st=>by rw[Kap.put_ne _ _ (fun c=>h1 c.1)];exact (hN ψ (by omega)).2 st⟩
 ·refine h.bel.trans ⟨hos,htape,hout,hsize,fun k hk=>?_⟩;have:k<κ.B:=hk;exact hblk k (Nat.lt_of_lt_of_le hk h.bsize) (by omega)
 ·intro b hb hu;have hbr:b≠r.b:=by
   rcases hown with ⟨F,t,hF,ht,e⟩|⟨e,_⟩
   ·rw[←e];exact (hu φ F t hF ht).symm
   ·omega
  refine ⟨hblk b hb hbr,fun _=>rfl,?_⟩;intro ψ G s hG hs;rcases hput _ _ _ hG hs with ⟨rfl,rfl,rfl⟩|⟨_,a2,b2⟩
  ·exact hbr.symm
  ·exact hu _ _ _ a2 b2
 ·intro ψ hn he;have h1:ψ≠φ:=by
   rintro rfl;rcases hown with ⟨F,_,hF,_⟩|⟨_,e⟩
   ·rw[hn] at hF;cases hF
   ·obtain ⟨st,s,hs⟩:=he;rw[e hn st] at hs;cases hs
  rw[AH.set_ne _ _ h1];exact ⟨hn,fun st=>Kap.put_ne _ _ (fun c=>h1 c.1)⟩
end
section
variable [Lam]
inductive AEnd where
 |ret (v:AV)
 |pan (v:AV)
def EdR (κ:Kap):AEnd→Ending→Prop
 | .ret a,.returned v=>VR κ a v
 | .pan a,.panicked ch=>∃v,ch=[{v:=v,recovered:=false}]∧VR κ a v
 |_,_=>False
def VRs (κ:Kap) (as:List AV) (vs:List Value):Prop:=as.length=vs.length∧∀i,i<as.length→VR κ (as.getD i .any) (vs.getD i undef)
theorem VRs.nil (κ:Kap):VRs κ [] []:=⟨rfl,fun i h=>absurd h (Nat.not_lt_zero i)⟩
theorem VRs.cons {κ:Kap} {a:AV} {v:Value} {as:List AV} {vs:List Value} (h:VR κ a v) (k:VRs κ as vs):VRs κ (a::as) (v::vs):=by
 refine ⟨by simp[k.1],fun i hi=>?_⟩;cases i with
 |zero=>exact h
 |succ i=>exact k.2 i (by simpa using hi)
theorem VRs.append {κ:Kap} {as bs:List AV} {vs us:List Value} (h:VRs κ as vs) (k:VRs κ bs us):VRs κ (as++bs) (vs++us):=by
 refine ⟨by simp[h.1,k.1],fun i hi=>?_⟩;by_cases c:i<as.length
 ·have c':i<vs.length:=h.1▸c;have:=h.2 i c;simpa[List.getD,List.getElem?_append,c,c'] using this
 ·have c':¬i<vs.length:=h.1▸c;have:=k.2 (i - as.length) (by simp at hi;omega);simpa[List.getD,List.getElem?_append,c,c',h.1] using this
theorem VRs.uncons {κ:Kap} {a:AV} {as:List AV} {vs:List Value} (h:VRs κ (a::as) vs):∃v us,vs=v::us∧VR κ a v∧VRs κ as us:=by
 cases vs with
 |nil=>exact absurd h.1 (by simp)
 |cons v us=>exact ⟨v,us,rfl,h.2 0 (by simp),by have:=h.1;simpa using this,fun i hi=>h.2 (i+1) (by simpa using hi)⟩
theorem VRs.unnil {κ:Kap} {vs:List Value} (h:VRs κ [] vs):vs=[]:=by
 cases vs with
 |nil=>rfl
 |cons v us=>exact absurd h.1 (by simp)
def acall (P:Program) (f:FuncId) (args:List AV) (σ:AH) (Q:AEnd→AH→Prop):Prop:=
 ∃ fn, P.funcs[f]? = some fn ∧ fn.body.isNone = false ∧ (fn.name == "runtime.NumGoroutine") = false ∧
  ∀κ w vs,Rel κ σ w→VRs κ args vs→
   Calls P f vs.toArray w fun e w'=>∃κ' ae σ',Q ae σ'∧Stp κ σ w κ' σ' w'∧EdR κ' ae e
theorem acall.mono {P:Program} {f:FuncId} {args:List AV} {σ:AH} {Q Q':AEnd→AH→Prop} (h:acall P f args σ Q) (k:∀e σ',Q e σ'→Q' e σ'):acall P f args σ Q':=by
 obtain ⟨fn,h1,h2,h3,h4⟩:=h;exact ⟨fn,h1,h2,h3,fun κ w vs hr hv=>(h4 κ w vs hr hv).mono fun e w' ⟨κ',ae,σ',a,b,c⟩=>⟨κ',ae,σ',k _ _ a,b,c⟩⟩
structure EnvR (κ:Kap) (t:List AV) (a:Array Value):Prop where
 size:t.length=a.size
 get:∀i,i<t.length→VR κ (t.getD i .any) (a.getD i undef)
theorem EnvR.mono {κ κ':Kap} (E:Ext κ κ') {t:List AV} {a:Array Value} (h:EnvR κ t a):EnvR κ' t a:=⟨h.size,fun i hi=>(h.get i hi).mono E⟩
theorem EnvR.at {κ:Kap} {t:List AV} {a:Array Value} (h:EnvR κ t a) (i:Nat):VR κ (t.getD i .any) (a.getD i undef):=by
 by_cases c:i<t.length
 ·exact h.get i c
 ·rw[show t.getD i .any= .any by simp[List.getD,List.getElem?_eq_none (Nat.le_of_not_lt c)]];exact .any _
theorem EnvR.set {κ:Kap} {t:List AV} {a:Array Value} (h:EnvR κ t a) (d:Nat) {x:AV} {v:Value} (hv:VR κ x v):EnvR κ (t.set d x) (a.setIfInBounds d v):=by
 refine ⟨by simp[h.size],fun i hi=>?_⟩;have hi':i<t.length:=by simpa using hi
 by_cases c:d=i
 ·subst c;have hs:d<a.size:=h.size▸hi';simp only[List.getD,List.getElem?_set_self hi',Option.getD_some];simp only[Array.getD_eq_getD_getElem?,Array.getElem?_setIfInBounds_self_of_lt hs,Option.getD_some];exact hv
 ·have:=h.get i hi';simp only[List.getD,List.getElem?_set_ne c];simp only[Array.getD_eq_getD_getElem?,Array.getElem?_setIfInBounds_ne c];simpa[List.getD,Array.getD_eq_getD_getElem?] using this
def aput (t:List AV) (d:Option Tmp) (x:AV):List AV:=match d with|some d=>t.set d x|none=>t
theorem EnvR.put {κ:Kap} {t:List AV} {a:Act} (h:EnvR κ t a.tmps) (d:Option Tmp) {x:AV} {v:Value} (hv:VR κ x v):EnvR κ (aput t d x) (a.put d v).tmps:=by
 cases d with
 |none=>exact h
 |some d=>exact h.set d hv
theorem Ur (a:Act) (d:Option Tmp) (v:Value):(a.put d v).defers=a.defers:=by cases d<;>rfl
def ofV:Value→AV
 | .agg cs=> .agg (cs.toList.map .val)
 |v=> .val v
theorem VR.map_val (κ:Kap) (vs:List Value) (i:Nat) (h:i<vs.length):VR κ ((vs.map AV.val).getD i .any) (vs.getD i undef):=by
 have:(vs.map AV.val).getD i .any= .val (vs.getD i undef):=by simp[List.getD,h]
 rw[this];exact .val _
theorem VR.ofV (κ:Kap) (v:Value):VR κ (ofV v) v:=by
 cases v with
 |agg cs=>
  have:VR κ (.agg (cs.toList.map AV.val)) (.agg cs.toList.toArray):= .agg (by simp) (fun i hi=>VR.map_val κ _ i (by simpa using hi));simpa[E.ofV] using this
 |_=>exact .val _
def QB (t:List AV):Operand→AV
 | .tmp i=>t.getD i .any
 | .const v=>ofV v
 | .global g=> .val (.pointer (some ⟨g,0,none⟩))
 | .func f=> .clo (.func f) [] []
theorem EnvR.eval {κ:Kap} {t:List AV} {a:Act} (h:EnvR κ t a.tmps) (x:Operand):VR κ (QB t x) (a.eval x):=by
 cases x with
 |tmp i=>exact h.at i
 |const v=>exact .ofV κ v
 |global g=>exact .val _
 |func f=>
  have:VR κ (.clo (.func f) [] []) (.func (.func f) ([]:List Value).toArray ([]:List Value).toArray):=
   .clo rfl rfl (fun i hi=>absurd hi (Nat.not_lt_zero i)) (fun i hi=>absurd hi (Nat.not_lt_zero i))
  exact this
abbrev FR (r:Option Nat):Fence:={Fence.wide with round:=r}
theorem Qd3 {r:Option Nat} {n:Nat} {P:Program} {f:FuncId} {args:Array Value} {w:World} {R:Ending→World→Prop}:CallsIn (FR r) n P f args w R↔Calls P f args w R:=
 (callsIn_wide:CallsIn Fence.wide n P f args w R↔Calls P f args w R)
theorem Qtr {P:Program} {o:Oper} {ρ:Operand→Value} {w:World} {c:Call} (ho:o.op= .defer c):(∃d w',(execOp ρ o).run P w= .ok (.defer d) w')∨∃s w',(execOp ρ o).run P w= .halt s w':=by
 unfold execOp;rw[ho];simp only[Sem.run_bind];cases (resolve ρ c o.type).run P w with
 |ok d w'=>exact .inl ⟨d,w',rfl⟩
 |halt s w'=>exact .inr ⟨s,w',rfl⟩
theorem Qes {P:Program} {o:Oper} {ρ:Operand→Value} {w w':World} {x:Next} (r:Option Nat) (h:(execOp ρ o).run P w= .ok x w') (hx:∀d,x≠ .defer d):(o.semAt r ρ).run P w= .ok x w':=by
 rw[Oper.semAt_eq r ρ o (fun c ho=>?_)];· exact h
 rcases Qtr (P:=P) (ρ:=ρ) (w:=w) ho with ⟨d,w2,e⟩|⟨s,w2,e⟩
 ·rw[e] at h;cases h;exact hx d rfl
 ·rw[e] at h;cases h
def sop (P:Program) (o:Oper) (t:List AV) (σ:AH) (K:AEnd→AH→Prop):Prop:=
 ∀r m κ w (a:Act),Rel κ σ w→EnvR κ t a.tmps→∀(next:Act→World→Prop) (Qx:Exit→Act→World→Prop),
  (∀κ' x v σ' w',K (.ret x) σ'→Stp κ σ w κ' σ' w'→VR κ' x v→next (a.put o.dst v) w')→
  (∀κ' x v σ' w',K (.pan x) σ'→Stp κ σ w κ' σ' w'→VR κ' x v→Qx (.panic [{v:=v,recovered:=false}]) a w')→
  o.wpIn (FR r) m P a w next Qx
theorem QbT {P:Program} {o:Oper} {t:List AV} {σ:AH} {K:AEnd→AH→Prop} {x:AV}
  (h:∀κ w (a:Act),Rel κ σ w→EnvR κ t a.tmps→∃v,(execOp a.eval o).run P w= .ok (.value v) w∧VR κ x v) (hK:K (.ret x) σ):sop P o t σ K:=by
 intro r m κ w a hr he next Qx h1 _
 obtain ⟨v,e,hv⟩:=h κ w a hr he;refine ⟨fun _ _=>trivial,?_⟩;rw[Qes r e (fun d h=>by cases h)];exact h1 κ x v σ w hK (.refl hr) hv
theorem QbI {P:Program} {o:Oper} {t:List AV} {σ:AH} {K:AEnd→AH→Prop}
  (h:∀κ w (a:Act),Rel κ σ w→EnvR κ t a.tmps→∃v w' κ' σ' x,(execOp a.eval o).run P w= .ok (.value v) w'∧K (.ret x) σ'∧Stp κ σ w κ' σ' w'∧VR κ' x v):sop P o t σ K:=by
 intro r m κ w a hr he next Qx h1 _
 obtain ⟨v,w',κ',σ',x,e,hK,hs,hv⟩:=h κ w a hr he;refine ⟨fun _ _=>trivial,?_⟩;rw[Qes r e (fun d h=>by cases h)];exact h1 κ' x v σ' w' hK hs hv
theorem QvB {P:Program} {o:Oper} {t:List AV} {σ:AH} {K:AEnd→AH→Prop}
  (h:∀κ w (a:Act),Rel κ σ w→EnvR κ t a.tmps→∃w' κ' σ',(execOp a.eval o).run P w= .ok .skip w'∧K (.ret .any) σ'∧Stp κ σ w κ' σ' w'):sop P o t σ K:=by
 intro r m κ w a hr he next Qx h1 _
 obtain ⟨w',κ',σ',e,hK,hs⟩:=h κ w a hr he;refine ⟨fun _ _=>trivial,?_⟩;rw[Qes r e (fun d h=>by cases h)];exact h1 κ' .any undef σ' w' hK hs (.any _)
structure TI where
 under:TypeDesc
 size:Nat
 bytes:Nat
 zero:Value
 cmp:Bool
abbrev Tab:=TypeId→Option TI
structure TabOk (P:Program) (T:Tab):Prop where
 mixed:P.follows .mixedOrders=true
 under:∀t ti,T t=some ti→P.underlying t=some ti.under
 info:∀t ti,T t=some ti→∃i,P.info? t=some i∧i.size=ti.size∧i.bytes=ti.bytes∧i.zero=some ti.zero
 zsz:∀t ti,T t=some ti→ti.zero.cells.size=ti.size
 cmp:∀t ti,T t=some ti→ti.cmp=true→P.stoodInHeld t=false∧P.eqGuardType P.depth t=false
def Un:TypeDesc→Bool
 | .struct _| .array _ _=>true
 |_=>false
section runs
variable {P:Program} {T:Tab} (hT:TabOk P T) {t:TypeId} {ti:TI} (w:World)
include hT
theorem Qt (h:T t=some ti):(Go.underlying t).run P w= .ok ti.under w:=by
 simp[Go.underlying,hT.under t ti h]
theorem Qet (h:T t=some ti):∃i,(Go.typeInfo t).run P w= .ok i w∧i.size=ti.size∧i.bytes=ti.bytes∧i.zero=some ti.zero:=by
 obtain ⟨i,h1,h2⟩:=hT.info t ti h;exact ⟨i,by simp[Go.typeInfo,h1],h2⟩
theorem QM (h:T t=some ti):(Go.sizeOf t).run P w= .ok ti.size w:=by
 obtain ⟨i,h1,h2,h3⟩:=Qet hT w h;simp[Go.sizeOf,h1,h2]
theorem UE (h:T t=some ti):(Go.zeroValue t).run P w= .ok ti.zero w:=by
 obtain ⟨i,h1,h2,h3,h4⟩:=Qet hT w h;simp[Go.zeroValue,h1,h4]
theorem QpW (h:T t=some ti):(Go.isAgg t).run P w= .ok (Un ti.under) w:=by
 simp only[Go.isAgg,Sem.run_bind,Qt hT w h,Result.andThen_ok];cases ti.under<;>rfl
end runs
end
section
variable [Lam]
theorem Jo (b o j:Nat):(⟨b,o,none⟩:Addr).add j=⟨b,o+j,none⟩:=by
 unfold Addr.add;split<;>simp_all
theorem Qq8 {a b j k s:Nat} (hj:j<s) (hk:k<s) (h:a*s+j=b*s+k):a=b∧j=k:=by
 have h1:(a*s+j) / s=a:=by rw[Nat.mul_comm,Nat.mul_add_div (by omega),Nat.div_eq_of_lt hj];rfl
 have h2:(b*s+k) / s=b:=by rw[Nat.mul_comm,Nat.mul_add_div (by omega),Nat.div_eq_of_lt hk];rfl
 have:a=b:=by rw[←h1,h,h2]
 subst this;exact ⟨rfl,by omega⟩
def JF:AV→Option (List AV)
 | .agg cs=>some cs
 | .val v=>some (v.cells.toList.map .val)
 | .any=>none
 | .tup _=>none
 |a=>some [a]
theorem VRs.one {κ:Kap} {a:AV} {v:Value} (h:VR κ a v):VRs κ [a] [v]:= .cons h (.nil κ)
theorem Qfy {κ:Kap} {a:AV} {v:Value} {cs:List AV} (e:JF a=some cs) (h:VR κ a v):VRs κ cs v.cells.toList:=by
 cases h with
 |val v=>obtain rfl:=Option.some.inj e;exact ⟨by simp,fun i hi=>VR.map_val κ _ i (by simpa using hi)⟩
 |agg hl h=>obtain rfl:=Option.some.inj e;exact ⟨by simpa[Value.cells] using hl,by simpa[Value.cells] using h⟩
 |any v=>cases e
 |tup hl h=>cases e
 |_=>obtain rfl:=Option.some.inj e;exact .one (by first|exact .roEnd _|exact .ro ‹_› ‹_› ‹_› ‹_›|exact .rop ‹_› ‹_›|exact .own ‹_› ‹_› ‹_›|exact .ownEnd ‹_› ‹_›|exact .vw ‹_› ‹_› ‹_›|exact .ptr ‹_› ‹_›|exact .clo ‹_› ‹_› ‹_› ‹_›|exact .ifc ‹_›|exact .yld _|exact .emp _)
def AV.one:AV→Bool
 | .val v=>v.oneCell'
 | .agg _| .tup _| .any=>false
 |_=>true
theorem Qub {κ:Kap} {a:AV} {v:Value} (e:a.one=true) (h:VR κ a v):v.oneCell'=true:=by
 cases h<;>first|exact e|(simp[AV.one] at e;done)|rfl
def Ja (σ:AH):AV→Option (List AV)
 | .rop cs off=>some (cs.drop off)
 | .ptr φ st i off=>match σ φ with
  |some F=>if F.st=st∧i<F.es.length then some ((F.es.getD i []).drop off) else none
  |none=>none
 |_=>none
theorem Qay {α:Type} (l:List α) (n j:Nat) (d:α):(l.drop n).getD j d=l.getD (n+j) d:=by
 simp[List.getD,List.getElem?_drop]
theorem QbU {α:Type} (l:List α) (n j:Nat) (d:α) (h:j<n):(l.take n).getD j d=l.getD j d:=by
 simp[List.getD,h]
theorem Qsk {κ:Kap} {σ:AH} {w:World} (hr:Rel κ σ w) {p:AV} {v:Value} {cs:List AV} (h:VR κ p v) (e:Ja σ p=some cs):
  ∃b o,v= .pointer (some ⟨b,o,none⟩)∧∀j,j<cs.length→∃u,w.cell? ⟨b,o+j,none⟩=some u∧VR κ (cs.getD j .any) u:=by
 cases h with
 |@rop cs0 off b base vals hm hv=>
  obtain rfl:=Option.some.inj e;refine ⟨_,_,rfl,fun j hj=>⟨vals (off+j),?_,?_⟩⟩
  ·rw[Nat.add_assoc];exact hr.mem _ _ _ (hm _ (by simp at hj;omega))
  ·rw[Qay];exact hv _ (by simp at hj;omega)
 |@ptr φ st i off r h hlo=>
  simp only[Ja] at e;split at e
  ·rename_i F hF;split at e
   ·rename_i c;obtain rfl:=Option.some.inj e;obtain ⟨s,h1,_,h3⟩:=hr.has φ F hF;rw[c.1,h] at h1;obtain rfl:=Option.some.inj h1;have hz:=h3.esz i hlo c.2;refine ⟨_,_,rfl,fun j hj=>?_⟩;simp only[List.length_drop] at hj;obtain ⟨u,a1,a2⟩:=h3.cell i (off+j) hlo c.2 (by omega);exact ⟨u,by rw[Nat.add_assoc];exact a1,by rw[Qay];exact a2⟩
   ·cases e
  ·cases e
 |_=>cases e
def Qcc (T:Tab) (t:TypeId) (p:AV) (σ:AH):Option AV:=
 match T t,Ja σ p with
 |some ti,some cs=>if ti.size≤cs.length then match Un ti.under with
  |true=>some (.agg (cs.take ti.size))
  |false=>if 0<cs.length then some (cs.getD 0 .any) else none
  else none
 |_,_=>none
section
variable {P:Program} {T:Tab} (hT:TabOk P T)
include hT
theorem Ql5 {κ:Kap} {σ:AH} {w:World} (hr:Rel κ σ w) {t:TypeId} {p x:AV} {v:Value} (h:VR κ p v) (e:Qcc T t p σ=some x):
  ∃b o,v= .pointer (some ⟨b,o,none⟩)∧∃u,(loadVar t ⟨b,o,none⟩).run P w= .ok u w∧VR κ x u:=by
 unfold Qcc at e;split at e
 ·rename_i ti cs ht hc;obtain ⟨b,o,rfl,hcell⟩:=Qsk hr h hc;refine ⟨b,o,rfl,?_⟩;split at e
  case isFalse=>cases e
  rename_i hs;have hA:=QpW hT w ht;cases ha:Un ti.under with
  |true=>
   rw[ha] at e hA;obtain rfl:=Option.some.inj e
   let f:Nat→Value:=fun j=>(w.cell? ⟨b,o+j,none⟩).getD undef
   have hf:∀j,j<ti.size→w.cell? ((⟨b,o,none⟩:Addr).add j)=some (f j):=by
    intro j hj;obtain ⟨u,h1,_⟩:=hcell j (by omega);rw[Jo,h1];simp[f,h1]
   have hL:=run_loadCells (P:=P) w ⟨b,o,none⟩ ti.size f hf;refine ⟨.agg ((List.range ti.size).map f).toArray,?_,?_⟩
   ·simp only[loadVar,Sem.run_bind,hA,Result.andThen_ok,if_true,QM hT w ht,hL,Sem.run_pure]
   ·refine .agg (by simp[Nat.min_eq_left hs]) fun i hi=>?_
    have hi':i<ti.size:=by simp at hi;omega
    obtain ⟨u,h1,h2⟩:=hcell i (by omega);rw[QbU _ _ _ _ hi'];have:((List.range ti.size).map f).getD i undef=u:=by simp[List.getD,hi',f,h1]
    rw[this];exact h2
  |false=>
   rw[ha] at e hA;replace e:(if 0<cs.length then some (cs.getD 0 .any) else none)=some x:=e;by_cases h0:0<cs.length
   ·rw[if_pos h0] at e;obtain rfl:=Option.some.inj e;obtain ⟨u,h1,h2⟩:=hcell 0 h0;refine ⟨u,?_,h2⟩;simp only[Nat.add_zero] at h1;simp[loadVar,hA,h1]
   ·rw[if_neg h0] at e;cases e
 ·cases e
end
theorem Uz {α:Type} (l:List α) (i k:Nat) (x d:α):(l.set i x).getD k d=if i=k∧i<l.length then x else l.getD k d:=by
 simp only[List.getD,List.getElem?_set];by_cases h:i=k
 ·subst h;by_cases h2:i<l.length
  ·simp[h2]
  ·simp[h2]
 ·simp[h]
def Fam.cellSet (F:Fam) (i j:Nat) (x:AV):Fam:={F with es:=F.es.set i ((F.es.getD i []).set j x)}
theorem Kap.put_self {κ:Kap} {φ st:Nat} {r:Reg} (hρ:κ.ρ φ st=some r):κ.put φ st r=κ:=by
 unfold Kap.put;have:(fun ψ t=>if ψ=φ∧t=st then some r else κ.ρ ψ t)=κ.ρ:=by
  funext ψ t;split
  ·rename_i c;rw[c.1,c.2,hρ]
  ·rfl
 rw[this]
theorem Stp.cell {P:Program} {κ:Kap} {σ:AH} {w:World} (hr:Rel κ σ w) {φ i j:Nat} {F:Fam} {r:Reg} (hF:σ φ=some F) (hρ:κ.ρ φ F.st=some r)
  (hlo:r.lo≤i) (hi:i<F.es.length) (hj:j<F.sz) {x:AV} {v:Value} (hv:VR κ x v) (h1:v.oneCell'=true):
  (store ⟨r.b,r.base+(i - r.lo)*r.sz+j,none⟩ v).run P w= .ok () (w.setCell ⟨r.b,r.base+(i - r.lo)*r.sz+j,none⟩ v)∧
  Stp κ σ w κ (σ.set φ (F.cellSet i j x)) (w.setCell ⟨r.b,r.base+(i - r.lo)*r.sz+j,none⟩ v):=by
 obtain ⟨r',e1,hB,H⟩:=hr.has φ F hF;rw[hρ] at e1;obtain rfl:=Option.some.inj e1;obtain ⟨u,hc,_⟩:=H.cell i j hlo hi hj;have hsz:=H.sz;have hlt:(i - r.lo)*r.sz+j<r.cap*r.sz:=by
  have a1:i - r.lo<r.cap:=by have:=H.len;omega
  have a2:(i - r.lo+1)*r.sz≤r.cap*r.sz:=Nat.mul_le_mul_right _ a1;rw[Nat.add_mul,Nat.one_mul] at a2;omega
 have hfr:=H.free (r.base+(i - r.lo)*r.sz+j) (by omega);constructor
 ·rw[run_store P w _ v .plain h1,hc];simp[hfr]
 ·have hfs:(F.cellSet i j x).st=F.st:=rfl;have key:=Stp.turn (w':=w.setCell ⟨r.b,r.base+(i - r.lo)*r.sz+j,none⟩ v) hr (φ:=φ) (F':=F.cellSet i j x) (r:=r)
   (.inr hρ) (fun st h=>hr.up φ F st hF h) (.inl ⟨F,r,hF,hρ,rfl⟩) (by simp) (fun b hb hne=>Below.heap_setCell _ _ _ _ hne) rfl rfl rfl
  rw[hfs,Kap.put_self hρ] at key;refine key ⟨H.sz,by simpa[Fam.cellSet] using H.len,?_,?_,?_,?_⟩
  ·obtain ⟨c,e,fz,hh,hle⟩:=H.row;refine ⟨c.setIfInBounds (r.base+(i - r.lo)*r.sz+j) v,e,fz,?_,by simpa using hle⟩;simp only[World.setCell,Array.getElem?_modify,↓reduceIte,hh,Option.map_some];rfl
  ·intro o ho;rw[World.frozen?_setCell];exact H.free o ho
  ·intro k hk hkl;simp only[Fam.cellSet,Uz];have hkl':k<F.es.length:=by simpa[Fam.cellSet] using hkl
   split
   ·rename_i c;simp only[List.length_set];rw[c.1];exact H.esz k hk hkl'
   ·exact H.esz k hk hkl'
  ·intro k l hk hkl hl;have hkl':k<F.es.length:=by simpa[Fam.cellSet] using hkl
   have hl':l<F.sz:=hl;obtain ⟨u',hc',hv'⟩:=H.cell k l hk hkl' hl';by_cases c:k=i∧l=j
   ·obtain ⟨rfl,rfl⟩:=c;refine ⟨v,World.cell?_setCell_same _ _ _ hc',?_⟩;have hlen:l<(F.es.getD k []).length:=by rw[H.esz k hk hkl'];exact hl'
    simp only[Fam.cellSet,Uz,hkl',and_self,if_true,hlen];exact hv
   ·refine ⟨u',?_,?_⟩
    ·rw[World.cell?_setCell_other,hc'];intro he;have h0:r.base+(i - r.lo)*r.sz+j=r.base+(k - r.lo)*r.sz+l:=congrArg Addr.off he;have:=Qq8 (s:=r.sz) (by omega) (by omega) (show (i - r.lo)*r.sz+j=(k - r.lo)*r.sz+l by omega);exact c ⟨by omega,this.2.symm⟩
    ·simp only[Fam.cellSet,Uz];split
     ·rename_i c1;obtain ⟨rfl,_⟩:=c1;rw[Uz,if_neg (fun c2=>c ⟨rfl,c2.1.symm⟩)];exact hv'
     ·exact hv'
def spl (cs:List AV) (off:Nat):List AV→List AV
 |[]=>cs
 |x::xs=>spl (cs.set off x) (off+1) xs
def Fam.splice (F:Fam) (i off:Nat) (xs:List AV):Fam:={F with es:=F.es.set i (spl (F.es.getD i []) off xs)}
theorem Fam.splice_nil (F:Fam) (i off:Nat) (hi:i<F.es.length):F.splice i off []=F:=by
 unfold Fam.splice spl;have:F.es.set i (F.es.getD i [])=F.es:=by
  apply List.ext_getElem?;intro k
  rw[List.getElem?_set];split
  ·rename_i h;subst h;simp[hi,List.getD]
  ·rfl
 rw[this]
theorem Fam.splice_cons (F:Fam) (i off:Nat) (x:AV) (xs:List AV) (hi:i<F.es.length):F.splice i off (x::xs)=(F.cellSet i off x).splice i (off+1) xs:=by
 unfold Fam.splice Fam.cellSet;simp only[spl,List.set_set,Uz,true_and,hi,if_true]
theorem Qo2 {P:Program} (xs:List AV):∀(vs:List Value) (κ:Kap) (σ:AH) (w:World) (φ i j n:Nat) (F:Fam) (r:Reg) (a:Addr),Rel κ σ w→σ φ=some F→κ.ρ φ F.st=some r→
  r.lo≤i→i<F.es.length→j+n+xs.length≤F.sz→VRs κ xs vs→(∀x,x∈xs→x.one=true)→a=⟨r.b,r.base+(i - r.lo)*r.sz+j,none⟩→
  ∃w',(storeCells a vs n).run P w= .ok () w'∧Stp κ σ w κ (σ.set φ (F.splice i (j+n) xs)) w':=by
 induction xs with
 |nil=>
  intro vs κ σ w φ i j n F r a hr hF hρ hlo hi hle hv _ _;obtain rfl:=hv.unnil;refine ⟨w,rfl,?_⟩;rw[Fam.splice_nil _ _ _ hi,AH.set_self hF];exact .refl hr
 |cons x xs ih=>
  intro vs κ σ w φ i j n F r a hr hF hρ hlo hi hle hv h1 ha;obtain ⟨v,us,rfl,hv1,hv2⟩:=hv.uncons;simp only[List.length_cons] at hle;obtain ⟨g1,g2⟩:=Stp.cell (P:=P) hr hF hρ hlo hi (j:=j+n) (by omega) hv1 (Qub (h1 x (by simp)) hv1);have hi':i<(F.cellSet i (j+n) x).es.length:=by simpa[Fam.cellSet] using hi
  obtain ⟨w',e,hs⟩:=ih us κ _ _ φ i j (n+1) (F.cellSet i (j+n) x) r a g2.rel (AH.set_same ..) hρ hlo hi' (by show j+(n+1)+xs.length≤F.sz;omega) hv2 (fun y hy=>h1 y (by simp[hy])) ha;refine ⟨w',?_,?_⟩
  ·subst ha;simp only[storeCells,Sem.run_bind,Jo];rw[Nat.add_assoc (r.base+(i - r.lo)*r.sz) j n,g1];exact e
  ·rw[AH.set_set] at hs;rw[Fam.splice_cons _ _ _ _ _ hi];exact g2.trans hs
def QjQ (T:Tab) (t:TypeId) (p v:AV) (σ:AH) (k:AH→Prop):Prop:=
 match T t,p,JF v with
 |some ti,.ptr φ st i off,some xs=>xs.length=ti.size∧(∀x,x∈xs→x.one=true)∧∃F,σ φ=some F∧F.st=st∧i<F.es.length∧off+xs.length≤F.sz∧k (σ.set φ (F.splice i off xs))
 |_,_,_=>False
section
variable {P:Program} {T:Tab} (hT:TabOk P T)
include hT
theorem Qq9 {κ:Kap} {σ:AH} {w:World} (hr:Rel κ σ w) {t:TypeId} {p x:AV} {v u:Value} {k:AH→Prop} (h:VR κ p v) (hx:VR κ x u) (e:QjQ T t p x σ k):
  ∃b o,v= .pointer (some ⟨b,o,none⟩)∧∃w' σ',(storeVar t ⟨b,o,none⟩ u).run P w= .ok () w'∧Stp κ σ w κ σ' w'∧k σ':=by
 unfold QjQ at e;split at e
 ·rename_i ti φ st i off xs ht hc;obtain ⟨hl,h1,F,hF,hst,hi,hle,hk⟩:=e;have hxs:=Qfy hc hx;cases h with
  |@ptr _ _ _ _ r hρ hlo=>
   subst hst;obtain ⟨w',e,hs⟩:=Qo2 (P:=P) xs u.cells.toList κ σ w φ i off 0 F r _ hr hF hρ hlo hi (by omega) hxs h1 rfl;refine ⟨_,_,rfl,w',_,?_,hs,hk⟩;have hsz:u.cells.size=ti.size:=by rw[←hl,hxs.1];simp
   simp only[storeVar,Sem.run_bind,QM hT w ht,Result.andThen_ok,hsz,ne_eq,not_true_eq_false,if_false];exact e
 ·exact e.elim
end
theorem Stp.fresh {κ:Kap} {σ:AH} {w:World} (hr:Rel κ σ w) {φ:Nat} {F':Fam} {lo cap:Nat} (c:Array Value) (e:TypeId)
  (hnew:κ.ρ φ F'.st=none) (hst:∀st,F'.st<st→κ.ρ φ st=none) (hid:σ φ=none→∀st,κ.ρ φ st=none)
  (hlen:F'.es.length≤lo+cap) (hc:cap*F'.sz≤c.size) (hz:∀i,lo≤i→i<F'.es.length→(F'.es.getD i []).length=F'.sz)
  (hcell:∀i j,lo≤i→i<F'.es.length→j<F'.sz→∃v,c[(i - lo)*F'.sz+j]? =some v∧VR κ ((F'.es.getD i []).getD j .any) v):
  Stp κ σ w (κ.put φ F'.st ⟨w.heap.size,0,lo,cap,F'.sz⟩) (σ.set φ F') (w.alloc (.cells c e)):=by
 have hE:Ext κ (κ.put φ F'.st ⟨w.heap.size,0,lo,cap,F'.sz⟩):=Kap.put_ext _ hnew;refine Stp.turn hr (.inl hnew) hst (.inr ⟨Nat.le_refl _,hid⟩) (by simp) (fun b hb _=>Below.heap_alloc _ _ _ hb) rfl rfl rfl ⟨rfl,hlen,⟨c,e,(0,0),?_,?_⟩,?_,hz,?_⟩
 ·show (w.heap.push _)[w.heap.size]? =_;simp
 ·simpa using hc
 ·intro o _;exact World.frozen?_alloc_new w c e o
 ·intro i j hi hil hj;obtain ⟨v,h1,h2⟩:=hcell i j hi hil hj;refine ⟨v,?_,h2.mono hE⟩;simp only[Nat.zero_add,World.cell?_alloc_new];exact h1
theorem Rel.newId {κ:Kap} {σ:AH} {w:World} (hr:Rel κ σ w):∃φ,σ φ=none∧∀st,κ.ρ φ st=none:=by
 obtain ⟨N,hN⟩:=hr.fin;exact ⟨N,hN N (Nat.le_refl _)⟩
theorem Stp.newVar {κ:Kap} {σ:AH} {w:World} (hr:Rel κ σ w) {φ:Nat} (h1:∀st,κ.ρ φ st=none) {xs:List AV} {vs:List Value} (e:TypeId) (hv:VRs κ xs vs):
  ∃κ',Stp κ σ w κ' (σ.set φ ⟨0,xs.length,[xs]⟩) (w.alloc (.cells vs.toArray e))∧VR κ' (.ptr φ 0 0 0) (.pointer (some ⟨w.heap.size,0,none⟩)):=by
 refine ⟨_,Stp.fresh (F':=⟨0,xs.length,[xs]⟩) (lo:=0) (cap:=1) hr vs.toArray e (h1 0) (fun st _=>h1 st) (fun _=>h1) (by simp) (by simp[hv.1]) ?_ ?_,?_⟩
 ·intro i _ hi;have:i=0:=by simp at hi;omega
  subst this;rfl
 ·intro i j _ hi hj;have:i=0:=by simp at hi;omega
  subst this;have hj':j<vs.length:=by rw[←hv.1];exact hj
  exact ⟨vs.getD j undef,by simp[List.getD,hj'],hv.2 j hj⟩
 ·have h:=VR.ptr (i:=0) (off:=0) (r:=⟨w.heap.size,0,0,1,xs.length⟩) (Kap.put_same κ φ 0 ⟨w.heap.size,0,0,1,xs.length⟩) (Nat.le_refl _);simpa using h
def abox (v:AV) (σ:AH) (k:AV→AH→Prop):Prop:=
 match JF v with
 |some xs=>∀φ,σ φ=none→k (.ptr φ 0 0 0) (σ.set φ ⟨0,xs.length,[xs]⟩)
 |none=>False
def Qnx (T:Tab) (t:TypeId) (σ:AH) (k:AV→AH→Prop):Prop:=
 match T t with
 |some ti=>abox (ofV ti.zero) σ k
 |none=>False
theorem Qny {P:Program} {κ:Kap} {σ:AH} {w:World} (hr:Rel κ σ w) {x:AV} {v:Value} {k:AV→AH→Prop} (t:TypeId) (hx:VR κ x v) (e:abox x σ k):
  ∃u w' κ' σ' y,(do pure (.pointer (some (←newVar t v))):Sem Value).run P w= .ok u w'∧k y σ'∧Stp κ σ w κ' σ' w'∧VR κ' y u:=by
 unfold abox at e;split at e
 ·rename_i xs hc;obtain ⟨φ,h0,h1⟩:=hr.newId;obtain ⟨κ',hs,hv⟩:=Stp.newVar hr h1 t (Qfy hc hx);refine ⟨_,_,κ',_,_,?_,e φ h0,hs,hv⟩;simp[Go.newVar,newRow]
 ·exact e.elim
end
section
variable [Lam]
section
variable {P:Program} {T:Tab} (hT:TabOk P T)
include hT
omit hT in
def apart (T:Tab) (t:TypeId) (cs:List AV) (off:Nat):Option AV:=
 match T t with
 |some ti=>match Un ti.under with
  |true=>if off+ti.size≤cs.length then some (.agg ((cs.drop off).take ti.size)) else none
  |false=>if off<cs.length then some (cs.getD off .any) else none
 |none=>none
theorem Qid {κ:Kap} {w:World} {t:TypeId} {cs:List AV} {vs:Array Value} {off:Nat} {x:AV} (hv:VRs κ cs vs.toList) (e:apart T t cs off=some x):
  ∃u,(part t vs off).run P w= .ok u w∧VR κ x u:=by
 unfold apart at e;split at e
 case h_2=>cases e
 rename_i ti ht;have hA:=QpW hT w ht;have hlen:cs.length=vs.size:=by simpa using hv.1
 cases ha:Un ti.under with
 |true=>
  rw[ha] at e hA;replace e:(if off+ti.size≤cs.length then some (AV.agg ((cs.drop off).take ti.size)) else none)=some x:=e;by_cases hs:off+ti.size≤cs.length
  ·rw[if_pos hs] at e;obtain rfl:=Option.some.inj e;refine ⟨.agg (vs.extract off (off+ti.size)),?_,?_⟩
   ·simp[part,hA,QM hT w ht]
   ·have:VR κ (.agg ((cs.drop off).take ti.size)) (.agg ((vs.toList.drop off).take ti.size).toArray):=by
     refine .agg (by simp[hlen]) fun i hi=>?_
     have hi':i<ti.size:=by simp at hi;omega
     rw[QbU _ _ _ _ hi',QbU _ _ _ _ hi',Qay,Qay];exact hv.2 _ (by omega)
    have e2:((vs.toList.drop off).take ti.size).toArray=vs.extract off (off+ti.size):=by
     apply Array.ext'
     simp[List.extract_eq_take_drop]
    rw[←e2];exact this
  ·rw[if_neg hs] at e;cases e
 |false=>
  rw[ha] at e hA;replace e:(if off<cs.length then some (cs.getD off .any) else none)=some x:=e;by_cases hs:off<cs.length
  ·rw[if_pos hs] at e;obtain rfl:=Option.some.inj e;have hs':off<vs.size:=by omega
   refine ⟨vs.toList.getD off undef,?_,hv.2 off hs⟩;simp[part,hA,hs',List.getD]
  ·rw[if_neg hs] at e;cases e
omit hT in
def Qeu (T:Tab) (t:TypeId) (x:AV) (f:Nat):Option AV:=
 match T t,x with
 |some ti,.agg cs=>match ti.under with
  | .struct fs=>match fs[f]? with
   |some fl=>apart T fl.type cs fl.offset
   |none=>none
  |_=>none
 |_,_=>none
theorem Quc {κ:Kap} {w:World} {t:TypeId} {x y:AV} {v:Value} {f:Nat} (h:VR κ x v) (e:Qeu T t x f=some y):
  ∃u,(Instr.field t v f).run P w= .ok u w∧VR κ y u:=by
 unfold Qeu at e;split at e
 case h_2=>cases e
 rename_i ti cs ht;split at e
 case h_2=>cases e
 rename_i fs hu;split at e
 case h_2=>cases e
 rename_i fl hf;cases h with
 |@agg _ vs hl h=>
  obtain ⟨u,h1,h2⟩:=Qid hT (w:=w) (vs:=vs.toArray) (by exact ⟨by simpa using hl,by simpa using h⟩) e;refine ⟨u,?_,h2⟩;have hU:=Qt hT w ht;rw[hu] at hU;simp[Instr.field,hU,hf,asAgg,h1]
omit hT in
def Qcd (T:Tab) (t:TypeId) (p:AV) (f:Nat):Option AV:=
 match T t with
 |some ti=>match ti.under with
  | .struct fs=>match fs[f]? with
   |some fl=>match T fl.type with
    |some tf=>if tf.size=0 then none else match p with
     | .rop cs off=>some (.rop cs (off+fl.offset))
     | .ptr φ st i off=>some (.ptr φ st i (off+fl.offset))
     |_=>none
    |none=>none
   |none=>none
  |_=>none
 |none=>none
theorem Qsl {κ:Kap} {w:World} {t:TypeId} {p y:AV} {v:Value} {f:Nat} (h:VR κ p v) (e:Qcd T t p f=some y):
  ∃u,(Instr.fieldAt t v f).run P w= .ok u w∧VR κ y u:=by
 unfold Qcd at e;split at e
 case h_2=>cases e
 rename_i ti ht;split at e
 case h_2=>cases e
 rename_i fs hu;split at e
 case h_2=>cases e
 rename_i fl hf;split at e
 case h_2=>cases e
 rename_i tf htf;split at e
 case isTrue=>cases e
 rename_i hz;have hU:=Qt hT w ht;rw[hu] at hU;have hS:=QM hT w htf;cases h with
 |@rop cs off b base vals hm hv=>
  obtain rfl:=Option.some.inj e;refine ⟨.pointer (some ⟨b,base+(off+fl.offset),none⟩),?_,.rop hm hv⟩;simp[Instr.fieldAt,hU,hf,Instr.sureAddr,fieldPlace,hS,hz,Jo,Nat.add_assoc]
 |@ptr φ st i off r h hlo=>
  obtain rfl:=Option.some.inj e;refine ⟨.pointer (some ⟨r.b,r.base+(i - r.lo)*r.sz+(off+fl.offset),none⟩),?_,.ptr h hlo⟩;simp[Instr.fieldAt,hU,hf,Instr.sureAddr,fieldPlace,hS,hz,Jo,Nat.add_assoc]
 |_=>cases e
omit hT in
def Us (T:Tab) (t:TypeId) (x ix:AV) (σ:AH):Option AV:=
 match T t,ix with
 |some ti,.val (.int _ i)=>match ti.under,x with
  | .slice e,.ro es=>match T e with
   |some te=>if 0≤i∧i<es.length∧(es.getD i.toNat []).length=te.size then some (.rop (es.getD i.toNat []) 0) else none
   |none=>none
  | .slice e,.own φ st off n=>match T e,σ φ with
   |some te,some F=>if 0≤i∧i<n∧F.st=st∧F.sz=te.size then some (.ptr φ st (off+i.toNat) 0) else none
   |_,_=>none
  | .array len e,.ptr φ st j off=>match T e with
   |some te=>if 0≤i∧i<len then some (.ptr φ st j (off+i.toNat*te.size)) else none
   |none=>none
  | .array len e,.rop cs off=>match T e with
   |some te=>if 0≤i∧i<len then some (.rop cs (off+i.toNat*te.size)) else none
   |none=>none
  |_,_=>none
 |_,_=>none
theorem Qsm {κ:Kap} {σ:AH} {w:World} (hr:Rel κ σ w) {t:TypeId} {x ix y:AV} {v u:Value} (h:VR κ x v) (hi:VR κ ix u) (e:Us T t x ix σ=some y):
  ∃z,(Instr.indexAt t v u).run P w= .ok z w∧VR κ y z:=by
 unfold Us at e;split at e
 case h_2=>cases e
 rename_i ti k i ht;cases hi;have hU:=Qt hT w ht;split at e
 case h_5=>cases e
 ·rename_i el es hu;rw[hu] at hU;split at e
  case h_2=>cases e
  rename_i te hte;split at e
  case isFalse=>cases e
  rename_i hc;obtain ⟨h0,h1,h2⟩:=hc;obtain rfl:=Option.some.inj e;have hS:=QM hT w hte;cases h with
  |roEnd a=>simp at h1;omega
  |@ro _ b off cap sz vals hc hz hm hv=>
   have hin:i.toNat<es.length:=by omega
   have hsz:sz=te.size:=by rw[←hz _ hin,h2]
   subst hsz;refine ⟨.pointer (some ⟨b,off+i.toNat*te.size+0,none⟩),?_,.rop (vals:=fun j=>vals i.toNat j) (fun j hj=>hm _ _ hin (by omega)) (fun j hj=>hv _ _ hin (by omega))⟩;simp[Instr.indexAt,asIntOf,hU,h0,h1,hS,Jo]
 ·rename_i el φ st off n hu;rw[hu] at hU;split at e
  case h_2=>cases e
  rename_i te F hte hF;split at e
  case isFalse=>cases e
  rename_i hc;obtain ⟨h0,h1,rfl,h3⟩:=hc;obtain rfl:=Option.some.inj e;have hS:=QM hT w hte;cases h with
  |@own _ _ _ _ r hρ hlo hn=>
   obtain ⟨r',e1,_,H⟩:=hr.has φ F hF;rw[hρ] at e1;obtain rfl:=Option.some.inj e1;have hsz:r.sz=te.size:=by rw[H.sz,h3]
   refine ⟨.pointer (some ⟨r.b,r.base+(off+i.toNat - r.lo)*r.sz+0,none⟩),?_,.ptr hρ (by omega)⟩;have:(off+i.toNat - r.lo)*r.sz=(off - r.lo)*r.sz+i.toNat*r.sz:=by
    rw[←Nat.add_mul];congr 1;omega
   simp[Instr.indexAt,asIntOf,hU,h0,h1,hS,Jo,←hsz,Nat.add_assoc];exact this.symm
  |ownEnd _ _=>omega
 ·rename_i len el φ st j off hu;rw[hu] at hU;split at e
  case h_2=>cases e
  rename_i te hte;split at e
  case isFalse=>cases e
  rename_i hc;obtain rfl:=Option.some.inj e;have hS:=QM hT w hte;cases h with
  |@ptr _ _ _ _ r hρ hlo=>
   refine ⟨.pointer (some ⟨r.b,r.base+(j - r.lo)*r.sz+(off+i.toNat*te.size),none⟩),?_,.ptr hρ hlo⟩;simp[Instr.indexAt,asIntOf,hU,hc.1,hc.2,hS,Jo,Instr.sureAddr,Nat.add_assoc]
 ·rename_i len el cs off hu;rw[hu] at hU;split at e
  case h_2=>cases e
  rename_i te hte;split at e
  case isFalse=>cases e
  rename_i hc;obtain rfl:=Option.some.inj e;have hS:=QM hT w hte;cases h with
  |@rop _ _ b base vals hm hv=>
   refine ⟨.pointer (some ⟨b,base+(off+i.toNat*te.size),none⟩),?_,.rop hm hv⟩;simp[Instr.indexAt,asIntOf,hU,hc.1,hc.2,hS,Jo,Instr.sureAddr,Nat.add_assoc]
omit hT in
def QgS (T:Tab) (t:TypeId) (x ix:AV):Option AV:=
 match T t,ix with
 |some ti,.val (.int _ i)=>match ti.under,x with
  | .string,.val (.string s)=>if 0≤i then match s[i.toNat]? with
   |some b=>some (.val (.int .u8 b.toNat))
   |none=>none
   else none
  | .array len e,.agg cs=>match T e with
   |some te=>if 0≤i∧i<len then apart T e cs (i.toNat*te.size) else none
   |none=>none
  |_,_=>none
 |_,_=>none
theorem Qud {κ:Kap} {w:World} {t:TypeId} {x ix y:AV} {v u:Value} (h:VR κ x v) (hi:VR κ ix u) (e:QgS T t x ix=some y):
  ∃z,(Instr.index t v u).run P w= .ok z w∧VR κ y z:=by
 unfold QgS at e;split at e
 case h_2=>cases e
 rename_i ti k i ht;cases hi;have hU:=Qt hT w ht;split at e
 case h_3=>cases e
 ·rename_i s hu;rw[hu] at hU;cases h;split at e
  case isFalse=>cases e
  rename_i h0;split at e
  case h_2=>cases e
  rename_i b hb;obtain rfl:=Option.some.inj e;exact ⟨_,by simp[Instr.index,asIntOf,hU,h0,hb],.val _⟩
 ·rename_i len el cs hu;rw[hu] at hU;split at e
  case h_2=>cases e
  rename_i te hte;split at e
  case isFalse=>cases e
  rename_i hc;cases h with
  |@agg _ vs hl h=>
   obtain ⟨z,h1,h2⟩:=Qid hT (w:=w) (vs:=vs.toArray) (by exact ⟨by simpa using hl,by simpa using h⟩) e;exact ⟨z,by simp[Instr.index,asIntOf,hU,hc.1,hc.2,QM hT w hte,h1],h2⟩
omit hT in
def alen (T:Tab) (t:TypeId) (x:AV):Option AV:=
 match T t with
 |some ti=>match ti.under,x with
  | .string,.val (.string s)=>some (.val (.int .i64 s.size))
  | .slice _,.ro es=>some (.val (.int .i64 es.length))
  | .slice _,.own _ _ _ n=>some (.val (.int .i64 n))
  | .slice _,.emp=>some (.val (.int .i64 0))
  | .slice _,.val (.slice none 0 0)=>some (.val (.int .i64 0))
  | .array n _,_=>some (.val (.int .i64 n))
  |_,_=>none
 |none=>none
theorem QxB {κ:Kap} {w:World} {ts:Array TypeId} {rt t:TypeId} {x y:AV} {v:Value} (ht0:ts[0]? =some t) (h:VR κ x v) (e:alen T t x=some y):
  ∃z,(Builtin.len_ ts rt #[v]).run P w= .ok z w∧VR κ y z:=by
 unfold alen at e;split at e
 case h_2=>cases e
 rename_i ti ht;have hU:=Qt hT w ht;split at e
 case h_7=>cases e
 all_goals (rename_i hu;rw[hu] at hU;obtain rfl:=Option.some.inj e)
 ·cases h;exact ⟨_,by simp[Builtin.len_,ht0,hU,goInt],.val _⟩
 ·cases h<;>exact ⟨_,by simp[Builtin.len_,ht0,hU,goInt],.val _⟩
 ·cases h<;>exact ⟨_,by simp[Builtin.len_,ht0,hU,goInt],.val _⟩
 ·cases h;exact ⟨_,by simp[Builtin.len_,ht0,hU,goInt],.val _⟩
 ·cases h;exact ⟨_,by simp[Builtin.len_,ht0,hU,goInt],.val _⟩
 ·exact ⟨_,by simp[Builtin.len_,ht0,hU,goInt],.val _⟩
end
end
section
variable [Lam]
section
variable {P:Program} {T:Tab} (hT:TabOk P T)
include hT
omit hT in
def abd (x : Option AV) (d : Nat) : Option Nat :=   -- a bound that is told, or the one that is meant
 match x with
 |none=>some d
 |some (.val (.int _ i))=>if 0≤i then some i.toNat else none
 |some _=>none
omit hT in
def Qaz (T:Tab) (t:TypeId) (x:AV) (lo hi mx:Option AV) (σ:AH):Option AV:=
 match T t with
 |some ti=>match ti.under,x with
  | .string,.val (.string s)=>match abd lo 0,abd hi s.size,mx with
   |some l,some h,none=>if l≤h∧h≤s.size then some (.val (.string (s.extract l h))) else none
   |_,_,_=>none
  | .slice e,.ro es=>match T e,abd lo 0,abd hi es.length,abd mx es.length with
   |some te,some l,some h,some m=>if l≤h∧h≤m∧m≤es.length∧(mx.isSome=true→hi.isSome=true)∧es.all (fun c=>c.length==te.size)=true then some (.ro ((es.take h).drop l)) else none
   |_,_,_,_=>none
  | .slice e,.own φ st off n=>match T e,σ φ,abd lo 0,abd hi n,mx with
   |some te,some F,some l,some h,none=>if l≤h∧h≤n∧F.st=st∧F.sz=te.size then some (.own φ st (off+l) (h - l)) else none
   |some te,some F,some l,some h,some m=>match abd (some m) 0 with
    |some m=>if l<h∧h≤m∧m≤n∧hi.isSome=true∧F.st=st∧F.sz=te.size then some (.vw φ st (off+l) (h - l)) else none
    |none=>none
   |_,_,_,_,_=>none
  | .slice e,.emp=>match T e,abd lo 0,abd hi 0,mx with
   |some _,some 0,some 0,none=>some .emp
   |_,_,_,_=>none
  | .slice e,.val (.slice none 0 0)=>match T e,abd lo 0,abd hi 0,mx with
   |some _,some 0,some 0,none=>some (.val (.slice none 0 0))
   |_,_,_,_=>none
  |_,_=>none
 |none=>none
omit hT in
theorem QjR {κ:Kap} {w:World} {x:Option AV} {v:Option Value} (h:(x=none∧v=none)∨∃a u,x=some a∧v=some u∧VR κ a u) {d n y:Nat} (e:abd x d=some n) (hn:n≤y) (c:BoundsCode):
  (x=none∧v=none∧n=d)∨∃u,v=some u∧x.isSome=true∧(Instr.sliceBound u y c).run P w= .ok n w:=by
 rcases h with ⟨rfl,rfl⟩|⟨a,u,rfl,rfl,h⟩
 ·exact .inl ⟨rfl,rfl,(Option.some.inj e).symm⟩
 ·right
  refine ⟨u,rfl,rfl,?_⟩;unfold abd at e;split at e
  ·cases ‹some a=none›
  ·rename_i k i hx;obtain rfl:=Option.some.inj hx;cases h;split at e
   case isFalse=>cases e
   rename_i h0;obtain rfl:=Option.some.inj e;have:i≤(y:Int):=by omega
   simp[Instr.sliceBound,asIntOf,h0,this]
  ·cases e
omit hT in
theorem UH {κ:Kap} {w:World} {lo hi mx:Option AV} {lv hv mv:Option Value} (isS:Bool) {n cap l h m mm:Nat}
  (hl:(lo=none∧lv=none)∨∃a u,lo=some a∧lv=some u∧VR κ a u) (hh:(hi=none∧hv=none)∨∃a u,hi=some a∧hv=some u∧VR κ a u)
  (hm:(mx=none∧mv=none)∨∃a u,mx=some a∧mv=some u∧VR κ a u)
  (el:abd lo 0=some l) (eh:abd hi n=some h) (em:abd mx mm=some m) (h1:l≤h) (h2:h≤m) (h3:m≤cap) (h5:mx.isSome=true→hi.isSome=true):
  ∃m',(Instr.sliceBounds isS n cap lv hv mv).run P w= .ok (l,h,m') w∧(mx=none→m'=cap)∧m≤m'∧m'≤cap:=by
 rcases QjR (P:=P) (w:=w) hm em h3 (if isS then .slice3Acap else .slice3Alen) with ⟨a1,a2,a3⟩|⟨um,a1,a2,a3⟩
 ·subst a1;subst a2;rcases QjR (P:=P) (w:=w) hh eh (Nat.le_trans h2 h3) (if isS then .sliceAcap else .sliceAlen) with ⟨b1,b2,b3⟩|⟨uh,b1,b2,b3⟩<;>
  rcases QjR (P:=P) (w:=w) hl el h1 .sliceB with ⟨c1,c2,c3⟩|⟨ul,c1,c2,c3⟩<;>
  ·subst_vars
   refine ⟨cap,?_,fun _=>rfl,h3,Nat.le_refl _⟩;simp[Instr.sliceBounds, *]
 ·subst a1;rcases QjR (P:=P) (w:=w) hh eh h2 .slice3B with ⟨b1,b2,b3⟩|⟨uh,b1,b2,b3⟩
  ·subst b1;have:=h5 a2;simp at this
  ·rcases QjR (P:=P) (w:=w) hl el h1 .slice3C with ⟨c1,c2,c3⟩|⟨ul,c1,c2,c3⟩<;>
   ·subst_vars
    refine ⟨m,?_,fun e=>by rw[e] at a2;simp at a2,Nat.le_refl _,h3⟩;simp[Instr.sliceBounds, *]
theorem Que {κ:Kap} {σ:AH} {w:World} (hr:Rel κ σ w) {t:TypeId} {x y:AV} {v:Value} {lo hi mx:Option AV} {lv hv mv:Option Value} (h:VR κ x v)
  (hl:(lo=none∧lv=none)∨∃a u,lo=some a∧lv=some u∧VR κ a u) (hh:(hi=none∧hv=none)∨∃a u,hi=some a∧hv=some u∧VR κ a u)
  (hm:(mx=none∧mv=none)∨∃a u,mx=some a∧mv=some u∧VR κ a u) (e:Qaz T t x lo hi mx σ=some y):
  ∃z,(Instr.sliceAt t v lv hv mv).run P w= .ok z w∧VR κ y z:=by
 unfold Qaz at e;split at e
 case h_2=>cases e
 rename_i ti ht;have hU:=Qt hT w ht;split at e
 case h_6=>cases e
 ·rename_i s hu;rw[hu] at hU;cases h;split at e
  case h_2=>cases e
  rename_i l h el eh;split at e
  case isFalse=>cases e
  rename_i hc;obtain rfl:=Option.some.inj e;have hmv:mv=none:=by rcases hm with ⟨_,r⟩|⟨a,u,c,_⟩;exact r;cases c
  subst hmv;obtain ⟨m',g1,g2,g3,g4⟩:=UH (P:=P) (w:=w) (cap:=s.size) (mm:=s.size) (m:=s.size) false hl hh hm el eh rfl hc.1 hc.2 (Nat.le_refl _) (by simp);exact ⟨_,by simp[Instr.sliceAt,Instr.slice,hU,g1],.val _⟩
 ·rename_i el0 es hu;rw[hu] at hU;split at e
  case h_2=>cases e
  rename_i te l h m hte el eh em;split at e
  case isFalse=>cases e
  rename_i hc;obtain ⟨c1,c2,c3,c4,c5⟩:=hc;obtain rfl:=Option.some.inj e;have hS:=QM hT w hte;have hlen:((es.take h).drop l).length=h - l:=by simp;omega
  cases ‹VR κ (AV.ro es) v› with
  |roEnd a=>
   simp only[List.length_nil,Nat.le_zero] at c3;obtain rfl:m=0:=c3;obtain rfl:h=0:=by omega
   obtain rfl:l=0:=by omega
   obtain ⟨m',g1,g2,g3,g4⟩:=UH (P:=P) (w:=w) (cap:=0) (mm:=([]:List (List AV)).length) true hl hh hm el eh em c1 c2 (Nat.le_refl _) c4;obtain rfl:m'=0:=by omega
   simp only[List.length_nil] at g1;exact ⟨.slice a 0 0,by cases a<;>simp[Instr.sliceAt,Instr.slice,hU,g1,hS],.roEnd _⟩
  |@ro _ b off cap sz vals hcap hz hmm hv=>
   obtain ⟨m',g1,g2,g3,g4⟩:=UH (P:=P) (w:=w) (cap:=cap) (mm:=es.length) true hl hh hm el eh em c1 c2 (by omega) c4;by_cases he:((es.take h).drop l)=[]
   ·rw[he];have hl0:h - l=0:=by rw[←hlen,he];rfl
    have hres:∀(a:Addr),a.spot=none→VR κ (.ro []) (.slice (some a) 0 (m' - l)):=by
     intro a ha;obtain ⟨ab,ao,as⟩:=a;obtain rfl:as=none:=ha;exact VR.ro (es:=[]) (sz:=sz) (vals:=vals) (Nat.zero_le _) (fun i hi=>absurd hi (Nat.not_lt_zero i)) (fun i j hi=>absurd hi (Nat.not_lt_zero i)) (fun i j hi=>absurd hi (Nat.not_lt_zero i))
    refine ⟨.slice (some (if m'=l then ⟨b,off,none⟩ else (⟨b,off,none⟩:Addr).add (l*te.size))) (h - l) (m' - l),?_,?_⟩
    ·by_cases hml:m'=l<;>simp[Instr.sliceAt,Instr.slice,hU,g1,hS,hml]
    ·rw[hl0];refine hres _ ?_;split
     ·rfl
     ·rw[Jo]
   ·have hlt:l<h:=by
     rcases Nat.lt_or_ge l h with c|c
     ·exact c
     ·exact absurd (List.length_eq_zero_iff.mp (by rw[hlen];omega)) he
    have hsz:sz=te.size:=by
     have h0:0<es.length:=by omega
     rw[←hz 0 h0];have:=List.all_eq_true.mp c5 (es.getD 0 []) (by simp[List.getD,h0]);simpa using this
    have hml:m'≠l:=by omega
    refine ⟨.slice (some ((⟨b,off,none⟩:Addr).add (l*te.size))) (h - l) (m' - l),by simp[Instr.sliceAt,Instr.slice,hU,g1,hS,hml],?_⟩;rw[Jo];have hget:∀i,i<h - l→((es.take h).drop l).getD i []=es.getD (l+i) []:=by
     intro i hi;rw[Qay,QbU _ _ _ _ (by omega)]
    have key:VR κ (.ro ((es.take h).drop l)) (.slice (some ⟨b,off+l*te.size,none⟩) ((es.take h).drop l).length (m' - l)):=by
     refine VR.ro (sz:=sz) (vals:=fun i j=>vals (l+i) j) (by omega) (fun i hi=>?_) (fun i j hi hj=>?_) (fun i j hi hj=>?_)
     ·rw[hget i (by omega)];exact hz _ (by omega)
     ·have:=hmm (l+i) j (by omega) hj;rw[hsz,Nat.add_mul] at this;rw[hsz];rw[←this];congr 1;omega
     ·rw[hget i (by omega)];exact hv _ _ (by omega) hj
    rw[hlen] at key;exact key
 ·rename_i el0 φ st off n hu;rw[hu] at hU;split at e
  case h_3=>cases e
  case h_2=>
   rename_i te F l h m0 hte hF el eh;split at e
   case h_2=>cases e
   rename_i m em;split at e
   case isFalse=>cases e
   rename_i hc;obtain ⟨c1,c2,c3,c4,rfl,c6⟩:=hc;obtain rfl:=Option.some.inj e;have hS:=QM hT w hte;have em':abd (some m0) n=some m:=by
    rw[←em];unfold abd;split
    ·rename_i hh0;cases hh0
    ·rfl
    ·rfl
   cases ‹VR κ (AV.own φ _ off n) v› with
   |@own _ _ _ _ r hρ hlo hn=>
    obtain ⟨r',e1,_,H⟩:=hr.has φ F hF;rw[hρ] at e1;obtain rfl:=Option.some.inj e1;have hsz:r.sz=te.size:=by rw[H.sz,c6]
    obtain ⟨m',g1,g2,g3,g4⟩:=UH (P:=P) (w:=w) (cap:=r.lo+r.cap - off) (mm:=n) (m:=m) true hl hh hm el eh em' (by omega) c2 (by omega) (fun _=>c4);have hml:m'≠l:=by omega
    refine ⟨.slice (some ((⟨r.b,r.base+(off - r.lo)*r.sz,none⟩:Addr).add (l*te.size))) (h - l) (m' - l),by simp[Instr.sliceAt,Instr.slice,hU,g1,hS,hml],?_⟩;rw[Jo];have key:=VR.vw (κ:=κ) (off:=off+l) (n:=h - l) (cap:=m' - l) hρ (by omega) (by omega);have e1:r.base+(off+l - r.lo)*r.sz=r.base+(off - r.lo)*r.sz+l*te.size:=by
     rw[←hsz,Nat.add_assoc,←Nat.add_mul];congr 2;omega
    rw[e1] at key;exact key
   |@ownEnd _ _ _ r a hρ hoff=>omega
  rename_i te F l h hte hF el eh;split at e
  case isFalse=>cases e
  rename_i hc;obtain ⟨c1,c2,rfl,c4⟩:=hc;obtain rfl:=Option.some.inj e;have hS:=QM hT w hte;have hmv:mv=none:=by rcases hm with ⟨_,r⟩|⟨a,u,c,_⟩;exact r;cases c
  subst hmv;cases ‹VR κ (AV.own φ _ off n) v› with
  |@own _ _ _ _ r hρ hlo hn=>
   obtain ⟨r',e1,_,H⟩:=hr.has φ F hF;rw[hρ] at e1;obtain rfl:=Option.some.inj e1;have hsz:r.sz=te.size:=by rw[H.sz,c4]
   obtain ⟨m',g1,g2,g3,g4⟩:=UH (P:=P) (w:=w) (cap:=r.lo+r.cap - off) (mm:=h) (m:=h) true hl hh hm el eh rfl c1 (Nat.le_refl _) (by omega) (by simp);have g2':=g2 rfl;subst g2';by_cases hml:r.lo+r.cap - off=l
   ·have:h - l=0:=by omega
    rw[hml] at g1;refine ⟨.slice (some ⟨r.b,r.base+(off - r.lo)*r.sz,none⟩) (h - l) (r.lo+r.cap - off - l),by simp[Instr.sliceAt,Instr.slice,hU,g1,hS,hml],?_⟩;rw[this,show r.lo+r.cap - off - l=0 by omega];exact .ownEnd hρ (by omega)
   ·refine ⟨.slice (some ((⟨r.b,r.base+(off - r.lo)*r.sz,none⟩:Addr).add (l*te.size))) (h - l) (r.lo+r.cap - off - l),by simp[Instr.sliceAt,Instr.slice,hU,g1,hS,hml],?_⟩;rw[Jo];have key:=VR.own (κ:=κ) (off:=off+l) (n:=h - l) hρ (by omega) (by omega);have e1:r.base+(off+l - r.lo)*r.sz=r.base+(off - r.lo)*r.sz+l*te.size:=by
     rw[←hsz,Nat.add_assoc,←Nat.add_mul];congr 2;omega
    rw[e1,show r.lo+r.cap - (off+l)=r.lo+r.cap - off - l by omega] at key;exact key
  |@ownEnd _ _ _ r a hρ hoff=>
   obtain rfl:h=0:=by omega
   obtain rfl:l=0:=by omega
   obtain ⟨m',g1,g2,g3,g4⟩:=UH (P:=P) (w:=w) (n:=0) (cap:=0) (mm:=0) (m:=0) true hl hh hm el eh rfl c1 (Nat.le_refl _) (Nat.le_refl _) (by simp);obtain rfl:m'=0:=by omega
   exact ⟨.slice (some a) 0 0,by simp[Instr.sliceAt,Instr.slice,hU,g1,hS],.ownEnd hρ (by omega)⟩
 ·rename_i el0 hu;rw[hu] at hU;cases ‹VR κ AV.emp v› with
  |emp a=>
   split at e
   case h_2=>cases e
   rename_i te hte el eh;obtain rfl:=Option.some.inj e;have hS:=QM hT w hte;have hmv:mv=none:=by rcases hm with ⟨_,r⟩|⟨a,u,c,_⟩;exact r;cases c
   subst hmv;obtain ⟨m',g1,g2,g3,g4⟩:=UH (P:=P) (w:=w) (n:=0) (cap:=0) (mm:=0) (m:=0) true hl hh hm el eh rfl (Nat.le_refl _) (Nat.le_refl _) (Nat.le_refl _) (by simp);obtain rfl:m'=0:=by omega
   exact ⟨.slice a 0 0,by simp[Instr.sliceAt,Instr.slice,hU,g1,hS],.emp _⟩
 ·rename_i el0 hu;rw[hu] at hU;cases ‹VR κ (AV.val _) v›;split at e
  case h_2=>cases e
  rename_i te hte el eh;obtain rfl:=Option.some.inj e;have hS:=QM hT w hte;have hmv:mv=none:=by rcases hm with ⟨_,r⟩|⟨a,u,c,_⟩;exact r;cases c
  subst hmv;obtain ⟨m',g1,g2,g3,g4⟩:=UH (P:=P) (w:=w) (n:=0) (cap:=0) (mm:=0) (m:=0) true hl hh hm el eh rfl (Nat.le_refl _) (Nat.le_refl _) (Nat.le_refl _) (by simp);obtain rfl:m'=0:=by omega
  exact ⟨.slice none 0 0,by simp[Instr.sliceAt,Instr.slice,hU,g1,hS],.val _⟩
end
end
section
variable [Lam]
theorem VRs.set {κ:Kap} {as:List AV} {vs:List Value} (h:VRs κ as vs) (i:Nat) {x:AV} {v:Value} (hv:VR κ x v):VRs κ (as.set i x) (vs.set i v):=by
 refine ⟨by simp[h.1],fun k hk=>?_⟩;have hk':k<as.length:=by simpa using hk
 rw[Uz,Uz,←h.1];split
 ·exact hv
 ·exact h.2 k hk'
theorem Quf (vs:List Value):∀(off k:Nat) (arr:Array Value) (κ:Kap) (cs xs:List AV),VRs κ cs arr.toList→VRs κ xs vs→
  VRs κ (spl cs (off+k) xs) ((vs.zipIdx k).foldl (fun cs (c,j)=>cs.setIfInBounds (off+j) c) arr).toList:=by
 induction vs with
 |nil=>
  intro off k arr κ cs xs h hx;have:xs=[]:=by cases xs with
   |nil=>rfl
   |cons x xs=>exact absurd hx.1 (by simp)
  subst this;exact h
 |cons v vs ih=>
  intro off k arr κ cs xs h hx;cases xs with
  |nil=>exact absurd hx.1 (by simp)
  |cons x xs=>
   obtain ⟨v',us,e,h1,h2⟩:=hx.uncons;obtain ⟨rfl,rfl⟩:=List.cons.inj e;simp only[List.zipIdx_cons,List.foldl_cons,spl];have:=ih off (k+1) (arr.setIfInBounds (off+k) v) κ (cs.set (off+k) x) xs (by simpa using h.set (off+k) h1) h2;exact this
def Qce (place:Nat→Option (Nat × Nat)) (cells:List AV):List (Nat × AV)→Option (List AV)
 |[]=>some cells
 |(i,x)::rest=>match place i,JF x with
  |some (off,size),some xs=>if xs.length=size∧off+xs.length≤cells.length then Qce place (spl cells off xs) rest else none
  |_,_=>none
def PR (κ:Kap) (ps:List (Nat × AV)) (qs:List (Nat × Value)):Prop:=ps.length=qs.length∧∀i,i<ps.length→(ps.getD i (0,.any)).1=(qs.getD i (0,undef)).1∧VR κ (ps.getD i (0,.any)).2 (qs.getD i (0,undef)).2
theorem PR.uncons {κ:Kap} {i:Nat} {x:AV} {ps:List (Nat × AV)} {qs:List (Nat × Value)} (h:PR κ ((i,x)::ps) qs):∃v rs,qs=(i,v)::rs∧VR κ x v∧PR κ ps rs:=by
 cases qs with
 |nil=>exact absurd h.1 (by simp)
 |cons q qs=>
  obtain ⟨j,v⟩:=q;have h0:=h.2 0 (by simp);simp at h0;exact ⟨v,qs,by rw[h0.1],h0.2,by have:=h.1;simpa using this,fun k hk=>h.2 (k+1) (by simpa using hk)⟩
theorem PR.unnil {κ:Kap} {qs:List (Nat × Value)} (h:PR κ [] qs):qs=[]:=by
 cases qs with
 |nil=>rfl
 |cons v us=>exact absurd h.1 (by simp)
theorem PR.map {κ:Kap} {t:List AV} {a:Act} (h:EnvR κ t a.tmps) (ps:List (Nat × Operand)):PR κ (ps.map fun p=>(p.1,QB t p.2)) (ps.map fun p=>(p.1,a.eval p.2)):=by
 refine ⟨by simp,fun i hi=>?_⟩;have hi':i<ps.length:=by simpa using hi
 simp only[List.getD,List.getElem?_map,List.getElem?_eq_getElem hi',Option.map_some,Option.getD_some];exact ⟨trivial,h.eval _⟩
theorem Qra {κ:Kap} {place:Nat→Option (Nat × Nat)} (ps:List (Nat × AV)):∀(qs:List (Nat × Value)) (cs out:List AV) (arr:Array Value),PR κ ps qs→VRs κ cs arr.toList→Qce place cs ps=some out→
  ∃arr',Instr.fill place arr qs=some arr'∧VRs κ out arr'.toList:=by
 induction ps with
 |nil=>
  intro qs cs out arr hp hc e;obtain rfl:=hp.unnil;obtain rfl:=Option.some.inj e;exact ⟨arr,rfl,hc⟩
 |cons p ps ih=>
  obtain ⟨i,x⟩:=p;intro qs cs out arr hp hc e;obtain ⟨v,rs,rfl,hv,hp'⟩:=hp.uncons;simp only[Qce] at e;split at e
  case h_2=>cases e
  rename_i off size xs hpl hx;split at e
  case isFalse=>cases e
  rename_i hcond;have hxs:=Qfy hx hv;have h1:v.cells.size=size:=by rw[←hcond.1,hxs.1];simp
  have h2:¬off+v.cells.size>arr.size:=by
   have a:=hc.1;have b:=hxs.1;simp at a b;omega
  have hf:=Quf v.cells.toList off 0 arr κ cs xs hc hxs;obtain ⟨arr',g1,g2⟩:=ih rs _ out _ hp' hf e;refine ⟨arr',?_,g2⟩;simp only[Instr.fill,hpl,h1,ne_eq,not_true_eq_false,decide_false,Bool.false_or,decide_eq_true_eq];rw[if_neg (by rw[h1] at h2;exact h2),←g1]
  congr 1
  rw[←Array.foldl_toList,Array.toList_zipIdx]
section
variable {P:Program} {T:Tab} (hT:TabOk P T)
include hT
omit hT in
def QcN (T:Tab):List Field→Option (List (Nat × Nat))
 |[]=>some []
 |f::fs=>match T f.type,QcN T fs with
  |some ti,some r=>some ((f.offset,ti.size)::r)
  |_,_=>none
theorem Qts {w:World} (fs:List Field):∀r,QcN T fs=some r→(fs.mapM fun f=>do pure (f.offset,←sizeOf f.type):Sem (List (Nat × Nat))).run P w= .ok r w:=by
 induction fs with
 |nil=>intro r e;obtain rfl:=Option.some.inj e;rfl
 |cons f fs ih=>
  intro r e;simp only[QcN] at e;split at e
  case h_2=>cases e
  rename_i ti r' ht hr;obtain rfl:=Option.some.inj e;rw[List.mapM_cons];simp only[Sem.run_bind,QM hT w ht,Result.andThen_ok,Sem.run_pure];rw[ih r' hr];rfl
omit hT in
def QgT (T:Tab) (t:TypeId) (ps:List (Nat × AV)):Option AV:=
 match T t with
 |some ti=>match ti.under with
  | .struct fs=>match QcN T fs.toList with
   |some pl=>(Qce (fun i=>pl[i]?) (ti.zero.cells.toList.map .val) ps).map .agg
   |none=>none
  | .array _ e=>match T e with
   |some te=>(Qce (fun i=>some (i*te.size,te.size)) (ti.zero.cells.toList.map .val) ps).map .agg
   |none=>none
  |_=>none
 |none=>none
theorem Qug {κ:Kap} {w:World} {t:TypeId} {ps:List (Nat × AV)} {qs:Array (Nat × Value)} {y:AV} (hp:PR κ ps qs.toList) (e:QgT T t ps=some y):
  ∃u,(Instr.build t qs).run P w= .ok u w∧VR κ y u:=by
 unfold QgT at e;split at e
 case h_2=>cases e
 rename_i ti ht;have hU:=Qt hT w ht;have hz:=UE hT w ht;have hzero:VRs κ (ti.zero.cells.toList.map AV.val) ti.zero.cells.toList:=⟨by simp,fun i hi=>VR.map_val κ _ i (by simpa using hi)⟩;split at e
 case h_3=>cases e
 ·rename_i fs hu;rw[hu] at hU;split at e
  case h_2=>cases e
  rename_i pl hpl;obtain ⟨out,e1,rfl⟩:=Option.map_eq_some_iff.mp e;obtain ⟨arr',g1,g2⟩:=Qra ps _ _ _ _ hp hzero e1;refine ⟨.agg arr',?_,?_⟩
  ·have hpm:(fs.mapM fun f=>do pure (f.offset,←sizeOf f.type):Sem (Array (Nat × Nat))).run P w= .ok pl.toArray w:=by
    rw[Array.mapM_eq_mapM_toList,Sem.run_map,Qts hT fs.toList pl hpl];rfl
   have g1':Instr.fill (fun x=>pl.toArray[x]?) ti.zero.cells qs.toList=some arr':=by simpa using g1
   simp only[Instr.build,Sem.run_bind,hz,Result.andThen_ok,hU,hpm,g1'];rfl
  ·have:=VR.agg (κ:=κ) g2.1 g2.2;simpa using this
 ·rename_i n el hu;rw[hu] at hU;split at e
  case h_2=>cases e
  rename_i te hte;obtain ⟨out,e1,rfl⟩:=Option.map_eq_some_iff.mp e;obtain ⟨arr',g1,g2⟩:=Qra ps _ _ _ _ hp hzero e1;refine ⟨.agg arr',?_,?_⟩
  ·simp only[Instr.build,Sem.run_bind,hz,Result.andThen_ok,hU,QM hT w hte,g1];rfl
  ·have:=VR.agg (κ:=κ) g2.1 g2.2;simpa using this
end
structure RowR (κ:Kap) (s:Nat) (es:List (List AV)) (arr:List Value):Prop where
 len:arr.length=es.length*s
 esz:∀i,i<es.length→(es.getD i []).length=s
 get:∀i j,i<es.length→j<s→VR κ ((es.getD i []).getD j .any) (arr.getD (i*s+j) undef)
theorem Qdd {i j n s:Nat} (hi:i<n) (hj:j<s):i*s+j<n*s:=by
 have:(i+1)*s≤n*s:=Nat.mul_le_mul_right _ hi;rw[Nat.add_mul,Nat.one_mul] at this;omega
theorem RowR.nil (κ:Kap) (s:Nat):RowR κ s [] []:=⟨by simp,fun i hi=>absurd hi (Nat.not_lt_zero i),fun i j hi=>absurd hi (Nat.not_lt_zero i)⟩
theorem RowR.append {κ:Kap} {s:Nat} {es fs:List (List AV)} {a b:List Value} (h:RowR κ s es a) (k:RowR κ s fs b):RowR κ s (es++fs) (a++b):=by
 refine ⟨by rw[List.length_append,List.length_append,h.len,k.len,Nat.add_mul],fun i hi=>?_,fun i j hi hj=>?_⟩
 ·by_cases c:i<es.length
  ·have:=h.esz i c;simpa[List.getD,List.getElem?_append,c] using this
  ·have:=k.esz (i - es.length) (by simp at hi;omega);simpa[List.getD,List.getElem?_append,c] using this
 ·by_cases c:i<es.length
  ·have:=h.get i j c hj;have c2:i*s+j<a.length:=by rw[h.len];exact Qdd c hj
   simpa[List.getD,List.getElem?_append,c,c2] using this
  ·have:=k.get (i - es.length) j (by simp at hi;omega) hj;have c2:¬i*s+j<a.length:=by
    rw[h.len];have:es.length*s≤i*s:=Nat.mul_le_mul_right _ (by omega);omega
   have e:i*s+j - a.length=(i - es.length)*s+j:=by
    rw[h.len,Nat.sub_mul];have:es.length*s≤i*s:=Nat.mul_le_mul_right _ (by omega);omega
   simp only[List.getD,List.getElem?_append,c,c2,if_false,e] at this ⊢;exact this
theorem Stp.row {κ:Kap} {σ:AH} {w:World} (hr:Rel κ σ w) {φ st:Nat} {s lo cap:Nat} {pre es:List (List AV)} (row rest:List Value) (e:TypeId)
  (hnew:κ.ρ φ st=none) (hst:∀t,st<t→κ.ρ φ t=none) (hid:σ φ=none→∀t,κ.ρ φ t=none) (hpre:pre.length=lo)
  (hrow:RowR κ s es row) (hcap:es.length≤cap) (hsz:cap*s≤row.length+rest.length):
  Stp κ σ w (κ.put φ st ⟨w.heap.size,0,lo,cap,s⟩) (σ.set φ ⟨st,s,pre++es⟩) (w.alloc (.cells (row++rest).toArray e)):=by
 refine Stp.fresh (F':=⟨st,s,pre++es⟩) hr _ e hnew hst hid (by simp[hpre];exact hcap) (by simpa using hsz) ?_ ?_
 ·intro i hlo hi;have:=hrow.esz (i - lo) (by simp at hi;omega);simp only[List.getD,List.getElem?_append,hpre,show ¬i<lo by omega,if_false] at this ⊢;exact this
 ·intro i j hlo hi hj;have hi':i - lo<es.length:=by simp at hi;omega
  have h1:=hrow.get (i - lo) j hi' hj;have h2:(i - lo)*s+j<row.length:=by rw[hrow.len];exact Qdd hi' hj
  refine ⟨row.getD ((i - lo)*s+j) undef,?_,?_⟩
  ·simp[List.getElem?_append,h2,List.getD]
  ·simp only[List.getD,List.getElem?_append,hpre,show ¬i<lo by omega,if_false] at h1 ⊢;exact h1
def JD (size:Nat) (es:List (List AV)):List (Nat × AV)→Option (List (List AV))
 |[]=>some es
 |(i,x)::rest=>match JF x with
  |some xs=>if xs.length=size∧i<es.length then JD size (es.set i xs) rest else none
  |none=>none
theorem Quh (vs:List Value):∀(off k:Nat) (arr:Array Value) (m:Nat),off+k+vs.length≤arr.size→
  ((vs.zipIdx k).foldl (fun cs (c,j)=>cs.setIfInBounds (off+j) c) arr).toList.getD m undef=if off+k≤m∧m<off+k+vs.length then vs.getD (m - (off+k)) undef else arr.toList.getD m undef:=by
 induction vs with
 |nil=>intro off k arr m _;simp;omega
 |cons v vs ih=>
  intro off k arr m hle;simp only[List.length_cons] at hle;simp only[List.zipIdx_cons,List.foldl_cons];rw[ih off (k+1) _ m (by simp;omega)];by_cases c:off+(k+1)≤m∧m<off+(k+1)+vs.length
  ·rw[if_pos c,if_pos (by simp;omega)];have:m - (off+k)=(m - (off+(k+1)))+1:=by omega
   rw[this];rfl
  ·rw[if_neg c];by_cases c2:m=off+k
   ·subst c2;rw[if_pos (by simp)];simp only[Array.toList_setIfInBounds,Uz,true_and];rw[if_pos (by simp;omega)];simp
   ·rw[if_neg (by simp;omega)];simp only[Array.toList_setIfInBounds,Uz];rw[if_neg (fun h=>c2 h.1.symm)]
theorem Qui (vs:List Value):∀(off k:Nat) (arr:Array Value),((vs.zipIdx k).foldl (fun cs (c,j)=>cs.setIfInBounds (off+j) c) arr).size=arr.size:=by
 induction vs with
 |nil=>intro off k arr;rfl
 |cons v vs ih=>intro off k arr;simp only[List.zipIdx_cons,List.foldl_cons];rw[ih];simp
theorem Quj {κ:Kap} {s:Nat} (ps:List (Nat × AV)):∀(qs:List (Nat × Value)) (es out:List (List AV)) (arr:Array Value),PR κ ps qs→RowR κ s es arr.toList→JD s es ps=some out→
  ∃arr',Instr.fill (fun i=>some (i*s,s)) arr qs=some arr'∧RowR κ s out arr'.toList∧out.length=es.length:=by
 induction ps with
 |nil=>
  intro qs es out arr hp hc e;obtain rfl:=hp.unnil;obtain rfl:=Option.some.inj e;exact ⟨arr,rfl,hc,rfl⟩
 |cons p ps ih=>
  obtain ⟨i,x⟩:=p;intro qs es out arr hp hc e;obtain ⟨v,rs,rfl,hv,hp'⟩:=hp.uncons;simp only[JD] at e;split at e
  case h_2=>cases e
  rename_i xs hx;split at e
  case isFalse=>cases e
  rename_i hcond;have hxs:=Qfy hx hv;have h1:v.cells.size=s:=by rw[←hcond.1,hxs.1];simp
  have hle:i*s+s≤arr.size:=by
   have a:=hc.len;have:(i+1)*s≤es.length*s:=Nat.mul_le_mul_right _ hcond.2;rw[Nat.add_mul,Nat.one_mul] at this;simp at a;omega
  have hlen:v.cells.toList.length=s:=by simpa using h1
  have hnew:RowR κ s (es.set i xs) ((v.cells.toList.zipIdx 0).foldl (fun cs (c,j)=>cs.setIfInBounds (i*s+j) c) arr).toList:=by
   refine ⟨?_,fun k hk=>?_,fun k j hk hj=>?_⟩
   ·have:=hc.len;simp only[Array.length_toList] at this ⊢;rw[Qui,this];simp
   ·rw[Uz];split
    ·exact hcond.1
    ·exact hc.esz k (by simpa using hk)
   ·have hk':k<es.length:=by simpa using hk
    rw[Quh _ _ _ _ _ (by omega),Uz];by_cases c:i=k
    ·subst c;rw[if_pos ⟨rfl,hcond.2⟩,if_pos (by omega)];have:=hxs.2 j (by rw[hcond.1];exact hj);rw[show i*s+j - (i*s+0)=j by omega];exact this
    ·rw[if_neg (fun h=>c h.1),if_neg ?_]
     ·exact hc.get k j hk' hj
     ·rintro ⟨a1,a2⟩;apply c;rcases Nat.lt_trichotomy i k with h|h|h
      ·have:(i+1)*s≤k*s:=Nat.mul_le_mul_right _ h;rw[Nat.add_mul,Nat.one_mul] at this;omega
      ·exact h
      ·have:(k+1)*s≤i*s:=Nat.mul_le_mul_right _ h;rw[Nat.add_mul,Nat.one_mul] at this;omega
  obtain ⟨arr',g1,g2,g3⟩:=ih rs _ out _ hp' hnew e;refine ⟨arr',?_,g2,by rw[g3];simp⟩;simp only[Instr.fill,h1,ne_eq,not_true_eq_false,decide_false,Bool.false_or,decide_eq_true_eq];rw[if_neg (by omega),←g1]
  congr 1
  rw[←Array.foldl_toList,Array.toList_zipIdx]
theorem RowR.zeros {κ:Kap} {ti:TI} (hz:ti.zero.cells.size=ti.size) (n:Nat):
  RowR κ ti.size (List.replicate n (ti.zero.cells.toList.map .val)) ((Array.range (n*ti.size)).map (fun k=>ti.zero.cells[k % ti.zero.cells.size]!)).toList:=by
 refine ⟨by simp,fun i hi=>?_,fun i j hi hj=>?_⟩
 ·have:i<n:=by simpa using hi
  simp[List.getD,this,hz]
 ·have hi':i<n:=by simpa using hi
  have hlt:=Qdd hi' hj;have hmod:(i*ti.size+j) % ti.size=j:=by rw[Nat.mul_comm,Nat.mul_add_mod];exact Nat.mod_eq_of_lt hj
  have hj':j<ti.zero.cells.size:=by omega
  have e1:(List.replicate n (ti.zero.cells.toList.map AV.val)).getD i []=ti.zero.cells.toList.map AV.val:=by simp[List.getD,hi']
  rw[e1];have e2:((Array.range (n*ti.size)).map (fun k=>ti.zero.cells[k % ti.zero.cells.size]!)).toList.getD (i*ti.size+j) undef=ti.zero.cells.toList.getD j undef:=by
   simp[List.getD,hlt,hz,hmod];rw[getElem!_pos ti.zero.cells j hj'];simp[hj']
  rw[e2];exact VR.map_val κ _ j (by simpa using hj')
end
section
variable [Lam]
theorem Qrb (f:Nat→Value):(Array.range 0).map f=#[]:=by
 apply Array.ext';simp[Array.toList_range]
section
variable {P:Program} {T:Tab} (hT:TabOk P T)
include hT
omit hT in
def Qc2 (T:Tab) (t:TypeId) (len:Nat) (ps:List (Nat × AV)) (σ:AH) (k:AV→AH→Prop):Prop:=
 match T t with
 |some ti=>match ti.under with
  | .slice e=>match T e with
   |some te=>match JD te.size (List.replicate len (te.zero.cells.toList.map .val)) ps with
    |some es=>len*te.size≤2 ^ 24∧if len=0 then k .emp σ else ∀φ,σ φ=none→k (.own φ 0 0 len) (σ.set φ ⟨0,te.size,es⟩)
    |none=>False
   |none=>False
  |_=>False
 |none=>False
theorem Qo3 {κ:Kap} {σ:AH} {w:World} (hr:Rel κ σ w) {t:TypeId} {len:Nat} {ps:List (Nat × AV)} {qs:Array (Nat × Value)} {k:AV→AH→Prop} (hp:PR κ ps qs.toList) (e:Qc2 T t len ps σ k):
  ∃v w' κ' σ' x,(Instr.buildSlice t len qs).run P w= .ok v w'∧k x σ'∧Stp κ σ w κ' σ' w'∧VR κ' x v:=by
 unfold Qc2 at e;split at e
 case h_2=>exact e.elim
 rename_i ti ht;have hU:=Qt hT w ht;split at e
 case h_2=>exact e.elim
 rename_i el hu;rw[hu] at hU;split at e
 case h_2=>exact e.elim
 rename_i te hte;split at e
 case h_2=>exact e.elim
 rename_i es hes;obtain ⟨hb,hk⟩:=e;have hS:=QM hT w hte;have hZ:=UE hT w hte;have hz0:=RowR.zeros (κ:=κ) (hT.zsz el te hte) len;obtain ⟨arr',g1,g2,g3⟩:=Quj ps _ _ _ _ hp hz0 hes;obtain ⟨φ,h0,h1⟩:=hr.newId;have hlen:es.length=len:=by rw[g3];simp
 have key:=Stp.row hr (φ:=φ) (st:=0) (lo:=0) (cap:=len) (pre:=[]) arr'.toList [] el (h1 0) (fun t _=>h1 t) (fun _=>h1) rfl g2 (by omega) (by rw[g2.len,hlen];simp);have hrun:(Instr.buildSlice t len qs).run P w= .ok (.slice (some ⟨w.heap.size,0,none⟩) len len) (w.alloc (.cells (arr'.toList++[]).toArray el)):=by
  have hzz:∀(z:Array Value),z=(if len*te.size=0 then #[] else te.zero.cells)→(Array.range (len*te.size)).map (fun k=>z[k % z.size]!)=(Array.range (len*te.size)).map (fun k=>te.zero.cells[k % te.zero.cells.size]!):=by
   intro z hz;by_cases c:len*te.size=0
   ·rw[c,Qrb,Qrb]
   ·rw[if_neg c] at hz;rw[hz]
  by_cases c:len*te.size=0
  ·have c':=hzz #[] (by rw[if_pos c]);have g1':Instr.fill (fun i=>some (i*te.size,te.size)) ((Array.range (len*te.size)).map (fun k=>(#[]:Array Value)[k % (#[]:Array Value).size]!)) qs.toList=some arr':=by rw[c'];exact g1
   simp only[Instr.buildSlice,Sem.run_bind,hU,Result.andThen_ok,hS];rw[if_neg (by omega),if_pos c];simp only[Sem.run_pure,Result.andThen_ok,g1',newRow,Sem.run_bind,run_newObj];simp
  ·simp only[Instr.buildSlice,Sem.run_bind,hU,Result.andThen_ok,hS];rw[if_neg (by omega),if_neg c];simp only[Sem.run_bind,hZ,Sem.run_pure,Result.andThen_ok,g1,newRow,run_newObj];simp
 by_cases hl0:len=0
 ·rw[if_pos hl0] at hk;exact ⟨_,_,_,σ,.emp,hrun,hk,key.trans (.sub key.rel (.set (.refl σ) _ h0)),by rw[hl0];exact .emp _⟩
 ·rw[if_neg hl0] at hk;refine ⟨_,_,_,_,.own φ 0 0 len,hrun,hk φ h0,key,?_⟩;have h:=VR.own (κ:=κ.put φ 0 ⟨w.heap.size,0,0,len,te.size⟩) (off:=0) (n:=len) (Kap.put_same κ φ 0 ⟨w.heap.size,0,0,len,te.size⟩) (Nat.le_refl _) (by simp);simpa using h
omit hT in
def Qc3 (T:Tab) (t:TypeId) (l c:AV) (σ:AH) (k:AV→AH→Prop):Prop:=
 match T t,l,c with
 |some ti,.val (.int _ n),.val (.int _ m)=>match ti.under with
  | .slice e=>match T e with
   |some te=>0≤n∧n≤m∧m≤1099511627776∧te.bytes≤128∧∀φ,σ φ=none→k (.own φ 0 0 n.toNat) (σ.set φ ⟨0,te.size,List.replicate m.toNat (te.zero.cells.toList.map .val)⟩)
   |none=>False
  |_=>False
 |_,_,_=>False
omit hT in
theorem Qnz {n:Int} (h0:0≤n) (h1:n≤1099511627776):IntKind.i64.wrap n=n:=by
 have e:n % (2 ^ IntKind.i64.bits:Int)=n:=Int.emod_eq_of_lt h0 (by simp[IntKind.bits];omega);unfold IntKind.wrap;simp only[e];have:¬(IntKind.i64.signed=true∧n≥(2 ^ (IntKind.i64.bits - 1):Int)):=by
  simp[IntKind.bits,IntKind.signed];omega
 simp only[Bool.and_eq_true,decide_eq_true_eq,this,if_false]
theorem QvC {κ:Kap} {σ:AH} {w:World} (hr:Rel κ σ w) {t:TypeId} {l c:AV} {lv cv:Value} {k:AV→AH→Prop} (hl:VR κ l lv) (hc:VR κ c cv) (e:Qc3 T t l c σ k):
  ∃v w' κ' σ' x,(Instr.makeSlice t lv cv).run P w= .ok v w'∧k x σ'∧Stp κ σ w κ' σ' w'∧VR κ' x v:=by
 unfold Qc3 at e;split at e
 case h_2=>exact e.elim
 rename_i ti k1 n k2 m ht;cases hl;cases hc;have hU:=Qt hT w ht;split at e
 case h_2=>exact e.elim
 rename_i el hu;rw[hu] at hU;split at e
 case h_2=>exact e.elim
 rename_i te hte;obtain ⟨a1,a2,a3,a4,hk⟩:=e;obtain ⟨φ,h0,h1⟩:=hr.newId;obtain ⟨inf,i1,i2,i3,i4⟩:=Qet hT w hte;have hS:=QM hT w hte;have hZ:=UE hT w hte;have hz0:=RowR.zeros (κ:=κ) (hT.zsz el te hte) m.toNat;have hbm:(te.bytes:Int)*m≤2 ^ 48:=by
  have:(te.bytes:Int)*m≤128*m:=Int.mul_le_mul_of_nonneg_right (by omega) (by omega);omega
 have key:=Stp.row hr (φ:=φ) (st:=0) (lo:=0) (cap:=m.toNat) (pre:=[]) _ [] el (h1 0) (fun t _=>h1 t) (fun _=>h1) rfl hz0 (by simp) (by simp);refine ⟨.slice (some ⟨w.heap.size,0,none⟩) n.toNat m.toNat,_,_,_,.own φ 0 0 n.toNat,?_,hk φ h0,key,?_⟩
 ·have w1:=Qnz a1 (by omega:n≤1099511627776);have w2:=Qnz (by omega:0≤m) a3;have c1:¬(m<0):=by omega
  have c2:¬((te.bytes:Int)*m>2 ^ 48):=by omega
  have c3:¬(n<0):=by omega
  have c4:¬(n>m):=by omega
  have hcond:((decide (m<0)||decide ((te.bytes:Int)*m>2 ^ 48)||decide (n<0)||decide (n>m))=true)=False:=by
   simp only[c1,c2,c3,c4,decide_false,Bool.or_self];simp
  simp only[Instr.makeSlice,Sem.run_bind,hU,Result.andThen_ok,asInt,asIntOf,Sem.run_pure,i1,i3,w1,w2];simp only[hcond,if_false,Sem.run_bind,run_askRoom,Result.andThen_ok,hS];by_cases cz:m.toNat*te.size=0
  ·rw[if_pos cz];simp only[Sem.run_pure,Result.andThen_ok,newRow,Sem.run_bind,run_newObj];rw[cz];simp only[Qrb];simp
  ·rw[if_neg cz];simp only[Sem.run_bind,hZ,Sem.run_pure,Result.andThen_ok,newRow,run_newObj];simp
   congr 2;apply Array.ext';simp[Array.toList_range]
 ·have h:=VR.own (κ:=κ.put φ 0 ⟨w.heap.size,0,0,m.toNat,te.size⟩) (off:=0) (n:=n.toNat) (Kap.put_same κ φ 0 ⟨w.heap.size,0,0,m.toNat,te.size⟩) (Nat.le_refl _) (by simp;omega);simpa using h
end
end
section
variable [Lam]
structure Stored (w w':World) (b o:Nat) (vs:List Value):Prop where
 size:w'.heap.size=w.heap.size
 other:∀k,k≠b→w'.heap[k]? =w.heap[k]?
 cell:∀i,w'.cell? ⟨b,i,none⟩=if o≤i∧i<o+vs.length then some (vs.getD (i - o) undef) else w.cell? ⟨b,i,none⟩
 frozen:∀i,w'.frozen? ⟨b,i,none⟩=w.frozen? ⟨b,i,none⟩
 row:∀c e fz,w.heap[b]? =some (.cells c e fz)→∃c',w'.heap[b]? =some (.cells c' e fz)∧c'.size=c.size
 os:w'.os=w.os
 tape:w'.tape=w.tape
 output:w'.output=w.output
theorem Stored.nil (w:World) (b o:Nat):Stored w w b o []:=
 ⟨rfl,fun _ _=>rfl,fun i=>by rw[if_neg (by simp)],fun _=>rfl,fun c e fz h=>⟨c,h,rfl⟩,rfl,rfl,rfl⟩
theorem Qrc {P:Program} (vs:List Value):∀(w:World) (b o n:Nat),(∀j,j<vs.length→∃u,w.cell? ⟨b,o+n+j,none⟩=some u)→(∀j,j<vs.length→w.frozen? ⟨b,o+n+j,none⟩=false)→
  (∀v,v∈vs→v.oneCell'=true)→∃w',(storeCells ⟨b,o,none⟩ vs n).run P w= .ok () w'∧Stored w w' b (o+n) vs:=by
 induction vs with
 |nil=>intro w b o n _ _ _;exact ⟨w,rfl,Stored.nil ..⟩
 |cons v vs ih=>
  intro w b o n hc hf h1;obtain ⟨u,hu⟩:=hc 0 (by simp);have hf0:=hf 0 (by simp);simp only[Nat.add_zero] at hu hf0;have hst:(store ((⟨b,o,none⟩:Addr).add n) v).run P w= .ok () (w.setCell ⟨b,o+n,none⟩ v):=by
   rw[Jo,run_store P w _ v .plain (h1 v (by simp)),hu];simp[hf0]
  have hsame:(w.setCell ⟨b,o+n,none⟩ v).cell? ⟨b,o+n,none⟩=some v:=World.cell?_setCell_same _ _ _ hu;have hoth:∀i,i≠o+n→(w.setCell ⟨b,o+n,none⟩ v).cell? ⟨b,i,none⟩=w.cell? ⟨b,i,none⟩:=by
   intro i hi;apply World.cell?_setCell_other;intro h;exact hi (congrArg Addr.off h).symm
  obtain ⟨w',e,hs⟩:=ih (w.setCell ⟨b,o+n,none⟩ v) b o (n+1)
   (fun j hj=>by
    obtain ⟨u,hu⟩:=hc (j+1) (by simp;omega);refine ⟨u,?_⟩;rw[hoth _ (by omega),←hu];congr 2;omega)
   (fun j hj=>by rw[World.frozen?_setCell];have:=hf (j+1) (by simp;omega);rw[←this];congr 2;omega)
   (fun x hx=>h1 x (by simp[hx]))
  refine ⟨w',?_,?_⟩
  ·simp only[storeCells,Sem.run_bind,hst,Result.andThen_ok];exact e
  ·refine ⟨by rw[hs.size];simp,fun k hk=>?_,fun i=>?_,fun i=>by rw[hs.frozen,World.frozen?_setCell],fun c el fz h=>?_,hs.os,hs.tape,hs.output⟩
   ·rw[hs.other k hk,Below.heap_setCell _ _ _ _ hk]
   ·rw[hs.cell i];by_cases c:i=o+n
    ·subst c;rw[if_neg (by omega),hsame,if_pos (by simp)];simp
    ·rw[hoth i c];by_cases c2:o+(n+1)≤i∧i<o+(n+1)+vs.length
     ·rw[if_pos c2,if_pos (by simp;omega)];have:i - (o+n)=(i - (o+(n+1)))+1:=by omega
      rw[this];rfl
     ·rw[if_neg c2,if_neg (by simp;omega)]
   ·have h2:(w.setCell ⟨b,o+n,none⟩ v).heap[b]? =some (.cells (c.setIfInBounds (o+n) v) el fz):=by
     simp only[World.setCell,Array.getElem?_modify,↓reduceIte,h,Option.map_some];rfl
    obtain ⟨c',g1,g2⟩:=hs.row _ _ _ h2;exact ⟨c',g1,by rw[g2];simp⟩
def QL (σ:AH):AV→Option (List (List AV))
 | .ro es=>some es
 | .own φ st off n=>match σ φ with
  |some F=>if F.st=st∧off+n≤F.es.length then some ((F.es.drop off).take n) else none
  |none=>none
 | .vw φ st off n=>match σ φ with
  |some F=>if F.st=st∧off+n≤F.es.length then some ((F.es.drop off).take n) else none
  |none=>none
 | .emp=>some []
 | .val (.slice none 0 0)=>some []
 | .val (.string s)=>some (s.data.toList.map fun b=>[.val (.int .u8 b.toNat)])
 |_=>none
theorem Qfz {k n s:Nat} (hk:k<n*s):∃q m,q<n∧m<s∧q*s+m=k:=by
 have hspos:0<s:=Nat.pos_of_ne_zero (by rintro rfl;simp at hk);exact ⟨k / s,k % s,Nat.div_lt_of_lt_mul (by rw[Nat.mul_comm];exact hk),Nat.mod_lt _ hspos,by rw[Nat.mul_comm];exact Nat.div_add_mod ..⟩
theorem Qel {α:Type} {l:List α} {i:Nat} (h:i<l.length) (d:α):l.getD i d=l[i]:=by simp[List.getD,h]
theorem Ut {P:Program} {κ:Kap} {σ:AH} {w:World} (hr:Rel κ σ w) {x:AV} {v:Value} {xs:List (List AV)} {s:Nat} (h:VR κ x v) (e:QL σ x=some xs) (hs:∀c,c∈xs→c.length=s):
  (Builtin.lenOf v).run P w= .ok xs.length w∧∃new:List Value,RowR κ s xs new∧∀w',(∀b o u,w.cell? ⟨b,o,none⟩=some u→w'.cell? ⟨b,o,none⟩=some u)→(Builtin.firstCells s xs.length v).run P w'= .ok new.toArray w':=by
 have hs':∀i,i<xs.length→(xs.getD i []).length=s:=fun i hi=>hs _ (by rw[Qel hi];exact List.getElem_mem hi)
 cases h with
 |roEnd a=>
  obtain rfl:=Option.some.inj e;refine ⟨rfl,[],.nil κ s,fun w' _=>?_⟩;cases a with
  |none=>rfl
  |some a=>simp[Builtin.firstCells,loadCells,loadCellsFrom]
 |@ro xs b off cap sz vals hc hz hm hv=>
  obtain rfl:=Option.some.inj e;refine ⟨rfl,(List.range (xs.length*s)).map (fun k=>(w.cell? ⟨b,off+k,none⟩).getD undef),⟨by simp,hs',fun i j hi hj=>?_⟩,fun w' hw'=>?_⟩
  ·have hsz:sz=s:=by rw[←hz i hi,hs' i hi]
   subst hsz;have hlt:=Qdd hi hj;have h1:=hr.mem _ _ _ (hm i j hi hj);rw[Nat.add_assoc] at h1;have:((List.range (xs.length*sz)).map (fun k=>(w.cell? ⟨b,off+k,none⟩).getD undef)).getD (i*sz+j) undef=vals i j:=by
    simp[List.getD,hlt,h1]
   rw[this];exact hv i j hi hj
  ·have:=run_loadCells (P:=P) w' ⟨b,off,none⟩ (xs.length*s) (fun k=>(w.cell? ⟨b,off+k,none⟩).getD undef) (fun k hk=>?_)
   ·simpa[Builtin.firstCells] using this
   ·rw[Jo];obtain ⟨q,m,hi,hj,hk'⟩:=Qfz hk;have hsz:sz=s:=by rw[←hz _ hi,hs' _ hi]
    subst hsz;have h1:=hr.mem _ _ _ (hm _ _ hi hj);rw[Nat.add_assoc,hk'] at h1;rw[hw' _ _ _ h1,h1];rfl
 |@own φ st off n r hρ hlo hn=>
  simp only[QL] at e;split at e
  case h_2=>cases e
  rename_i F hF;split at e
  case isFalse=>cases e
  rename_i hc;obtain ⟨rfl,hle⟩:=hc;obtain rfl:=Option.some.inj e;have hlen:((F.es.drop off).take n).length=n:=by simp;omega
  obtain ⟨r',e1,_,H⟩:=hr.has φ F hF;rw[hρ] at e1;obtain rfl:=Option.some.inj e1;have hget:∀i,i<n→((F.es.drop off).take n).getD i []=F.es.getD (off+i) []:=fun i hi=>by rw[QbU _ _ _ _ hi,Qay]
  rw[hlen];refine ⟨rfl,(List.range (n*s)).map (fun k=>(w.cell? ⟨r.b,r.base+(off - r.lo)*r.sz+k,none⟩).getD undef),⟨by simp[hlen],hs',fun i j hi hj=>?_⟩,fun w' hw'=>?_⟩
  ·have hi':i<n:=by omega
   have hsz:r.sz=s:=by rw[H.sz,←H.esz (off+i) (by omega) (by omega),←hget i hi',hs' i hi]
   have hlt:=Qdd hi' hj;obtain ⟨u,h1,h2⟩:=H.cell (off+i) j (by omega) (by omega) (by rw[←H.sz,hsz];exact hj);have e2:r.base+(off+i - r.lo)*r.sz+j=r.base+(off - r.lo)*r.sz+(i*s+j):=by
    rw[show off+i - r.lo=(off - r.lo)+i by omega,Nat.add_mul,hsz];omega
   rw[e2] at h1;have:((List.range (n*s)).map (fun k=>(w.cell? ⟨r.b,r.base+(off - r.lo)*r.sz+k,none⟩).getD undef)).getD (i*s+j) undef=u:=by
    simp[List.getD,hlt,h1]
   rw[this,hget i hi'];exact h2
  ·have:=run_loadCells (P:=P) w' ⟨r.b,r.base+(off - r.lo)*r.sz,none⟩ (n*s) (fun k=>(w.cell? ⟨r.b,r.base+(off - r.lo)*r.sz+k,none⟩).getD undef) (fun k hk=>?_)
   ·simpa[Builtin.firstCells] using this
   ·rw[Jo];obtain ⟨q,m,hi,hj,hk'⟩:=Qfz hk;have hsz:r.sz=s:=by rw[H.sz,←H.esz (off+q) (by omega) (by omega),←hget _ hi,hs' _ (by omega)]
    obtain ⟨u,h1,h2⟩:=H.cell (off+q) m (by omega) (by omega) (by rw[←H.sz,hsz];exact hj);have e2:r.base+(off+q - r.lo)*r.sz+m=r.base+(off - r.lo)*r.sz+k:=by
     rw[show off+q - r.lo=(off - r.lo)+q by omega,Nat.add_mul,hsz];omega
    rw[e2] at h1;rw[hw' _ _ _ h1,h1];rfl
 |@vw φ st off n cap r hρ hlo hn=>
  simp only[QL] at e;split at e
  case h_2=>cases e
  rename_i F hF;split at e
  case isFalse=>cases e
  rename_i hc;obtain ⟨rfl,hle⟩:=hc;obtain rfl:=Option.some.inj e;have hlen:((F.es.drop off).take n).length=n:=by simp;omega
  obtain ⟨r',e1,_,H⟩:=hr.has φ F hF;rw[hρ] at e1;obtain rfl:=Option.some.inj e1;have hget:∀i,i<n→((F.es.drop off).take n).getD i []=F.es.getD (off+i) []:=fun i hi=>by rw[QbU _ _ _ _ hi,Qay]
  rw[hlen];refine ⟨rfl,(List.range (n*s)).map (fun k=>(w.cell? ⟨r.b,r.base+(off - r.lo)*r.sz+k,none⟩).getD undef),⟨by simp[hlen],hs',fun i j hi hj=>?_⟩,fun w' hw'=>?_⟩
  ·have hi':i<n:=by omega
   have hsz:r.sz=s:=by rw[H.sz,←H.esz (off+i) (by omega) (by omega),←hget i hi',hs' i hi]
   have hlt:=Qdd hi' hj;obtain ⟨u,h1,h2⟩:=H.cell (off+i) j (by omega) (by omega) (by rw[←H.sz,hsz];exact hj);have e2:r.base+(off+i - r.lo)*r.sz+j=r.base+(off - r.lo)*r.sz+(i*s+j):=by
    rw[show off+i - r.lo=(off - r.lo)+i by omega,Nat.add_mul,hsz];omega
   rw[e2] at h1;have:((List.range (n*s)).map (fun k=>(w.cell? ⟨r.b,r.base+(off - r.lo)*r.sz+k,none⟩).getD undef)).getD (i*s+j) undef=u:=by
    simp[List.getD,hlt,h1]
   rw[this,hget i hi'];exact h2
  ·have:=run_loadCells (P:=P) w' ⟨r.b,r.base+(off - r.lo)*r.sz,none⟩ (n*s) (fun k=>(w.cell? ⟨r.b,r.base+(off - r.lo)*r.sz+k,none⟩).getD undef) (fun k hk=>?_)
   ·simpa[Builtin.firstCells] using this
   ·rw[Jo];obtain ⟨q,m,hi,hj,hk'⟩:=Qfz hk;have hsz:r.sz=s:=by rw[H.sz,←H.esz (off+q) (by omega) (by omega),←hget _ hi,hs' _ (by omega)]
    obtain ⟨u,h1,h2⟩:=H.cell (off+q) m (by omega) (by omega) (by rw[←H.sz,hsz];exact hj);have e2:r.base+(off+q - r.lo)*r.sz+m=r.base+(off - r.lo)*r.sz+k:=by
     rw[show off+q - r.lo=(off - r.lo)+q by omega,Nat.add_mul,hsz];omega
    rw[e2] at h1;rw[hw' _ _ _ h1,h1];rfl
 |@ownEnd φ st off r a hρ hoff=>
  simp only[QL] at e;split at e
  case h_2=>cases e
  split at e
  case isFalse=>cases e
  obtain rfl:=Option.some.inj e;refine ⟨by simp[Builtin.lenOf],[],by simpa using RowR.nil κ s,fun w' _=>?_⟩;obtain ⟨ab,ao,as⟩:=a;simp[Builtin.firstCells,loadCells,loadCellsFrom]
 |emp a=>
  obtain rfl:=Option.some.inj e;refine ⟨rfl,[],.nil κ s,fun w' _=>?_⟩;cases a with
  |none=>rfl
  |some a=>simp[Builtin.firstCells,loadCells,loadCellsFrom]
 |val v=>
  unfold QL at e;split at e<;>first|(cases e;done)|skip
  ·rename_i hh;cases hh
  ·rename_i hh;cases hh
  ·rename_i hh;cases hh
  ·rename_i hh;cases hh
  ·rename_i hh;obtain rfl:=AV.val.inj hh;obtain rfl:=Option.some.inj e;exact ⟨rfl,[],.nil κ s,fun w' _=>rfl⟩
  ·rename_i st hh;obtain rfl:=AV.val.inj hh;obtain rfl:=Option.some.inj e;refine ⟨by simp[Builtin.lenOf],st.data.toList.map (fun b=> .int .u8 b.toNat),?_,fun w' _=>?_⟩
   ·refine ⟨?_,hs',fun i j hi hj=>?_⟩
    ·by_cases h0:st.data.toList.length=0
     ·simp[h0]
     ·have:=hs [.val (.int .u8 (st.data.toList[0]'(by omega)).toNat)] (by simp only[List.mem_map];exact ⟨_,List.getElem_mem _,rfl⟩);simp at this;simp[←this]
    ·have hi':i<st.data.toList.length:=by simpa using hi
     have e1:((st.data.toList.map fun b=>[AV.val (.int .u8 b.toNat)]).getD i [])=[AV.val (.int .u8 (st.data.toList[i]).toNat)]:=by
      rw[Qel (by simpa using hi')];simp
     have:=hs' i hi;rw[e1] at this;simp at this;subst this;obtain rfl:j=0:=by omega
     rw[e1];have e2:(st.data.toList.map (fun b=>Value.int .u8 b.toNat)).getD (i*1+0) undef= .int .u8 (st.data.toList[i]).toNat:=by
      rw[Qel (by simpa using hi')];simp
     rw[e2];exact .val _
   ·have hsz:st.size=st.data.size:=rfl;simp only[Builtin.firstCells,Sem.run_pure,List.length_map]
    congr 1
    have:st.extract 0 st.data.toList.length=st:=by
     have h:=ByteArray.extract_zero_size (b:=st);exact h
    rw[this];apply Array.ext';simp
 |_=>cases e
end
section
variable [Lam]
theorem Qsn {need old:Nat} (h:old<need):Builtin.nextslicecap need old≤2*need+1024:=by
 unfold Builtin.nextslicecap;split
 ·omega
 ·split
  ·omega
  ·simp only[Builtin.growBy]
   repeat' split
   all_goals omega
def QgU (T:Tab) (ats:Array TypeId) (s x:AV) (σ:AH) (k:AV→AH→Prop):Prop:=
 match ats[0]?,ats[1]? with
 |some t,some u=>match T t,T u,QL σ x with
  |some ti,some tu,some xs=>match ti.under,tu.under with
   |_,.int _=>False
   | .slice e,_=>match T e with
    |some te=>(∀c,c∈xs→c.length=te.size)∧te.bytes≤4096∧0<te.bytes∧match s with
     | .own φ st off n=>match σ φ with
      |some F=>F.st=st∧F.sz=te.size∧off+n≤F.es.length∧n+xs.length≤4294967296∧(∀c,c∈xs→∀y,y∈c→y.one=true)∧
       k (.own φ (if off+n+xs.length≤F.es.length then st else st+1) off (n+xs.length))
        (σ.set φ ⟨if off+n+xs.length≤F.es.length then st else st+1,F.sz,F.es.take (off+n)++xs++F.es.drop (off+n+xs.length)⟩)
      |none=>False
     | .emp=>xs.length≤4294967296∧(xs=[]→k .emp σ)∧(xs≠[]→∀φ,σ φ=none→k (.own φ 0 0 xs.length) (σ.set φ ⟨0,te.size,xs⟩))
     | .val (.slice none 0 0)=>xs.length≤4294967296∧(xs=[]→k (.val (.slice none 0 0)) σ)∧(xs≠[]→∀φ,σ φ=none→k (.own φ 0 0 xs.length) (σ.set φ ⟨0,te.size,xs⟩))
     |_=>False
    |none=>False
   |_,_=>False
  |_,_,_=>False
 |_,_=>False
section
variable {P:Program} {T:Tab} (hT:TabOk P T)
include hT
theorem QgV {w:World} {ats:Array TypeId} {t u e:TypeId} {ti tu te:TI} {rt:TypeId} {base:Option Addr} {sLen sCap:Nat} {xv:Value} {n:Nat} {old new:List Value}
  (h0:ats[0]? =some t) (h1:ats[1]? =some u) (ht:T t=some ti) (hu:T u=some tu) (hti:ti.under= .slice e) (htu:∀k,tu.under≠ .int k) (hte:T e=some te)
  (hlen:∀w,(Builtin.lenOf xv).run P w= .ok n w) (hneed:sCap<sLen+n) (hbound:sLen+n≤4294967296) (hb:te.bytes≤4096) (hb0:0<te.bytes)
  (hold:(Builtin.firstCells te.size sLen (.slice base sLen sCap)).run P w.drew= .ok old.toArray w.drew) (hnew:(Builtin.firstCells te.size n xv).run P w.drew= .ok new.toArray w.drew):
  ∃nc rest,sLen+n≤nc∧rest.length=(nc - (sLen+n))*te.size∧(Builtin.append_ ats rt #[.slice base sLen sCap,xv]).run P w= .ok (.slice (some ⟨w.heap.size,0,none⟩) (sLen+n) nc) (w.drew.alloc (.cells (old++new++rest).toArray e)):=by
 have hU:=fun w=>Qt (P:=P) hT w ht
 have hU2:=fun w=>Qt (P:=P) hT w hu
 simp only[hti] at hU;have hS:=fun w=>QM (P:=P) hT w hte
 have hZ:=fun w=>UE (P:=P) hT w hte
 have hzz:=hT.zsz e te hte;obtain ⟨inf,_,i2,i3,i4⟩:=hT.info e te hte;have hI:∀w,(Go.typeInfo e).run P w= .ok inf w:=fun w=>by
  obtain ⟨i',j1,_⟩:=hT.info e te hte;simp[Go.typeInfo,‹P.info? e=some inf›]
 have hnint:(match tu.under with| .int _=>true|_=>false)=false:=by
  cases hh:tu.under<;>first|rfl|exact absurd hh (htu _)
 let nc:=sLen+n+w.tape w.drawn (.appendCap (sLen+n) sCap e) % (2 ^ 63 - (sLen+n))
 refine ⟨nc,(Builtin.zeroCells te.zero.cells (nc - (sLen+n))).toList,Nat.le_add_right _ _,by simp[Builtin.zeroCells,hzz],?_⟩;have c1:¬(((sLen+n:Nat):Int)>IntKind.i64.max∧(False∨inf.bytes=0)):=by
  rintro ⟨_,h|h⟩
  ·exact h
  ·omega
 have c2:¬(Builtin.nextslicecap (sLen+n) sCap*inf.bytes>2 ^ 48):=by
  have a:=Qsn hneed;have:Builtin.nextslicecap (sLen+n) sCap*inf.bytes≤(2*4294967296+1024)*4096:=Nat.mul_le_mul (by omega) (by omega);omega
 have hneed':¬(sLen+n≤sCap):=by omega
 simp only[Builtin.append_,List.getElem?_toArray,List.getElem?_cons_zero,List.getElem?_cons_succ,h0,h1,Sem.run_bind,hU,Result.andThen_ok,hS,hU2,Sem.run_pure];simp only[Bool.false_eq_true,if_false,Sem.run_bind,hlen,Result.andThen_ok,hneed',hI,c1,c2,Bool.not_false,if_true,run_choose,run_askRoom,Question.forced,Question.cut,World.drew_eq,hold,hnew,hZ,newRow,run_newObj,Sem.run_pure,World.alloc_eq];simp[nc]
 congr 2;apply Array.ext';simp
theorem Qrd {w w':World} {ats:Array TypeId} {t u e:TypeId} {ti tu te:TI} {rt:TypeId} {a:Addr} {sLen sCap:Nat} {xv:Value} {n:Nat} {new:List Value}
  (h0:ats[0]? =some t) (h1:ats[1]? =some u) (ht:T t=some ti) (hu:T u=some tu) (hti:ti.under= .slice e) (htu:∀k,tu.under≠ .int k) (hte:T e=some te)
  (hlen:∀w,(Builtin.lenOf xv).run P w= .ok n w) (hneed:sLen+n≤sCap)
  (hnew:(Builtin.firstCells te.size n xv).run P w= .ok new.toArray w) (hst:(storeCells (a.add (sLen*te.size)) new).run P w= .ok () w'):
  (Builtin.append_ ats rt #[.slice (some a) sLen sCap,xv]).run P w= .ok (.slice (some a) (sLen+n) sCap) w':=by
 have hU:=fun w=>Qt (P:=P) hT w ht
 have hU2:=fun w=>Qt (P:=P) hT w hu
 simp only[hti] at hU;have hS:=fun w=>QM (P:=P) hT w hte
 simp only[Builtin.append_,List.getElem?_toArray,List.getElem?_cons_zero,List.getElem?_cons_succ,h0,h1,Sem.run_bind,hU,Result.andThen_ok,hS,hU2,Sem.run_pure];simp only[Bool.false_eq_true,if_false,Sem.run_bind,hlen,Result.andThen_ok,hneed,Bool.not_false,if_true,hnew,hst,Sem.run_pure]
theorem QdA {w:World} {ats:Array TypeId} {t u e:TypeId} {ti tu te:TI} {rt:TypeId} {base:Option Addr} {xv:Value}
  (h0:ats[0]? =some t) (h1:ats[1]? =some u) (ht:T t=some ti) (hu:T u=some tu) (hti:ti.under= .slice e) (htu:∀k,tu.under≠ .int k) (hte:T e=some te)
  (hlen:∀w,(Builtin.lenOf xv).run P w= .ok 0 w)
  (hnew:(Builtin.firstCells te.size 0 xv).run P w= .ok #[] w):
  (Builtin.append_ ats rt #[.slice base 0 0,xv]).run P w= .ok (.slice base 0 0) w:=by
 have hU:=fun w=>Qt (P:=P) hT w ht
 have hU2:=fun w=>Qt (P:=P) hT w hu
 simp only[hti] at hU;have hS:=fun w=>QM (P:=P) hT w hte
 simp only[Builtin.append_,List.getElem?_toArray,List.getElem?_cons_zero,List.getElem?_cons_succ,h0,h1,Sem.run_bind,hU,Result.andThen_ok,hS,hU2,Sem.run_pure];simp only[Bool.false_eq_true,if_false,Sem.run_bind,hlen,Result.andThen_ok,Nat.add_zero,Nat.le_refl,Bool.not_false,if_true,hnew];cases base<;>rfl
omit hT in
theorem QbV {κ:Kap} {σ:AH} {w:World} (hr:Rel κ σ w) {x:AV} {v:Value} {xs:List (List AV)} {s:Nat} (h:VR κ x v) (e:QL σ x=some xs) (hs:∀c,c∈xs→c.length=s):
  ∀w,(Builtin.lenOf v).run P w= .ok xs.length w:=by
 obtain ⟨h1,_⟩:=Ut (P:=P) hr h e hs;intro w1;cases v with
 |slice a n c=>simp[Builtin.lenOf] at h1 ⊢;exact h1
 |string s=>simp[Builtin.lenOf] at h1 ⊢;exact h1
 |_=>cases h1
theorem QdL {κ:Kap} {σ:AH} {w:World} (hr:Rel κ σ w) {ats:Array TypeId} {t u e:TypeId} {ti tu te:TI} {rt:TypeId} {φ off n sCap:Nat} {F:Fam} {base:Option Addr} {x:AV} {xv:Value} {xs:List (List AV)}
  (h0:ats[0]? =some t) (h1:ats[1]? =some u) (ht:T t=some ti) (hu:T u=some tu) (hti:ti.under= .slice e) (htu:∀k,tu.under≠ .int k) (hte:T e=some te)
  (hx:VR κ x xv) (hxs:QL σ x=some xs) (hsz:∀c,c∈xs→c.length=te.size) (hF:σ φ=some F) (hFs:F.sz=te.size) (hle:off+n≤F.es.length)
  (hv:VR κ (.own φ F.st off n) (.slice base n sCap)) (hneed:sCap<n+xs.length) (hbound:n+xs.length≤4294967296) (hb:te.bytes≤4096) (hb0:0<te.bytes) (hlo:∀r,κ.ρ φ F.st=some r→r.lo≤off):
  ∃v w' κ',(Builtin.append_ ats rt #[.slice base n sCap,xv]).run P w= .ok v w'∧
   Stp κ σ w κ' (σ.set φ ⟨F.st+1,F.sz,F.es.take (off+n)++xs⟩) w'∧VR κ' (.own φ (F.st+1) off (n+xs.length)) v:=by
 obtain ⟨r,hρ,hB,H⟩:=hr.has φ F hF;have hlo:=hlo r hρ;have hold:∀c,c∈((F.es.drop off).take n)→c.length=te.size:=by
  intro c hc;obtain ⟨i,hi,rfl⟩:=List.getElem_of_mem hc;have hi':i<n:=by simp at hi;omega
  have:=H.esz (off+i) (by omega) (by omega);rw[←hFs,←this];simp[List.getD,show off+i<F.es.length by omega]
 have ho:QL σ (.own φ F.st off n)=some ((F.es.drop off).take n):=by simp[QL,hF,hle]
 have hlen0:((F.es.drop off).take n).length=n:=by simp;omega
 obtain ⟨_,old,ro,fo⟩:=Ut (P:=P) hr hv ho hold;obtain ⟨_,new,rn,fn⟩:=Ut (P:=P) hr hx hxs hsz;rw[hlen0] at fo;obtain ⟨nc,rest,hnc,hrest,hrun⟩:=QgV (P:=P) hT (w:=w) (rt:=rt) h0 h1 ht hu hti htu hte (QbV hr hx hxs hsz) hneed hbound hb hb0 (fo w.drew (fun _ _ _ h=>h)) (fn w.drew (fun _ _ _ h=>h));have hrd:=(Stp.drew hr).rel;have key:=Stp.row hrd (φ:=φ) (st:=F.st+1) (s:=te.size) (lo:=off) (cap:=nc) (pre:=F.es.take off) (old++new) rest e
  (hr.up φ F _ hF (Nat.lt_succ_self _)) (fun t ht=>hr.up φ F t hF (by omega)) (fun h=>by rw[hF] at h;cases h) (by simp;omega)
  (ro.append rn) (by simp;omega)
  (by
   rw[List.length_append,ro.len,rn.len,hrest,hlen0,Nat.sub_mul,←Nat.add_mul];have:(n+xs.length)*te.size≤nc*te.size:=Nat.mul_le_mul_right _ hnc;omega)
 refine ⟨_,_,κ.put φ (F.st+1) ⟨w.drew.heap.size,0,off,nc,te.size⟩,hrun,?_,?_⟩
 ·have e1:F.es.take (off+n)++xs=F.es.take off++((F.es.drop off).take n++xs):=by
   rw[←List.append_assoc,List.take_add]
  rw[e1,hFs];exact (Stp.drew hr).trans key
 ·have h:=VR.own (κ:=κ.put φ (F.st+1) ⟨w.drew.heap.size,0,off,nc,te.size⟩) (off:=off) (n:=n+xs.length) (Kap.put_same κ φ (F.st+1) ⟨w.drew.heap.size,0,off,nc,te.size⟩) (Nat.le_refl _) (by simp;omega);simpa using h
theorem QnA {κ:Kap} {σ:AH} {w:World} (hr:Rel κ σ w) {ats:Array TypeId} {t u e:TypeId} {ti tu te:TI} {rt:TypeId} {φ off n st':Nat} {F:Fam} {r:Reg} {x:AV} {xv:Value} {xs:List (List AV)}
  (h0:ats[0]? =some t) (h1:ats[1]? =some u) (ht:T t=some ti) (hu:T u=some tu) (hti:ti.under= .slice e) (htu:∀k,tu.under≠ .int k) (hte:T e=some te)
  (hx:VR κ x xv) (hxs:QL σ x=some xs) (hsz:∀c,c∈xs→c.length=te.size) (hone:∀c,c∈xs→∀y,y∈c→y.one=true) (hF:σ φ=some F) (hFs:F.sz=te.size) (hle:off+n≤F.es.length)
  (hρ:κ.ρ φ F.st=some r) (hlo:r.lo≤off) (hneed:off+n+xs.length≤r.lo+r.cap)
  (hst:st'=F.st∨st'=F.st+1):
  ∃w',(Builtin.append_ ats rt #[.slice (some ⟨r.b,r.base+(off - r.lo)*r.sz,none⟩) n (r.lo+r.cap - off),xv]).run P w= .ok (.slice (some ⟨r.b,r.base+(off - r.lo)*r.sz,none⟩) (n+xs.length) (r.lo+r.cap - off)) w'∧
   Stp κ σ w (κ.put φ st' r) (σ.set φ ⟨st',F.sz,F.es.take (off+n)++xs++F.es.drop (off+n+xs.length)⟩) w':=by
 obtain ⟨r',e1,hB,H⟩:=hr.has φ F hF;rw[hρ] at e1;obtain rfl:=Option.some.inj e1;have hrs:r.sz=te.size:=by rw[H.sz,hFs]
 obtain ⟨_,new,rn,fn⟩:=Ut (P:=P) hr hx hxs hsz;obtain ⟨c,el,fz,hh,hcs⟩:=H.row
 -- where the new cells lie
 have hin:∀i,i<xs.length→∀j,j<te.size→r.base+(off+n+i - r.lo)*r.sz+j<r.base+r.cap*r.sz:=by
  intro i hi j hj;have:=Qdd (n:=r.cap) (s:=r.sz) (i:=off+n+i - r.lo) (j:=j) (by omega) (by omega);omega
 have hpos:∀k,k<new.length→∃i j,i<xs.length∧j<te.size∧i*te.size+j=k:=by
  intro k hk;rw[rn.len] at hk;exact Qfz hk
 have haddr:∀i j,r.base+(off - r.lo)*r.sz+n*te.size+(i*te.size+j)=r.base+(off+n+i - r.lo)*r.sz+j:=by
  intro i j;rw[show off+n+i - r.lo=(off - r.lo)+n+i by omega,Nat.add_mul,Nat.add_mul,hrs];omega
 obtain ⟨w',hrun,S⟩:=Qrc (P:=P) new w r.b (r.base+(off - r.lo)*r.sz+n*te.size) 0
  (fun k hk=>by
   obtain ⟨i,j,hi,hj,rfl⟩:=hpos k hk;have:=hin i hi j hj;refine ⟨c[r.base+(off+n+i - r.lo)*r.sz+j]'(by omega),?_⟩;rw[Nat.add_zero,haddr];simp only[World.cell?,hh];simp[show r.base+(off+n+i - r.lo)*r.sz+j<c.size by omega])
  (fun k hk=>by
   obtain ⟨i,j,hi,hj,rfl⟩:=hpos k hk;rw[Nat.add_zero,haddr];exact H.free _ (hin i hi j hj))
  (fun v hv=>by
   obtain ⟨k,hk,rfl⟩:=List.getElem_of_mem hv;obtain ⟨i,j,hi,hj,e⟩:=hpos k hk;have:=rn.get i j hi hj;rw[e,Qel hk] at this;have hl:j<(xs.getD i []).length:=by rw[rn.esz i hi];exact hj
   refine Qub (hone (xs.getD i []) (by rw[Qel hi];exact List.getElem_mem hi) _ ?_) this;rw[Qel hl];exact List.getElem_mem hl)
 refine ⟨w',?_,?_⟩
 ·refine Qrd (P:=P) hT h0 h1 ht hu hti htu hte (QbV hr hx hxs hsz) (by omega) (fn w (fun _ _ _ h=>h)) ?_;rw[Jo];exact hrun
 ·have hlenes:(F.es.take (off+n)++xs++F.es.drop (off+n+xs.length)).length≤r.lo+r.cap:=by
   have:=H.len;simp;omega
  have hE:Ext κ (κ.put φ st' r):=by
   rcases hst with rfl|rfl
   ·rw[Kap.put_self hρ];exact .refl κ
   ·exact Kap.put_ext r (hr.up φ F _ hF (Nat.lt_succ_self _))
  have hg:∀i,(F.es.take (off+n)++xs++F.es.drop (off+n+xs.length)).getD i []=
    if i<off+n then F.es.getD i [] else if i<off+n+xs.length then xs.getD (i - (off+n)) [] else F.es.getD i []:=by
   intro i;have h1:(F.es.take (off+n)).length=off+n:=by simp;omega
   simp only[List.getD,List.append_assoc,List.getElem?_append,h1];by_cases c1:i<off+n
   ·simp[c1]
   ·by_cases c2:i<off+n+xs.length
    ·simp[c1,c2,show i - (off+n)<xs.length by omega]
    ·simp only[c1,c2,if_false,show ¬i - (off+n)<xs.length by omega,List.getElem?_drop]
     congr 2;omega
  refine Stp.turn (F':=⟨st',F.sz,F.es.take (off+n)++xs++F.es.drop (off+n+xs.length)⟩) hr ?_ (fun s hs=>hr.up φ F s hF (by have hs':st'<s:=hs;rcases hst with rfl|rfl<;>omega)) (.inl ⟨F,r,hF,hρ,rfl⟩) (by rw[S.size];exact Nat.le_refl _) (fun b _ hb=>S.other b hb) S.os S.tape S.output ⟨H.sz,hlenes,?_,?_,?_,?_⟩
  ·rcases hst with rfl|rfl
   ·exact .inr hρ
   ·exact .inl (hr.up φ F _ hF (Nat.lt_succ_self _))
  ·obtain ⟨c',g1,g2⟩:=S.row _ _ _ hh;exact ⟨c',el,fz,g1,by rw[g2];exact hcs⟩
  ·intro o ho;rw[S.frozen];exact H.free o ho
  ·intro i hi hil;simp only[hg];split
   ·exact H.esz i hi (by omega)
   ·split
    ·rw[rn.esz _ (by omega),hFs]
    ·refine H.esz i hi ?_;simp at hil;omega
  ·intro i j hi hil hj;have hj':j<r.sz:=by rw[H.sz];exact hj
   simp only[hg];rw[S.cell,Nat.add_zero];by_cases c2:off+n≤i∧i<off+n+xs.length
   ·have hr1:=rn.get (i - (off+n)) j (by omega) (by omega);have e2:=haddr (i - (off+n)) j;rw[show off+n+(i - (off+n)) - r.lo=i - r.lo by omega] at e2;have hlt:=Qdd (n:=xs.length) (s:=te.size) (i:=i - (off+n)) (j:=j) (by omega) (by omega);rw[if_pos (by rw[rn.len];omega),if_neg (by omega),if_pos (by omega)];refine ⟨_,rfl,?_⟩;rw[show r.base+(i - r.lo)*r.sz+j - (r.base+(off - r.lo)*r.sz+n*te.size)=(i - (off+n))*te.size+j by omega];exact hr1.mono hE
   ·have hil':i<F.es.length:=by simp at hil;omega
    obtain ⟨u,g1,g2⟩:=H.cell i j hi hil' hj;have hne:¬(r.base+(off - r.lo)*r.sz+n*te.size≤r.base+(i - r.lo)*r.sz+j∧r.base+(i - r.lo)*r.sz+j<r.base+(off - r.lo)*r.sz+n*te.size+new.length):=by
     rintro ⟨a1,a2⟩;obtain ⟨i',j',hi',hj2,e⟩:=hpos (r.base+(i - r.lo)*r.sz+j - (r.base+(off - r.lo)*r.sz+n*te.size)) (by omega);have e3:=haddr i' j';have:=Qq8 (s:=r.sz) (a:=i - r.lo) (b:=off+n+i' - r.lo) (j:=j) (k:=j') hj' (by omega) (by omega);omega
    rw[if_neg hne];refine ⟨u,g1,?_⟩;by_cases c3:i<off+n
    ·rw[if_pos c3];exact g2.mono hE
    ·rw[if_neg c3,if_neg (by omega)];exact g2.mono hE
theorem Qtt {κ:Kap} {σ:AH} {w:World} (hr:Rel κ σ w) {ats:Array TypeId} {rt:TypeId} {s x:AV} {sv xv:Value} {k:AV→AH→Prop} (hs:VR κ s sv) (hx:VR κ x xv) (e:QgU T ats s x σ k):
  ∃v w' κ' σ' y,(Builtin.append_ ats rt #[sv,xv]).run P w= .ok v w'∧k y σ'∧Stp κ σ w κ' σ' w'∧VR κ' y v:=by
 unfold QgU at e;split at e
 case h_2=>exact e.elim
 rename_i t u h0 h1;split at e
 case h_2=>exact e.elim
 rename_i ti tu xs ht hu hxs;split at e
 ·exact e.elim
 case h_3=>exact e.elim
 rename_i d1 d2 el hti hnot;have htu:∀k,tu.under≠ .int k:=fun k hk=>hnot _ hk
 split at e
 case h_2=>exact e.elim
 rename_i te hte;obtain ⟨hsz,hb,hb0,e⟩:=e
 -- out of nothing
 have nothing:∀(base:Option Addr),xs≠[]→xs.length≤4294967296→(∀φ,σ φ=none→k (.own φ 0 0 xs.length) (σ.set φ ⟨0,te.size,xs⟩))→
   ∃v w' κ' σ' y,(Builtin.append_ ats rt #[.slice base 0 0,xv]).run P w= .ok v w'∧k y σ'∧Stp κ σ w κ' σ' w'∧VR κ' y v:=by
  intro base hne hbd hk;have hpos:0<xs.length:=List.length_pos_iff.mpr hne;obtain ⟨_,new,rn,fn⟩:=Ut (P:=P) hr hx hxs hsz;have f0:(Builtin.firstCells te.size 0 (.slice base 0 0)).run P w.drew= .ok ([]:List Value).toArray w.drew:=by
   cases base with
   |none=>rfl
   |some a=>simp[Builtin.firstCells,loadCells,loadCellsFrom]
  obtain ⟨nc,rest,hnc,hrest,hrun⟩:=QgV (P:=P) hT (w:=w) (rt:=rt) (sLen:=0) (sCap:=0) h0 h1 ht hu hti htu hte (QbV hr hx hxs hsz) (by omega) (by omega) hb hb0 f0 (fn w.drew (fun _ _ _ h=>h));have hrd:=(Stp.drew hr).rel;obtain ⟨φ,g0,g1⟩:=hrd.newId;have key:=Stp.row hrd (φ:=φ) (st:=0) (s:=te.size) (lo:=0) (cap:=nc) (pre:=[]) new rest el (g1 0) (fun t _=>g1 t) (fun _=>g1) rfl rn (by omega)
   (by rw[rn.len,hrest,Nat.sub_mul];have:(0+xs.length)*te.size≤nc*te.size:=Nat.mul_le_mul_right _ hnc;simp only[Nat.zero_add] at this ⊢;omega)
  refine ⟨_,_,κ.put φ 0 ⟨w.drew.heap.size,0,0,nc,te.size⟩,_,_,hrun,hk φ g0,(Stp.drew hr).trans (by simpa using key),?_⟩;have h:=VR.own (κ:=κ.put φ 0 ⟨w.drew.heap.size,0,0,nc,te.size⟩) (off:=0) (n:=xs.length) (Kap.put_same κ φ 0 ⟨w.drew.heap.size,0,0,nc,te.size⟩) (Nat.le_refl _) (by simp;omega);simpa using h
 split at e
 ·rename_i φ st off n;split at e
  case h_2=>exact e.elim
  rename_i F hF;obtain ⟨rfl,hFs,hle,hbd,hone,hk⟩:=e;obtain ⟨r,hρ,hB,H⟩:=hr.has φ F hF;cases hs with
  |@own _ _ _ _ r' hρ' hlo hn=>
   rw[hρ] at hρ';obtain rfl:=Option.some.inj hρ';by_cases hin:off+n+xs.length≤r.lo+r.cap
   ·obtain ⟨w',hrun,hst⟩:=QnA (P:=P) hT (rt:=rt) hr h0 h1 ht hu hti htu hte hx hxs hsz hone hF hFs hle hρ hlo hin (st':=if off+n+xs.length≤F.es.length then F.st else F.st+1) (by split<;>simp);refine ⟨_,w',_,_,_,hrun,hk,hst,?_⟩;exact VR.own (κ:=κ.put φ _ r) (Kap.put_same ..) hlo (by omega)
   ·have hnot:¬(off+n+xs.length≤F.es.length):=by have:=H.len;omega
    rw[if_neg hnot] at hk;obtain ⟨v,w',κ',hrun,hst,hv⟩:=QdL (P:=P) hT (rt:=rt) hr h0 h1 ht hu hti htu hte hx hxs hsz hF hFs hle (.own hρ hlo hn) (by omega) hbd hb hb0 (fun r' h'=>by rw[hρ] at h';obtain rfl:=Option.some.inj h';exact hlo);rw[List.drop_eq_nil_of_le (by omega),List.append_nil] at hk;exact ⟨v,w',κ',_,_,hrun,hk,hst,hv⟩
  |@ownEnd _ _ _ r' a hρ' hoff=>
   rw[hρ] at hρ';obtain rfl:=Option.some.inj hρ';have hFl:F.es.length=off:=by have:=H.len;omega
   by_cases hx0:xs=[]
   ·subst hx0;obtain ⟨_,new,rn,fn⟩:=Ut (P:=P) hr hx hxs hsz;have hn0:new=[]:=by have:=rn.len;simpa using this
    subst hn0;have:=QdA (P:=P) hT (w:=w) (rt:=rt) (base:=some a) h0 h1 ht hu hti htu hte (QbV hr hx hxs hsz) (fn w (fun _ _ _ h=>h));simp only[List.length_nil,Nat.add_zero,hFl,Nat.le_refl,if_true,List.append_nil] at hk;have e3:F.es.take off++F.es.drop off=F.es:=List.take_append_drop off F.es;rw[e3] at hk;refine ⟨_,w,κ,_,_,this,hk,?_,.ownEnd hρ hoff⟩;rw[AH.set_self (by rw[hF])];exact .refl hr
   ·have hpos:0<xs.length:=List.length_pos_iff.mpr hx0;have hnot:¬(off+0+xs.length≤F.es.length):=by omega
    rw[if_neg hnot] at hk;obtain ⟨v,w',κ',hrun,hst,hv⟩:=QdL (P:=P) hT (rt:=rt) hr h0 h1 ht hu hti htu hte hx hxs hsz hF hFs hle (.ownEnd hρ hoff) (by omega) hbd hb hb0 (fun r' h'=>by rw[hρ] at h';obtain rfl:=Option.some.inj h';omega);rw[List.drop_eq_nil_of_le (by omega),List.append_nil] at hk;exact ⟨v,w',κ',_,_,hrun,hk,hst,hv⟩
 ·obtain ⟨hbd,k1,k2⟩:=e;cases hs with
  |emp a=>
   by_cases hx0:xs=[]
   ·subst hx0;obtain ⟨_,new,rn,fn⟩:=Ut (P:=P) hr hx hxs hsz;have hn0:new=[]:=by have:=rn.len;simpa using this
    subst hn0;exact ⟨_,w,κ,_,_,QdA (P:=P) hT (w:=w) (rt:=rt) h0 h1 ht hu hti htu hte (QbV hr hx hxs hsz) (fn w (fun _ _ _ h=>h)),k1 rfl,.refl hr,.emp _⟩
   ·exact nothing a hx0 hbd (k2 hx0)
 ·obtain ⟨hbd,k1,k2⟩:=e;cases hs;by_cases hx0:xs=[]
  ·subst hx0;obtain ⟨_,new,rn,fn⟩:=Ut (P:=P) hr hx hxs hsz;have hn0:new=[]:=by have:=rn.len;simpa using this
   subst hn0;exact ⟨_,w,κ,_,_,QdA (P:=P) hT (w:=w) (rt:=rt) h0 h1 ht hu hti htu hte (QbV hr hx hxs hsz) (fn w (fun _ _ _ h=>h)),k1 rfl,.refl hr,.val _⟩
  ·exact nothing none hx0 hbd (k2 hx0)
 ·exact e.elim
end
end
end Go.Proofs.YtggnjjalfnhiiaaGreatDoor.E

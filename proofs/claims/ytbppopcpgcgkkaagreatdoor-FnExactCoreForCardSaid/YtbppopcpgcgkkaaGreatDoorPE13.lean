import Derived.Test.YtbppopcpgcgkkaaGreatDoorPE12
import Derived.Shelf.Strings.IndexAnyAll
import Derived.Lib.OthersKept
import Derived.Laws.RangeAny
import Derived.Shelf.Small.Utf8
import Derived.Laws.Runes
import Derived.WalkMore
import Derived.Handy
import Derived.Shelf.RegionOpenPlain
import Derived.Laws.Strings3
import Derived.Test.YtbppopcpgcgkkaaGreatDoorRows
import Derived.LaidLaws
import Derived.Lib.LaidU8
import Derived.Shelf.Vars
import Derived.Tactics
import Derived.Lib.Join
import Derived.Shelf.Strings.OnBuilder
import Derived.Test.YtbppopcpgcgkkaaGreatDoorProg
/- strings.IndexRune at a rune that is none of ASCII, in a text that is. -/
set_option linter.unusedSectionVars false
set_option linter.unusedSimpArgs false
set_option linter.unusedVariables false
namespace Go.Proofs.YtbppopcpgcgkkaaGreatDoor.E
open Go Go.Proofs Go.Shelf Go.RowKit Go.Lib
variable {P:Program} {ρ:Ren}
theorem below_iter (w:World) (s:ByteArray) (i:Nat):Below w.heap.size w (w.iter s i):=by
 refine ⟨rfl,rfl,rfl,?_,fun b hb=>?_⟩
 ·show w.heap.size≤(w.heap.push _).size
  rw [Array.size_push];omega
 ·show (w.heap.push _)[b]? =w.heap[b]?
  rw [Array.getElem?_push]
  split
  ·omega
  ·rfl
set_option maxHeartbeats 8000000 in
set_option maxRecDepth 1000000 in
theorem rune_err (L:Lays.n152 P ρ) (s:ByteArray) (w:World) (hascii:∀(j:Nat) b,s.data.toList[j]? =some b→b.toNat<128):
  Calls P (ρ.f 152) #[.string s,.int .i32 65533] w fun e w'=>e= .returned (.int .i64 (-1))∧Below w.heap.size w w':=by
 have HA:Aside (∀(j:Nat) b,s.data.toList[j]? =some b→b.toNat<128):=hascii
 clear hascii
 have t3:=L.t3;have a3:=L.a3;have z3:=L.z3;have v3:=L.v3
 have t4:=L.t4;have a4:=L.a4;have z4:=L.z4;have v4:=L.v4
 have t5:=L.t5;have a5:=L.a5;have z5:=L.z5;have v5:=L.v5
 have t9:=L.t9;have a9:=L.a9;have z9:=L.z9;have v9:=L.v9
 have t21:=L.t21;have a21:=L.a21;have z21:=L.z21;have v21:=L.v21
 go_enter L.f152,Body.n152_ntmps ρ
 go_wp2
 go_loopg [5,6] s.size (fun g _ _ wx=>∃i:Nat,i+g=s.size∧wx=w.iter s i)
 case atStart=>exact ⟨0,by omega,rfl⟩
 case round=>
  obtain ⟨i,hig,rfl⟩:=hrel
  cases gk with
  |zero=>
   obtain rfl:i=s.size:=by omega
   have hnx:=run_next_end (P:=P) w s s.size
   go_wp2
   go_ret
   exact ⟨rfl,below_iter _ _ _⟩
  |succ g=>
   have hi:i<s.size:=by omega
   obtain ⟨x,hx⟩:∃x:UInt8,s[i]'hi=x:=⟨_,rfl⟩
   have hxl:s.data.toList[i]? =some x:=by rw [←hx];exact Lib.data_getElem? s i hi
   have hx128:x.toNat<128:=HA.out i x hxl
   have hnx:=fun ty=>run_next_ascii (P:=P) w s i ty hi (by rw [hx];exact hx128)
   rw [hx] at hnx
   clear hxl hx
   have hne:((x.toNat:Int)==65533)=false:=beq_eq_false_iff_ne.2 (by omega)
   go_wp2
   go_roundg g
   case measure=>omega
   case rel=>exact ⟨i+1,by omega,rfl⟩
set_option maxHeartbeats 8000000 in
set_option maxRecDepth 1000000 in
theorem rune_bad (L:Lays.n152 P ρ) (s:ByteArray) (r:Int) (w:World) (h1:128≤r) (h2:(r==65533)=false) (h3:Lib.validRune r=false):
  Calls P (ρ.f 152) #[.string s,.int .i32 r] w fun e w'=>e= .returned (.int .i64 (-1))∧Below w.heap.size w w':=by
 have t3:=L.t3;have a3:=L.a3;have z3:=L.z3;have v3:=L.v3
 have t4:=L.t4;have a4:=L.a4;have z4:=L.z4;have v4:=L.v4
 have t5:=L.t5;have a5:=L.a5;have z5:=L.z5;have v5:=L.v5
 have t9:=L.t9;have a9:=L.a9;have z9:=L.z9;have v9:=L.v9
 have t21:=L.t21;have a21:=L.a21;have z21:=L.z21;have v21:=L.v21
 have e119:∀args w,(callFunc (ρ.f 119) args).run P w= .ok (.enter (ρ.f 119) args) w:=enters_of L.f119 (by kernel_rfl) rfl
 have hlt:decide (r<128)=false:=decide_eq_false (by omega)
 go_enter L.f152,Body.n152_ntmps ρ
 go_wp2_with (go_at_fn (ρ.f 119);refine (Any.utf8_ValidRune {L with} _ _).mono ?_;rintro e w' ⟨rfl,hw⟩;rw [hw,h3])
 go_ret
 exact ⟨rfl,.refl _ _⟩
theorem enc_last {r:Int} (h1:128≤r):∃(n:Nat) (y:UInt8),(Utf8.encode r).size=n+2∧n≤2∧(Utf8.encode r).data.toList[n+1]? =some y∧128≤y.toNat:=by
 have key:∀c:Nat,128≤(UInt8.ofNat (128+c % 64)).toNat:=fun c=>by rw [UInt8.toNat_ofNat'];omega
 unfold Utf8.encode
 simp only
 generalize hc:(if Utf8.valid r=true then r.toNat else Utf8.runeError)=c
 have h0:¬c<128:=by
  rw [←hc];split
  ·omega
  ·decide
 rw [if_neg h0]
 split
 ·exact ⟨0,_,rfl,by omega,rfl,key c⟩
 split
 ·exact ⟨1,_,rfl,by omega,rfl,key c⟩
 ·exact ⟨2,_,rfl,by omega,rfl,key c⟩
theorem indexByte_no {c:UInt8}:∀l:List UInt8,(∀x,x∈l→x≠c)→Lib.indexByte l c= -1:=by
 intro l
 induction l with
 |nil=>intro _;rfl
 |cons x r ih=>
  intro h
  have h1:=ih fun y hy=>h y (List.mem_cons_of_mem _ hy)
  have h2:(x==c)=false:=beq_eq_false_iff_ne.2 (h x (.head _))
  unfold Lib.indexByte
  simp [h2,h1]
set_option maxHeartbeats 8000000 in
set_option maxRecDepth 1000000 in
theorem rune_far (L:Lays.n152 P ρ) (s:ByteArray) (r:Int) (w:World) (hsz:4≤s.size) (hmax:s.size≤1000) (hascii:∀(j:Nat) b,s.data.toList[j]? =some b→b.toNat<128) (h1:128≤r) (h2:(r==65533)=false) (h3:Lib.validRune r=true):
  Calls P (ρ.f 152) #[.string s,.int .i32 r] w fun e w'=>e= .returned (.int .i64 (-1))∧Below w.heap.size w w':=by
 have HA:Aside (∀(j:Nat) b,s.data.toList[j]? =some b→b.toNat<128):=hascii
 clear hascii
 obtain ⟨n,y,en,hn,ey,hy⟩:=enc_last h1
 generalize hrs:Utf8.encode r=rs at en ey
 have t3:=L.t3;have a3:=L.a3;have z3:=L.z3;have v3:=L.v3
 have t4:=L.t4;have a4:=L.a4;have z4:=L.z4;have v4:=L.v4
 have t5:=L.t5;have a5:=L.a5;have z5:=L.z5;have v5:=L.v5
 have t9:=L.t9;have a9:=L.a9;have z9:=L.z9;have v9:=L.v9
 have t21:=L.t21;have a21:=L.a21;have z21:=L.z21;have v21:=L.v21
 have e119:∀args w,(callFunc (ρ.f 119) args).run P w= .ok (.enter (ρ.f 119) args) w:=enters_of L.f119 (by kernel_rfl) rfl
 have e137:∀args w,(callFunc (ρ.f 137) args).run P w= .ok (.enter (ρ.f 137) args) w:=enters_of L.f137 (by kernel_rfl) rfl
 have hlt:decide (r<128)=false:=decide_eq_false (by omega)
 go_enter L.f152,Body.n152_ntmps ρ
 go_wp2_with (go_at_fn (ρ.f 119);refine (Any.utf8_ValidRune {L with} _ _).mono ?_;rintro e w' ⟨rfl,hw⟩;rw [hw,h3])
 subst hw
 have cv:∀w,(convert (ρ.t 21) (ρ.t 9) (.int .i32 r)).run P w= .ok (.string rs) w:=fun w=>by rw [←hrs];exact run_convert_int_string w _ _ _ _ (by rw [t21];rfl) t9
 refine wp_scope_straight ?_
 go_wp2
 have e1:((n:Int)+2 - 1)=((n+1:Nat):Int):=by omega
 simp only [e1]
 have hi:n+1<s.size:=by omega
 obtain ⟨x,hx⟩:∃x:UInt8,s[n+1]'hi=x:=⟨_,rfl⟩
 have hxl:s.data.toList[n+1]? =some x:=by rw [←hx];exact Lib.data_getElem? s (n+1) hi
 have hx128:x.toNat<128:=HA.out (n+1) x hxl
 have hir:n+1<rs.size:=by omega
 have hyr:rs[n+1]'hir=y:=by
  have:=Lib.data_getElem? rs (n+1) hir
  rw [ey] at this
  exact (Option.some.inj this).symm
 have hlt2:decide (((n+1:Nat):Int)<(s.size:Int))=true:=decide_eq_true (by omega)
 have hne:((x.toNat:Int)==(y.toNat:Int))=false:=beq_eq_false_iff_ne.2 (by omega)
 have hback:((y.toNat:Int)).toNat.toUInt8=y:=by simp
 have hib:∀a b,Lib.indexByte (s.extract a b).data.toList ((y.toNat:Int)).toNat.toUInt8= -1:=fun a b=>by
  rw [hback]
  refine indexByte_no _ fun z hz=>?_
  rw [ByteArray.data_extract,Array.toList_extract,List.extract_eq_take_drop] at hz
  obtain ⟨k,hk⟩:=List.getElem?_of_mem (List.mem_of_mem_drop (List.mem_of_mem_take hz))
  have:=HA.out k z hk
  rintro rfl
  omega
 refine wp_loop_rounds 1 ?_
 rw [rounds_succ]
 go_wp2
 refine wp_scope_straight ?_
 go_wp2
 have r1:∀w,(Instr.index (ρ.t 9) (.string s) (.int .i64 ((n+1:Nat):Int))).run P w= .ok (.int .u8 (x.toNat:Int)) w:=fun w=>by
  rw [run_index_string _ _ _ _ _ t9,dif_pos (by omega)]
  have:((n+1:Nat):Int).toNat=n+1:=by omega
  simp only [this,hx]
 have r2:∀w,(Instr.index (ρ.t 9) (.string rs) (.int .i64 ((n+1:Nat):Int))).run P w= .ok (.int .u8 (y.toNat:Int)) w:=fun w=>by
  rw [run_index_string _ _ _ _ _ t9,dif_pos (by omega)]
  have:((n+1:Nat):Int).toNat=n+1:=by omega
  simp only [this,hyr]
 have r3:∀w,(Instr.slice (ρ.t 9) (.string s) (some (.int .i64 (((n+1:Nat):Int)+1))) none none).run P w= .ok (.string (s.extract (n+2) s.size)) w:=fun w=>by
  rw [run_slice_string_l _ _ _ t9 _ _ (by omega) (by omega)]
  have:(((n+1:Nat):Int)+1).toNat=n+2:=by omega
  rw [this]
 have r3':∀w,(Instr.slice (ρ.t 9) (.string s) (some (.int .i64 ((n:Int)+1+1))) none none).run P w= .ok (.string (s.extract (n+2) s.size)) w:=fun w=>by
  have:=r3 w
  rwa [show (((n+1:Nat):Int)+1)=(n:Int)+1+1 by omega] at this
 have hw1:IntKind.i64.wrap ((n:Int)+1+1)=(n:Int)+1+1:=by
  rcases (by omega:n=0∨n=1∨n=2) with h|h|h<;>rw [h]<;>decide
 have hw2:IntKind.i64.wrap (((n+1:Nat):Int)+1)=((n+1:Nat):Int)+1:=by
  rcases (by omega:n=0∨n=1∨n=2) with h|h|h<;>rw [h]<;>decide
 have hz1:(0:Int)≤((n+1:Nat):Int)+1:=by omega
 have hz2:((n+1:Nat):Int)+1≤(s.size:Int):=by omega
 have mixed:=L.mixed
 go_region_o
 go_wp2
 go_region_with_o (refine (Any.strings_IndexByte {L with} _ _ _).mono ?_;rintro e w'' ⟨rfl,hw2⟩;rw [hw2,hib])
 go_wp2
 simp only [Exit.inBlock,Exit.then,Exit.noGoto]
 go_ret
 exact ⟨rfl,.drew (.drew (.refl _ _))⟩
theorem rune_all (L:Lays.n152 P ρ) (s:ByteArray) (r:Int) (w:World) (hsz:4≤s.size) (hmax:s.size≤1000) (hascii:∀(j:Nat) b,s.data.toList[j]? =some b→b.toNat<128) (h1:128≤r):
  Calls P (ρ.f 152) #[.string s,.int .i32 r] w fun e w'=>e= .returned (.int .i64 (-1))∧Below w.heap.size w w':=by
 by_cases h:r=65533
 ·subst h;exact rune_err L s w hascii
 ·have h2:(r==65533)=false:=beq_eq_false_iff_ne.2 h
  cases h3:Lib.validRune r with
  |true=>exact rune_far L s r w hsz hmax hascii h1 h2 h3
  |false=>exact rune_bad L s r w h1 h2 h3
end Go.Proofs.YtbppopcpgcgkkaaGreatDoor.E
/- strings.IndexAny: ASCII bytes in any text. -/
namespace Go.Proofs.YtbppopcpgcgkkaaGreatDoor.E
open Go Go.Proofs Go.Shelf Go.RowKit Go.Lib
variable {P:Program} {ρ:Ren}
theorem get!_eq {s:ByteArray} {i:Nat} (h:i<s.size):s.get! i=s[i]:=by
 show s.data[i]! =_
 rw [getElem!_pos s.data i h];rfl
theorem decode_far {s:ByteArray} {i:Nat} (hi:i<s.size) (h:128≤(s[i]'hi).toNat):128≤(Utf8.decode s i).1∧1≤(Utf8.decode s i).2∧i+(Utf8.decode s i).2≤s.size∧∀j,i≤j→j<i+(Utf8.decode s i).2→∀hj:j<s.size,128≤(s[j]'hj).toNat:=by
 have c1:∀k,(decide (i+k<s.size)&&(s.get! (i+k)).toNat / 64==2)=true→i+k<s.size∧128≤(s.get! (i+k)).toNat:=fun k hk=>by
  simp only [Bool.and_eq_true,decide_eq_true_iff,beq_iff_eq] at hk
  exact ⟨hk.1,by omega⟩
 have base:∀d,(∀k,k<d→i+k<s.size∧128≤(s.get! (i+k)).toNat)→∀j,i≤j→j<i+d→∀hj:j<s.size,128≤(s[j]'hj).toNat:=fun d hd j h1 h2 hj=>by
  have:=(hd (j - i) (by omega)).2
  rw [show i+(j - i)=j by omega,get!_eq hj] at this
  exact this
 have h0:i+0<s.size∧128≤(s.get! (i+0)).toNat:=⟨hi,by rw [Nat.add_zero,get!_eq hi];exact h⟩
 have one:∀k,k<1→i+k<s.size∧128≤(s.get! (i+k)).toNat:=fun k hk=>by
  have e:k=0:=by omega
  rw [e];exact h0
 have er:128≤Utf8.runeError∧1≤1∧i+1≤s.size∧∀j,i≤j→j<i+1→∀hj:j<s.size,128≤(s[j]'hj).toNat:=⟨by decide,by omega,by omega,base 1 one⟩
 unfold Utf8.decode
 simp only
 rw [if_neg (by have:=h0.2;omega)]
 split
 ·rename_i k1
  rw [Bool.and_eq_true] at k1
  have a1:=c1 1 k1.2
  split
  ·rename_i g
   refine ⟨g,by omega,by omega,base 2 fun k hk=>?_⟩
   match k,hk with
   |0,_=>exact h0
   |1,_=>exact a1
  ·exact er
 split
 ·rename_i k1
  rw [Bool.and_eq_true,Bool.and_eq_true] at k1
  have a1:=c1 1 k1.1.2
  have a2:=c1 2 k1.2
  split
  ·rename_i g
   rw [Bool.and_eq_true,decide_eq_true_iff] at g
   refine ⟨by have:=g.1;dsimp only;omega,by omega,by omega,base 3 fun k hk=>?_⟩
   match k,hk with
   |0,_=>exact h0
   |1,_=>exact a1
   |2,_=>exact a2
  ·exact er
 split
 ·rename_i k1
  rw [Bool.and_eq_true,Bool.and_eq_true,Bool.and_eq_true] at k1
  have a1:=c1 1 k1.1.1.2
  have a2:=c1 2 k1.1.2
  have a3:=c1 3 k1.2
  split
  ·rename_i g
   rw [Bool.and_eq_true,decide_eq_true_iff] at g
   refine ⟨by have:=g.1;dsimp only;omega,by omega,by omega,base 4 fun k hk=>?_⟩
   match k,hk with
   |0,_=>exact h0
   |1,_=>exact a1
   |2,_=>exact a2
   |3,_=>exact a3
  ·exact er
 ·exact er
theorem iter_at (w:World) (s:ByteArray) (i:Nat):(w.iter s i).heap[w.heap.size]? =some (.stringIter s i):=by
 show (w.heap.push _)[w.heap.size]? =_
 rw [Array.getElem?_push,if_pos rfl]
theorem noAny_more {s chars:ByteArray} {i d:Nat} (hno:Lib.NoAny s.data.toList chars.data.toList i) (hc:∀(j:Nat) b,chars.data.toList[j]? =some b→b.toNat<128) (hd:∀j,i≤j→j<i+d→∀hj:j<s.size,128≤(s[j]'hj).toNat):Lib.NoAny s.data.toList chars.data.toList (i+d):=by
 intro j b hj hb
 by_cases c:j<i
 ·exact hno j b c hb
 ·have hjs:j<s.size:=by
   have:=(List.getElem?_eq_some_iff.1 hb).1
   rw [Lib.size_eq];exact this
  have h1:=hd j (by omega) hj hjs
  have h2:s.data.toList[j]? =some (s[j]'hjs):=Lib.data_getElem? s j hjs
  rw [hb] at h2
  obtain rfl:=Option.some.inj h2
  cases hcon:chars.data.toList.contains (s[j]'hjs) with
  |false=>rfl
  |true=>
   have:=List.contains_iff_mem.1 hcon
   obtain ⟨k,hk⟩:=List.getElem?_of_mem this
   have:=hc k _ hk
   omega
set_option maxHeartbeats 8000000 in
set_option maxRecDepth 1000000 in
theorem indexAny_short (L:Lays.n153 P ρ) (s chars:ByteArray) (w:World) (h2:4≤chars.size) (hcm:chars.size≤1000) (h8:s.size≤8) (hascii:∀(j:Nat) b,chars.data.toList[j]? =some b→b.toNat<128):
  Calls P (ρ.f 153) #[.string s,.string chars] w fun e w'=>e= .returned (.int .i64 (Lib.indexAny s.data.toList chars.data.toList))∧Below w.heap.size w w':=by
 have HA:Aside (∀(j:Nat) b,chars.data.toList[j]? =some b→b.toNat<128):=hascii
 clear hascii
 have hemp:chars.toList.isEmpty=false:=by
  rw [Lib.toList_data]
  cases h:chars.data.toList with
  |nil=>have:=Lib.size_eq chars;rw [h,List.length_nil] at this;omega
  |cons _ _=>rfl
 have hn1:((chars.size:Int)==1)=false:=beq_eq_false_iff_ne.2 (by omega)
 have h8z:decide ((8:Int)<(s.size:Int))=false:=decide_eq_false (by omega)
 have t3:=L.t3;have a3:=L.a3;have z3:=L.z3;have v3:=L.v3
 have t4:=L.t4;have a4:=L.a4;have z4:=L.z4;have v4:=L.v4
 have t5:=L.t5;have a5:=L.a5;have z5:=L.z5;have v5:=L.v5
 have t9:=L.t9;have a9:=L.a9;have z9:=L.z9;have v9:=L.v9
 have t21:=L.t21;have a21:=L.a21;have z21:=L.z21;have v21:=L.v21
 have e152:∀args w,(callFunc (ρ.f 152) args).run P w= .ok (.enter (ρ.f 152) args) w:=enters_of L.f152 (by kernel_rfl) rfl
 have e226:∀args w,(callFunc (ρ.f 226) args).run P w= .ok (.enter (ρ.f 226) args) w:=enters_of L.f226 (by kernel_rfl) rfl
 go_enter L.f153,Body.n153_ntmps ρ
 go_wp2_with (go_at_fn (ρ.f 226);refine (Any.strings_shouldUseASCIISet {L with} _ _).mono ?_;rintro e w' ⟨rfl,hw⟩;rw [hw,h8z])
 go_loopg [9,10] s.size (fun g _ _ wx=>∃i:Nat,i+g=s.size∧wx.heap[w.heap.size]? =some (.stringIter s i)∧Below w.heap.size w wx∧Lib.NoAny s.data.toList chars.data.toList i)
 case atStart=>exact ⟨0,by omega,iter_at _ _ _,below_iter _ _ _,Lib.NoAny.zero _ _⟩
 case round=>
  obtain ⟨i,hig,hk,hbel,hno⟩:=hrel
  have HN:Aside (Lib.NoAny s.data.toList chars.data.toList i):=hno
  clear hno
  by_cases hi:i<s.size
  ·obtain ⟨x,hx⟩:∃x:UInt8,s[i]'hi=x:=⟨_,rfl⟩
   have hxl:s.data.toList[i]? =some x:=by rw [←hx];exact Lib.data_getElem? s i hi
   by_cases hx128:x.toNat<128
   ·have hnx:=fun ty=>run_next_ascii_at (P:=P) wr w.heap.size s i ty hk hi (by rw [hx];exact hx128)
    rw [hx] at hnx
    have Hx:Aside (s.data.toList[i]? =some x):=hxl
    have hk':=iterAt_heap wr w.heap.size s i (i+1) hk
    have hbel':=below_iterAt hbel (Nat.le_refl _) s (i+1)
    generalize wr.iterAt w.heap.size s (i+1)=wy at hnx hk' hbel'
    clear hxl hx
    have hcon:=Lib.contains_iff_indexByte chars.data.toList x
    have hback:((x.toNat:Int)).toNat.toUInt8=x:=by simp
    cases hin:chars.data.toList.contains x
    ·rw [hin] at hcon
     have hlt:¬((0:Int)≤Lib.indexByte chars.data.toList x):=of_decide_eq_false hcon.symm
     clear hcon
     go_wp2_with (go_at_fn (ρ.f 152);refine (Any.strings_IndexRune_ascii {L with} _ _ _ (by omega) (by omega)).mono ?_;rintro e w' ⟨rfl,hw⟩;rw [hw,hback])
     go_roundg (s.size - (i+1))
     case measure=>omega
     case rel=>exact ⟨i+1,by omega,hk',hbel',HN.out.succ Hx.out hin⟩
    ·rw [hin] at hcon
     have hge:(0:Int)≤Lib.indexByte chars.data.toList x:=of_decide_eq_true hcon.symm
     clear hcon
     go_wp2_with (go_at_fn (ρ.f 152);refine (Any.strings_IndexRune_ascii {L with} _ _ _ (by omega) (by omega)).mono ?_;rintro e w' ⟨rfl,hw⟩;rw [hw,hback])
     go_ret
     exact ⟨by rw [Lib.indexAny_hit HN.out Hx.out hin];rfl,hbel'⟩
   ·have hD:=decode_far hi (by rw [hx];omega)
    have hnx:=fun ty=>run_next_any_at (P:=P) wr w.heap.size s i ty hk hi
    generalize Utf8.decode s i=D at hD hnx
    obtain ⟨r,d⟩:=D
    obtain ⟨d1,d2,d3,d4⟩:=hD
    dsimp only at d1 d2 d3 d4 hnx
    have hk':=iterAt_heap wr w.heap.size s i (i+d) hk
    have hbel':=below_iterAt hbel (Nat.le_refl _) s (i+d)
    generalize wr.iterAt w.heap.size s (i+d)=wy at hnx hk' hbel'
    have hno':Aside (Lib.NoAny s.data.toList chars.data.toList (i+d)):=noAny_more HN.out HA.out d4
    have cR:=rune_all {L with} chars (r:Int) wy h2 hcm HA.out (by omega)
    clear d4 hxl hx hx128
    go_wp2_with (go_at_fn (ρ.f 152);refine cR.mono ?_;rintro e w' ⟨rfl,hw⟩)
    go_roundg (s.size - (i+d))
    case measure=>omega
    case rel=>
     have hlt:w.heap.size<wy.heap.size:=(Array.getElem?_eq_some_iff.1 hk').1
     exact ⟨i+d,by omega,by rw [hw.block _ hlt];exact hk',hbel'.trans (hw.mono hbel'.size),hno'.out⟩
  ·obtain rfl:i=s.size:=by omega
   have hnx:=fun ty=>run_next_end_at (P:=P) wr w.heap.size s s.size ty hk hi
   go_wp2
   go_ret
   exact ⟨by rw [Lib.indexAny_none (by rw [←Lib.size_eq];exact HN.out)];rfl,hbel⟩
end Go.Proofs.YtbppopcpgcgkkaaGreatDoor.E
/- ParseNum, strings.Cut, IndexByte and IndexAny as calls in abstract values. -/
namespace Go.Proofs.YtbppopcpgcgkkaaGreatDoor.E
open Go Go.RowKit
set_option maxRecDepth 100000
def QS (w:World):Prop:=NumW w∧∃m:Int,w.cell? ⟨0,0,none⟩=some (.int .i64 m)
variable [L:Lam] [K:Knows QS]
theorem QS_at {κ:Kap} {σ:AH} {w:World} (hr:Rel κ σ w):QS w:=by
 obtain ⟨⟨h1,m,h2⟩,hB⟩:=K.knows κ hr.kp
 exact ⟨h1.below hr.bel hB,m,cell_below h2 hr.bel hB⟩
variable {σ:AH} {R:AEnd→AH→Prop}
theorem c_impl_ParseNum {s:ByteArray} (hs:s.size≤1048576) (h:R (.ret (.agg [iv (numP s).2,iv (numP s).1])) σ):acall TP fn_impl_ParseNum [str s] σ R:=by
 refine ⟨_,Tryz.func132,rfl,by decide,fun κ w vs hr hv=>?_⟩
 obtain ⟨v,rfl⟩:∃v,vs=[v]:=by
  have:=hv.1
  match vs,this with
  |[a],_=>exact ⟨a,rfl⟩
 have e1:v= .string s:=by have h:VR κ (str s) v:=hv.2 0 (by simp);cases h;rfl
 subst e1
 refine (w_ParseNum s (by omega) w (QS_at hr).1).mono ?_
 rintro e w' ⟨rfl,hw⟩
 refine ⟨κ,_,σ,h,.below hr hw,?_⟩
 show VR κ (.agg [iv (numP s).2,iv (numP s).1]) (.agg [Value.int .i64 (numP s).2,Value.int .i64 (numP s).1].toArray)
 refine .agg rfl fun i hi=>?_
 match i,hi with
 |0,_=>exact .val _
 |1,_=>exact .val _
theorem below_drewN (w:World) (n:Nat):Below w.heap.size w (w.drewN n):=⟨rfl,rfl,rfl,Nat.le_refl _,fun _ _=>rfl⟩
theorem c_strings_Cut {l p:List UInt8} (hl:l.length≤1048576) (h:R (.ret (.tup [str (bs (Lib.cut l p).1),str (bs (Lib.cut l p).2.1),bv (Lib.cut l p).2.2])) σ):acall TP fn_strings_Cut [str (bs l),str (bs p)] σ R:=by
 refine acall_valA (fn:=_) (v:= .tuple #[.string (bs (Lib.cut l p).1),.string (bs (Lib.cut l p).2.1),.bool (Lib.cut l p).2.2]) Tryz.func84 rfl (by decide) vals_two (fun κ=>?_) h fun κ w hr=>?_
 ·show VR κ (.tup _) (.tuple [Value.string (bs (Lib.cut l p).1),.string (bs (Lib.cut l p).2.1),.bool (Lib.cut l p).2.2].toArray)
  refine .tup rfl fun i hi=>?_
  match i,hi with
  |0,_=>exact .val _
  |1,_=>exact .val _
  |2,_=>exact .val _
 ·obtain ⟨m,hm⟩:=(QS_at hr).2
  refine (sh_strings_Cut (bs l) (bs p) m w (by rw [size_bs];omega) hm).mono ?_
  rintro e w' ⟨rfl,n,rfl⟩
  exact ⟨by simp,below_drewN w n⟩
theorem c_strings_IndexByte {l:List UInt8} {c:UInt8} (h:R (.ret (iv (Lib.indexByte l c))) σ):acall TP fn_strings_IndexByte [str (bs l),u8v (c.toNat:Nat)] σ R:=by
 refine acall_val (fn:=_) Tryz.func85 rfl (by decide) vals_two h fun κ w hr=>(sh_strings_IndexByte (bs l) (c.toNat:Nat) w).mono ?_
 rintro e w' ⟨rfl,rfl⟩
 exact ⟨by simp,.refl _ _⟩
theorem zero186:(Tryz.prog.info? 186).map (fun i=>(i.zero,i.size))=some (some (.agg (Array.replicate 256 (.bool false))),256):=by kernel_rfl
theorem c_strings_IndexAny {l p:List UInt8} (hl:l.length≤1048576) (h4:4≤p.length) (hp:p.length≤1000) (ha:∀c,c∈p→c.toNat<128) (h:R (.ret (iv (Lib.indexAny l p))) σ):acall TP fn_strings_IndexAny [str (bs l),str (bs p)] σ R:=by
 have hasc:∀(j:Nat) b,(bs p).data.toList[j]? =some b→b.toNat<128:=fun j b hb=>ha b (by simpa using List.mem_of_getElem? hb)
 refine acall_val (fn:=_) Tryz.func86 rfl (by decide) vals_two h fun κ w hr=>?_
 by_cases c:8<l.length
 ·refine (sh_strings_IndexAny_long (zero_of_info zero186).1 (bs l) (bs p) w (by rw [size_bs];omega) (by rw [size_bs];omega) (by rw [size_bs];omega) (by rw [size_bs];omega) hasc).mono ?_
  rintro e w' ⟨rfl,rfl⟩
  exact ⟨by simp,.alloc (.alloc (.refl _ _) (Nat.le_refl _) _) (by simp) _⟩
 ·refine (indexAny_short lays153 (bs l) (bs p) w (by rw [size_bs];omega) (by rw [size_bs];omega) (by rw [size_bs];omega) hasc).mono ?_
  rintro e w' ⟨rfl,hw⟩
  exact ⟨by simp,hw⟩
end Go.Proofs.YtbppopcpgcgkkaaGreatDoor.E
/- What a row's condition tells of the first world. -/
namespace Go.Proofs.YtbppopcpgcgkkaaGreatDoor.E
open Go Go.RowKit
set_option maxRecDepth 100000
theorem tab_of {P:Program} {W:World} {name:String} {k:IntKind} {zs:List Int} {g:Nat} {t e:TypeId} {n:Nat}
  (hg:P.globalNamed name=some g) (hty:(P.globals[g]?).map (·.type)=some t) (ht:P.underlying t=some (.array n e)) (he:P.underlying e=some (.int k)) (hce:P.cellsOf e=1) (hct:P.cellsOf t=n)
  (h:Lib.VarReads P W name (Lib.tabData k zs)):Lib.TabIs P W name k zs:=by
 obtain ⟨g',t',cs,fuel,p,hg',ht',hvar,hd⟩:=h
 obtain rfl:=Option.some.inj (hg.symm.trans hg')
 obtain rfl:=Option.some.inj (hty.symm.trans ht')
 unfold Lib.TabIs
 rw [hvar,←Lib.cells_of_tab ht he hce hct hd]
theorem err_of {P:Program} {W:World} {name nm:String} {d:DataW Unit} {g:Nat} {t:TypeId} {ms:Array (String × TypeId)}
  (hg:P.globalNamed name=some g) (hty:(P.globals[g]?).map (·.type)=some t) (ht:P.underlying t=some (.interface ms))
  (h:Lib.VarReads P W name (.iface nm d)):∃ev,W.cell? ⟨g,0,none⟩=some ev∧(ev= .nilIface∨∃te pe,ev= .iface te pe):=by
 obtain ⟨g',t',cs,fuel,p,hg',ht',hvar,hd⟩:=h
 obtain rfl:=Option.some.inj (hg.symm.trans hg')
 obtain rfl:=Option.some.inj (hty.symm.trans ht')
 obtain ⟨_,u,v,e,_,_⟩:=iface_of_trod ht hd
 refine ⟨.iface u v,?_,.inr ⟨u,v,rfl⟩⟩
 have:=World.var?_cell hg hvar 0
 rw [this]
 have e2:cs=#[.iface u v]:=by rw [←e]
 rw [e2]
 rfl
theorem QS_of {W : World} {l : List (String × DataW Unit)} (hl : laidMet Tryz.prog l W) (h1 : ("internal/strconv.uint64pow10", Rows.laid_internal_strconv_uint64pow10) ∈ l)
  (h2 : ("strconv.ErrSyntax", Rows.laid_strconv_ErrSyntax) ∈ l) (h3 : ("strconv.ErrRange", Rows.laid_strconv_ErrRange) ∈ l) (hs : W.ShapedOpen Tryz.prog) : QS W := by
 refine ⟨⟨?_,?_,?_⟩,?_⟩
 ·exact tab_of (g:=1) (t:=236) (e:=222) (n:=20) (by kernel_rfl) (by kernel_rfl) Tryz.underlying236 Tryz.underlying222 (by kernel_rfl) (by kernel_rfl) (Lib.laidMet.reads hl h1)
 ·exact err_of (g:=2) (t:=162) (by kernel_rfl) (by kernel_rfl) Tryz.underlying162 (Lib.laidMet.reads hl h2)
 ·exact err_of (g:=3) (t:=162) (by kernel_rfl) (by kernel_rfl) Tryz.underlying162 (Lib.laidMet.reads hl h3)
 ·exact cell_of_shapedOpen_int (P:=Tryz.prog) (g:=0) (t:=3) (zero:=#[.int .i64 0]) hs (of_decide_eq_true (by kernel_rfl)) (by kernel_rfl) rfl (by kernel_rfl) (by kernel_rfl) Tryz.underlying3
end Go.Proofs.YtbppopcpgcgkkaaGreatDoor.E
/- Copies of arguments that are owned. -/
namespace Go.Proofs.YtbppopcpgcgkkaaGreatDoor.E
open Go Go.RowKit
variable [L:Lam]
variable {σ τ:AH} {R:AEnd→AH→Prop}
theorem Fz.move {σ0 σ1 τ':AH} {a b:AV} (h:Fz σ0 τ a b) (h0:∀φ,σ0 φ=none→σ1 φ=none) (hm:∀φ F,σ0 φ=none→τ φ=some F→τ' φ=some F):Fz σ1 τ' a b:=by
 induction h with
 |same a=>exact .same a
 |agg hl h ih=>exact .agg hl ih
 |tup hl h ih=>exact .tup hl ih
 |own hF hz hst hl hn hs h ih=>exact .own (hm _ _ hz hF) (h0 _ hz) hst hl hn hs ih
 |ro hn hz h ih=>exact .ro hn hz ih
 |ptr hF hz hst hi hlen hc h ih=>exact .ptr (hm _ _ hz hF) (h0 _ hz) hst hi hlen hc ih
 |emp=>exact .emp
 |nil=>exact .nil
end Go.Proofs.YtbppopcpgcgkkaaGreatDoor.E
/- Code that is owned: lists of blocks, of operations, of data, each in a family of its own. -/
namespace Go.Proofs.YtbppopcpgcgkkaaGreatDoor.E
open Go Go.RowKit
set_option maxRecDepth 100000
def famL:AV→List Nat
 | .own φ _ _ _=>[φ]
 |_=>[]
theorem famL_mem {a:AV} {ψ:Nat}:ψ∈famL a↔Buf.fam a ψ:=by
 constructor
 ·intro h
  cases a with
  |own φ st off n=>
   obtain rfl:ψ=φ:=by simpa [famL] using h
   exact ⟨st,off,n,rfl⟩
  |_=>simp [famL] at h
 ·rintro ⟨st,off,n,rfl⟩
  simp [famL]
section
variable [L:Lam]
variable {σ τ τ':AH} {R:AEnd→AH→Prop}
theorem buf_keep {sz:Nat} {a:AV} {es:List (List AV)} (h:Buf τ sz a es) (k:∀ψ,ψ∈famL a→τ' ψ=τ ψ):Buf τ' sz a es:=h.keep fun ψ hf=>k ψ (famL_mem.2 hf)
theorem buf_live {sz:Nat} {a:AV} {es:List (List AV)} (h:Buf τ sz a es) {ψ:Nat} (hm:ψ∈famL a):∃F,τ ψ=some F:=h.fam_some (famL_mem.1 hm)
theorem buf_own {sz:Nat} {a:AV} {es:List (List AV)} (h:Buf τ sz a es) (hn:es≠[]):∃φ st,a= .own φ st 0 es.length∧τ φ=some ⟨st,sz,es⟩:=by
 rcases h with ⟨_,e⟩|h
 ·exact absurd e hn
 ·exact h
theorem fz_row {sz:Nat} {a:AV} {es fs:List (List AV)} (h:Buf τ sz a es) (h0:∀ψ,ψ∈famL a→σ ψ=none) (hl:fs.length=es.length) (hz:∀c,c∈fs→c.length=sz)
  (hc:∀i j,i<es.length→j<sz→Fz σ τ ((es.getD i []).getD j .any) ((fs.getD i []).getD j .any)):Fz σ τ a (.ro fs):=by
 rcases h with ⟨e1,e⟩|⟨φ,st,rfl,hF⟩
 ·subst e
  have:fs=[]:=List.length_eq_zero_iff.1 hl
  subst this
  rcases e1 with rfl|rfl
  ·exact .nil
  ·exact .emp
 ·refine .own hF (h0 φ (by simp [famL])) rfl (by simp) hl (fun i hi=>?_) (fun i j hi hj=>?_)
  ·have hi':i<fs.length:=by omega
   have e:fs.getD i []=fs[i]:=by simp [List.getD,hi']
   rw [e];exact hz _ (List.getElem_mem hi')
  ·rw [Nat.zero_add];exact hc i j hi hj
theorem nodup_app {a b:List Nat}:(a++b).Nodup↔a.Nodup∧b.Nodup∧∀x,x∈a→x∉b:=by
 rw [List.nodup_append]
 constructor
 ·rintro ⟨h1,h2,h3⟩
  exact ⟨h1,h2,fun x hx hb=>h3 x hx x hb rfl⟩
 ·rintro ⟨h1,h2,h3⟩
  exact ⟨h1,h2,fun x hx y hy e=>h3 x hx (e▸hy)⟩
theorem famL_nodup (a:AV):(famL a).Nodup:=by cases a<;>simp [famL]
end
end Go.Proofs.YtbppopcpgcgkkaaGreatDoor.E
/- Marks, each known: what a law writes into code that is owned. -/
namespace Go.Proofs.YtbppopcpgcgkkaaGreatDoor.E
open Go Go.RowKit
set_option maxRecDepth 100000
section
variable [L:Lam]
variable {σ τ τ':AH} {R:AEnd→AH→Prop}
theorem sto_at {φ st sz off i:Nat} {pre post:List (List AV)} {r:List AV} {v:AV} {k:AH→Prop} (hp:pre.length=i) (ho:off<sz) (h1:v.one=true) (h:k (τ.set φ ⟨st,sz,pre++r.set off v::post⟩)):
  sto 1 (.ptr φ st i off) v (τ.set φ ⟨st,sz,pre++r::post⟩) k:=by
 refine sto_fld (cs:=r) (AH.set_same ..) (by simp [←hp]) ho (acells_one h1) h1 ?_
 have e:(pre++r::post).set i (r.set off v)=pre++r.set off v::post:=by subst hp;simp
 rw [AH.set_set,e]
 exact h
theorem buf_len {sz:Nat} {a:AV} {es:List (List AV)} (h:Buf τ sz a es):lenS a=some (iv (es.length:Int)):=by
 rcases h with ⟨rfl|rfl,rfl⟩|⟨φ,st,rfl,_⟩<;>rfl
end
end Go.Proofs.YtbppopcpgcgkkaaGreatDoor.E
/- Code that is owned: growing; copies that the program makes. -/
namespace Go.Proofs.YtbppopcpgcgkkaaGreatDoor.E
open Go Go.RowKit
set_option maxRecDepth 100000
variable [L:Lam]
variable {σ τ τ':AH} {R:AEnd→AH→Prop}
def isSl (T:Tab) (t:TypeId):Bool:=match T t with
 |some ti=>match ti.under with| .slice _=>true|_=>false
 |none=>false
theorem eql_ro {T:Tab} {t:TypeId} {es:List (List AV)} {k:AV→Prop} (hu:isSl T t=true) (h:∀b:Bool,(es≠[]→b=false)→k (bv b)):abin T .eql t (.ro es) (.val (.slice none 0 0)) k:=by
 unfold isSl at hu
 split at hu
 case h_2=>cases hu
 rename_i ti ht
 split at hu
 case h_2=>cases hu
 rename_i e he
 unfold abin aeql
 simp only [ht,he]
 exact h
def Kp (F:List Nat) (τ τ':AH):Prop:=∀ψ,ψ∉F→τ ψ≠none→τ' ψ=τ ψ
theorem Kp.refl (F:List Nat) (τ:AH):Kp F τ τ:=fun _ _ _=>rfl
theorem Kp.of_sub {F:List Nat} (h:AH.Sub τ τ'):Kp F τ τ':=fun ψ _ hn=>by
 cases e:τ ψ with
 |none=>exact absurd e hn
 |some G=>exact h _ _ e
theorem Kp.sub {F:List Nat} (h:Kp F τ τ') (hs:AH.Sub σ τ) (hf:∀ψ,ψ∈F→σ ψ=none):AH.Sub σ τ':=fun ψ G hG=>by
 have h1:=hs _ _ hG
 rw [h ψ (fun c=>by rw [hf ψ c] at hG;cases hG) (by rw [h1];simp),h1]
theorem live_ne {ψ:Nat} (h:∃F,τ ψ=some F):τ ψ≠none:=by obtain ⟨F,e⟩:=h;rw [e];simp
theorem Kp.buf {F:List Nat} {sz:Nat} {a:AV} {es:List (List AV)} (k:Kp F τ τ') (h:Buf τ sz a es) (hd:∀ψ,ψ∈famL a→ψ∉F):Buf τ' sz a es:=buf_keep h fun ψ hψ=>k ψ (hd ψ hψ) (live_ne (buf_live h hψ))
theorem buf_app {sz:Nat} {a x:AV} {es xs:List (List AV)} {k:AV→AH→Prop} (h:Buf τ sz a es) (hx:aelems τ x=some xs) (hs:∀c,c∈xs→c.length=sz) (ho:∀c,c∈xs→∀y,y∈c→y.one=true) (hn:es.length+xs.length≤4294967296)
  (hk:∀a' τ',Buf τ' sz a' (es++xs)→Kp (famL a) τ τ'→(∀ψ,ψ∈famL a'→ψ∈famL a∨τ ψ=none)→k a' τ'):app sz a x τ k:=
 h.app hx hs ho hn fun a' τ' h1 h2 h3 _=>hk a' τ' h1 (fun ψ hψ hn=>h2 ψ (fun c=>hψ (famL_mem.2 c)) hn) fun ψ hψ=>(h3 ψ (famL_mem.1 hψ)).imp famL_mem.2 id
theorem bsl1 {sz:Nat} {z row:List AV} {x:AV} {k:AV→AH→Prop} (he:afillS sz [z] [(0,x)]=some [row]) (hs:sz≤16777216) (h:∀ψ,τ ψ=none→k (.own ψ 0 0 1) (τ.set ψ ⟨0,sz,[row]⟩)):bsl sz z 1 [(0,x)] τ k:=by
 unfold bsl
 have e:List.replicate 1 z=[z]:=rfl
 rw [e,he]
 exact ⟨by omega,by rw [if_neg (by decide)];exact h⟩
theorem bsl0 {sz:Nat} {z:List AV} {k:AV→AH→Prop} (h:k .emp τ):bsl sz z 0 [] τ k:=⟨by omega,by rw [if_pos rfl];exact h⟩
theorem ael1 {ψ sz:Nat} {row:List AV}:aelems (τ.set ψ ⟨0,sz,[row]⟩) (.own ψ 0 0 1)=some [row]:=by simp [aelems]
end Go.Proofs.YtbppopcpgcgkkaaGreatDoor.E
/- Code that is owned: the program's copy. -/
namespace Go.Proofs.YtbppopcpgcgkkaaGreatDoor.E
open Go Go.RowKit
set_option maxRecDepth 100000
variable [L:Lam]
variable {σ τ τ':AH} {R:AEnd→AH→Prop}
theorem Buf.av1 {sz:Nat} {a:AV} {es:List (List AV)} (h:Buf τ sz a es):a.one=true:=by
 rcases h with ⟨rfl|rfl,_⟩|⟨φ,st,rfl,_⟩<;>rfl
end Go.Proofs.YtbppopcpgcgkkaaGreatDoor.E
/- Lists of lists that are owned: grown, written, frozen. -/
namespace Go.Proofs.YtbppopcpgcgkkaaGreatDoor.E
open Go Go.RowKit
set_option maxRecDepth 100000
variable [L:Lam]
variable {σ τ τ':AH} {R:AEnd→AH→Prop}
theorem acall_frz {P:Program} {f:FuncId} {args args':List AV} {σ0 σ:AH} {R:AEnd→AH→Prop} (hs:AH.Sub σ0 σ) (hl:args.length=args'.length) (hf:∀i,i<args.length→Fz σ0 σ (args.getD i .any) (args'.getD i .any)) (h:acall P f args' σ0 R):acall P f args σ R:=by
 obtain ⟨fn,h1,h2,h3,h4⟩:=h
 refine ⟨fn,h1,h2,h3,fun κ w vs hr hv=>?_⟩
 obtain ⟨hS,hV⟩:=imp_freeze' hs hr
 refine (h4 _ w vs hS.rel ⟨hl▸hv.1,fun i hi=>hV _ _ _ (hf i (hl▸hi)) (hv.2 i (hl▸hi))⟩).mono ?_
 rintro e w' ⟨κ1,ae,σ1,hq,hT,hE⟩
 exact ⟨κ1,ae,σ1,hq,hS.trans hT,hE⟩
section
variable {X:Type}
def l2F (bs:List (X × AV)):List Nat:=bs.flatMap fun p=>famL p.2
theorem l2F_app (a b:List (X × AV)):l2F (a++b)=l2F a++l2F b:=by simp [l2F]
theorem l2F_cons (p:X × AV) (b:List (X × AV)):l2F (p::b)=famL p.2++l2F b:=by simp [l2F]
theorem l2F_mem {bs:List (X × AV)} {p:X × AV} (h:p∈bs) {ψ:Nat} (hψ:ψ∈famL p.2):ψ∈l2F bs:=List.mem_flatMap.2 ⟨p,h,hψ⟩
structure N2 (row:X→AV→List AV) (n:Nat) (inn:X→List (List AV)) (m:Nat) (σ τ:AH) (v:AV) (bs:List (X × AV)):Prop where
 out:Buf τ n v (bs.map fun p=>row p.1 p.2)
 ins:∀p,p∈bs→Buf τ m p.2 (inn p.1)
 nd:(famL v++l2F bs).Nodup
 fr:∀ψ,ψ∈famL v++l2F bs→σ ψ=none
 sub:AH.Sub σ τ
variable {row:X→AV→List AV} {n:Nat} {inn:X→List (List AV)} {m:Nat} {v:AV} {bs:List (X × AV)}
theorem N2.live (h:N2 row n inn m σ τ v bs) {ψ:Nat} (hψ:ψ∈famL v++l2F bs):∃F,τ ψ=some F:=by
 rcases List.mem_append.1 hψ with c|c
 ·exact buf_live h.out c
 ·obtain ⟨p,hp,hm⟩:=List.mem_flatMap.1 c
  exact buf_live (h.ins p hp) hm
theorem N2.own (h:N2 row n inn m σ τ v bs) (hn:bs≠[]):∃φ st,v= .own φ st 0 bs.length∧τ φ=some ⟨st,n,bs.map fun p=>row p.1 p.2⟩:=by
 obtain ⟨φ,st,hv,hF⟩:=buf_own h.out (by intro c;exact hn (List.map_eq_nil_iff.1 c))
 exact ⟨φ,st,by rw [hv,List.length_map],hF⟩
theorem N2.repl {A C:List (X × AV)} {p:X × AV} {x':X} {w:AV} {j:Nat} {τ0:AH} {φ st:Nat} {k:AH→Prop} (h:N2 row n inn m σ τ0 v (A++p::C)) (hv:v= .own φ st 0 (A++p::C).length) (hw:Buf τ m w (inn x')) (hj:j<n) (hr:(row p.1 p.2).set j w=row x' w)
  (hkp:Kp (famL p.2) τ0 τ) (hfm:∀ψ,ψ∈famL w→ψ∈famL p.2∨τ0 ψ=none)
  (hk:∀τ',N2 row n inn m σ τ' v (A++(x',w)::C)→(∀ψ,ψ∉famL v→τ' ψ=τ ψ)→k τ'):sto 1 (.ptr φ st A.length j) w τ k:=by
 obtain ⟨φ',st',hv',hF⟩:=h.own (by simp)
 rw [hv'] at hv
 obtain ⟨rfl,rfl⟩:φ'=φ∧st'=st:=by injection hv with a b;exact ⟨a,b⟩
 subst hv'
 have hfv:famL (.own φ' st' 0 (A++p::C).length)=[φ']:=rfl
 have hnd:=h.nd
 rw [l2F_app,l2F_cons,hfv] at hnd
 have hlive:∀ψ,ψ∈famL (.own φ' st' 0 (A++p::C).length)++l2F (A++p::C)→τ0 ψ≠none:=fun ψ hψ=>live_ne (h.live hψ)
 have mem:∀ψ,ψ∈famL (.own φ' st' 0 (A++p::C).length)++l2F (A++p::C)↔ψ=φ'∨ψ∈l2F A∨ψ∈famL p.2∨ψ∈l2F C:=by
  intro ψ;rw [l2F_app,l2F_cons,hfv];simp
 obtain ⟨_,hnd2,hnd3⟩:=nodup_app.1 hnd
 obtain ⟨hnA,hnd4,hnd5⟩:=nodup_app.1 hnd2
 obtain ⟨_,hnC,hnd6⟩:=nodup_app.1 hnd4
 have hφA:φ'∉l2F A:=fun c=>hnd3 φ' (by simp) (by simp [c])
 have hφp:φ'∉famL p.2:=fun c=>hnd3 φ' (by simp) (by simp [c])
 have hφC:φ'∉l2F C:=fun c=>hnd3 φ' (by simp) (by simp [c])
 have hφw:φ'∉famL w:=fun c=>(hfm φ' c).elim hφp fun d=>hlive φ' ((mem φ').2 (.inl rfl)) d
 have hwA:∀ψ,ψ∈famL w→ψ∉l2F A:=fun ψ c d=>(hfm ψ c).elim (fun e=>hnd5 ψ d (by simp [e])) fun e=>hlive ψ ((mem ψ).2 (by simp [d])) e
 have hwC:∀ψ,ψ∈famL w→ψ∉l2F C:=fun ψ c d=>(hfm ψ c).elim (fun e=>hnd6 ψ e d) fun e=>hlive ψ ((mem ψ).2 (by simp [d])) e
 have hFτ:τ φ'=some ⟨st',n,(A++p::C).map fun p=>row p.1 p.2⟩:=by rw [hkp φ' hφp (hlive φ' ((mem φ').2 (.inl rfl)))];exact hF
 have hset:τ=τ.set φ' ⟨st',n,(A.map fun p=>row p.1 p.2)++row p.1 p.2::C.map fun p=>row p.1 p.2⟩:=by rw [AH.set_self];rw [hFτ];simp
 rw [hset]
 refine sto_at (by simp) hj hw.av1 ?_
 rw [hr]
 have h2:∀ψ,ψ≠φ'→(τ.set φ' ⟨st',n,(A.map fun p=>row p.1 p.2)++row x' w::C.map fun p=>row p.1 p.2⟩) ψ=τ ψ:=fun ψ hψ=>AH.set_ne' hψ
 have hq:∀q,q∈A∨q∈C→Buf (τ.set φ' ⟨st',n,(A.map fun p=>row p.1 p.2)++row x' w::C.map fun p=>row p.1 p.2⟩) m q.2 (inn q.1):=by
  intro q hq
  refine buf_keep (h.ins q (by rcases hq with c|c<;>simp [c])) fun ψ hψ=>?_
  have hm:ψ∈l2F A∨ψ∈l2F C:=hq.imp (fun c=>l2F_mem c hψ) fun c=>l2F_mem c hψ
  have hne:ψ≠φ':=by rintro rfl;exact hm.elim hφA hφC
  have hnp:ψ∉famL p.2:=fun c=>hm.elim (fun d=>hnd5 ψ d (by simp [c])) fun d=>hnd6 ψ c d
  rw [h2 ψ hne]
  exact hkp ψ hnp (hlive ψ ((mem ψ).2 (by rcases hm with c|c<;>simp [c])))
 refine hk _ ⟨.inr ⟨φ',st',by simp,by rw [AH.set_same];simp⟩,?_,?_,?_,?_⟩ fun ψ hψ=>by rw [h2 ψ (by rintro rfl;exact hψ (by simp [famL]))]
 ·intro q hm
  rcases List.mem_append.1 hm with c|c
  ·exact hq q (.inl c)
  ·rcases List.mem_cons.1 c with rfl|c
   ·exact buf_keep hw fun ψ hψ=>h2 ψ (by rintro rfl;exact hφw hψ)
   ·exact hq q (.inr c)
 ·have e:(A++p::C).length=(A++(x',w)::C).length:=by simp
  rw [l2F_app,l2F_cons,hfv,nodup_app]
  refine ⟨by simp,nodup_app.2 ⟨hnA,nodup_app.2 ⟨famL_nodup _,hnC,fun ψ hψ c=>hwC ψ hψ c⟩,fun ψ hψ c=>?_⟩,fun ψ hψ c=>?_⟩
  ·rcases List.mem_append.1 c with c|c
   ·exact hwA ψ c hψ
   ·exact hnd5 ψ hψ (by simp [c])
  ·obtain rfl:=List.mem_singleton.1 hψ
   simp only [List.mem_append] at c
   rcases c with c|c|c
   ·exact hφA c
   ·exact hφw c
   ·exact hφC c
 ·intro ψ hψ
  rw [l2F_app,l2F_cons,hfv] at hψ
  simp only [List.mem_append,List.mem_singleton] at hψ
  rcases hψ with c|c|c|c
  ·exact h.fr ψ ((mem ψ).2 (.inl c))
  ·exact h.fr ψ ((mem ψ).2 (by simp [c]))
  ·rcases hfm ψ c with d|d
   ·exact h.fr ψ ((mem ψ).2 (by simp [d]))
   ·exact h.sub.none d
  ·exact h.fr ψ ((mem ψ).2 (by simp [c]))
 ·intro ψ G hG
  have hn:∀χ,χ∈famL (.own φ' st' 0 (A++p::C).length)++l2F (A++p::C)→ψ≠χ:=by rintro χ hχ rfl;rw [h.fr ψ hχ] at hG;cases hG
  rw [h2 ψ (hn φ' ((mem φ').2 (.inl rfl)))]
  have h1:=h.sub _ _ hG
  rw [hkp ψ (fun c=>hn ψ ((mem ψ).2 (by simp [c])) rfl) (by rw [h1];simp),h1]
theorem N2.fz (h:N2 row n inn m σ τ v bs) (hl:∀x a,(row x a).length=n) (hm:∀x c,c∈inn x→c.length=m) (hc:∀x c,c∈inn x→True)
  (hr:∀x a b j,Fz σ τ a b→Fz σ τ ((row x a).getD j .any) ((row x b).getD j .any)):Fz σ τ v (.ro (bs.map fun p=>row p.1 (.ro (inn p.1)))):=by
 refine fz_row h.out (fun ψ hψ=>h.fr ψ (List.mem_append_left _ hψ)) (by simp) (by intro c hc;obtain ⟨p,_,rfl⟩:=List.mem_map.1 hc;exact hl _ _) fun i j hi hj=>?_
 have hi':i<bs.length:=by simpa using hi
 have e1:(bs.map fun p=>row p.1 p.2).getD i []=row bs[i].1 bs[i].2:=by simp [List.getD,hi']
 have e2:(bs.map fun p=>row p.1 (.ro (inn p.1))).getD i []=row bs[i].1 (.ro (inn bs[i].1)):=by simp [List.getD,hi']
 rw [e1,e2]
 refine hr _ _ _ j ?_
 refine fz_row (h.ins _ (List.getElem_mem hi')) (fun ψ hψ=>h.fr ψ (List.mem_append_right _ (l2F_mem (List.getElem_mem hi') hψ))) rfl (hm _) fun _ _ _ _=> .same _
end
end Go.Proofs.YtbppopcpgcgkkaaGreatDoor.E
/- Cores that are made to code: the plain law. No program in sight. -/
namespace Go.Proofs.YtbppopcpgcgkkaaGreatDoor.E
open Go Go.RowKit
def corAt (cs:List Cor) (i:Nat):Cor:=cs.getD i default
def kidsC (cs:List Cor) (x:Nat):List Nat:=(List.range cs.length).filter fun i=>decide ((corAt cs i).parent=(x:Int))
abbrev St:=List (Int × List OpD)
def vis (cs:List Cor):Nat→Nat→List Nat
 |0,x=>[x]
 |f+1,x=>x::(kidsC cs x).flatMap (vis cs f)
def visK (cs:List Cor) (f:Nat) (ks:List Nat):Nat:=(ks.map fun k=>(vis cs f k).length).sum
theorem vis_pos (cs:List Cor):∀f x,1≤(vis cs f x).length:=by intro f x;cases f<;>simp [vis]
theorem vis_len (cs:List Cor) (f x:Nat):(vis cs (f+1) x).length=1+visK cs f (kidsC cs x):=by
 simp [vis,visK,List.length_flatMap];omega
def hasK (k:Int) (n:Nat):Prop:=if k=4 then n=3 else if k=5∨k=7∨k=8 then n=1 else if k=6 then 1≤n else if k=9 then 1≤n∧n≤4 else n=0
structure WfC (cs:List Cor):Prop where
 len:1≤cs.length∧cs.length≤160
 kind:∀i,i<cs.length→1≤(corAt cs i).kind∧(corAt cs i).kind≤9
 top:(corAt cs 0).parent= -1
 par:∀i,0<i→i<cs.length→0≤(corAt cs i).parent∧(corAt cs i).parent<i
 kids:∀i,i<cs.length→hasK (corAt cs i).kind (kidsC cs i).length
theorem mem_kidsC {cs:List Cor} {x k:Nat}:k∈kidsC cs x↔k<cs.length∧(corAt cs k).parent=(x:Int):=by simp [kidsC]
theorem WfC.kid {cs:List Cor} (h:WfC cs) {x k:Nat} (hk:k∈kidsC cs x):x<k∧k<cs.length:=by
 obtain ⟨h1,h2⟩:=mem_kidsC.1 hk
 have h0:0<k:=by
  rcases Nat.eq_zero_or_pos k with c|c
  ·subst c;rw [h.top] at h2;omega
  ·exact c
 have:=h.par k h0 h1
 omega
theorem nodup_bound:∀(n:Nat) (l:List Nat),l.Nodup→(∀x,x∈l→x<n)→l.length≤n:=by
 intro n
 induction n with
 |zero=>intro l _ h;cases l with
  |nil=>simp
  |cons a r=>exact absurd (h a (by simp)) (by omega)
 |succ n ih=>
  intro l hn h
  have h1:=ih (l.erase n) (hn.erase n) fun x hx=>by
   have h2:=h x (List.mem_of_mem_erase hx)
   have h3:x≠n:=fun c=>by subst c;exact (List.Nodup.not_mem_erase hn) hx
   omega
  by_cases c:n∈l
  ·rw [List.length_erase_of_mem c] at h1;omega
  ·rw [List.erase_of_not_mem c] at h1;omega
theorem nodup_app' {a b:List Nat}:(a++b).Nodup↔a.Nodup∧b.Nodup∧∀x,x∈a→x∉b:=by
 rw [List.nodup_append]
 constructor
 ·rintro ⟨h1,h2,h3⟩
  exact ⟨h1,h2,fun x hx hb=>h3 x hx x hb rfl⟩
 ·rintro ⟨h1,h2,h3⟩
  exact ⟨h1,h2,fun x hx y hy e=>h3 x hx (e▸hy)⟩
def upC (cs:List Cor) (y:Nat):Nat:=(corAt cs y).parent.toNat
def upN (cs:List Cor):Nat→Nat→Nat
 |0,y=>y
 |n+1,y=>upC cs (upN cs n y)
theorem vis_up {cs:List Cor} (hw:WfC cs):∀f x y,x<cs.length→y∈vis cs f x→y<cs.length∧x≤y∧∃n,upN cs n y=x:=by
 intro f
 induction f with
 |zero=>intro x y hx h;simp [vis] at h;subst h;exact ⟨hx,Nat.le_refl _,0,rfl⟩
 |succ f ih=>
  intro x y hx h
  simp only [vis,List.mem_cons,List.mem_flatMap] at h
  rcases h with rfl|⟨k,hk,hy⟩
  ·exact ⟨hx,Nat.le_refl _,0,rfl⟩
  ·obtain ⟨h1,h2⟩:=hw.kid hk
   obtain ⟨g1,g2,n,hn⟩:=ih k y h2 hy
   refine ⟨g1,by omega,n+1,?_⟩
   rw [upN,hn,upC,(mem_kidsC.1 hk).2];simp
theorem upN_add (cs:List Cor) (y:Nat):∀a b,upN cs (a+b) y=upN cs a (upN cs b y):=by
 intro a
 induction a with
 |zero=>intro b;simp [upN]
 |succ a ih=>intro b;rw [Nat.succ_add,upN,ih,upN]
theorem upN_le {cs:List Cor} (hw:WfC cs):∀n y,y<cs.length→upN cs n y≤y:=by
 intro n
 induction n with
 |zero=>intro y _;exact Nat.le_refl _
 |succ n ih=>
  intro y hy
  have h1:=ih y hy
  rw [upN]
  unfold upC
  rcases Nat.eq_zero_or_pos (upN cs n y) with c|c
  ·rw [c,hw.top];simp
  ·have:=hw.par _ c (by omega);omega
theorem vis_nodup {cs:List Cor} (hw:WfC cs):∀f x,x<cs.length→(vis cs f x).Nodup:=by
 intro f
 induction f with
 |zero=>intro x _;simp [vis]
 |succ f ih=>
  intro x hx
  simp only [vis]
  refine List.nodup_cons.2 ⟨fun h=>?_,?_⟩
  ·obtain ⟨k,hk,hy⟩:=List.mem_flatMap.1 h
   obtain ⟨h1,h2⟩:=hw.kid hk
   have:=(vis_up hw f k x h2 hy).2.1
   omega
  ·have hp:(kidsC cs x).Nodup:=by unfold kidsC;exact List.nodup_range.filter _
   have hm:∀k,k∈kidsC cs x→x<k∧k<cs.length∧upC cs k=x:=fun k hk=>⟨(hw.kid hk).1,(hw.kid hk).2,by rw [upC,(mem_kidsC.1 hk).2];simp⟩
   generalize kidsC cs x=ks at hp hm
   induction ks with
   |nil=>simp
   |cons k r ih2=>
    rw [List.flatMap_cons]
    obtain ⟨p1,p2⟩:=List.nodup_cons.1 hp
    rw [nodup_app']
    refine ⟨ih k (hm k (by simp)).2.1,ih2 p2 fun q hq=>hm q (by simp [hq]),fun y hy c=>?_⟩
    obtain ⟨q,hq,hyq⟩:=List.mem_flatMap.1 c
    obtain ⟨a1,a2,a3⟩:=hm k (by simp)
    obtain ⟨b1,b2,b3⟩:=hm q (by simp [hq])
    obtain ⟨_,_,n1,e1⟩:=vis_up hw f k y a2 hy
    obtain ⟨_,_,n2,e2⟩:=vis_up hw f q y b2 hyq
    have hkq:k≠q:=by rintro rfl;exact p1 hq
    have key:∀(n:Nat) (a b:Nat),a<cs.length→upC cs a=x→x<b→upN cs (n+1) a≠b:=by
     intro n a b ha hu hb c
     rw [upN_add cs a n 1] at c
     have h1:upN cs 1 a=x:=hu
     rw [h1] at c
     have:=upN_le hw n x hx
     omega
    rcases Nat.lt_trichotomy n1 n2 with c|c|c
    ·have:upN cs (n2 - n1 - 1+1) k=q:=by rw [←e1,←upN_add,show n2 - n1 - 1+1+n1=n2 by omega,e2]
     exact key _ k q a2 a3 b1 this
    ·subst c;rw [e1] at e2;exact hkq e2
    ·have:upN cs (n1 - n2 - 1+1) q=k:=by rw [←e2,←upN_add,show n1 - n2 - 1+1+n2=n1 by omega,e1]
     exact key _ q k b2 b3 a1 this
theorem vis_bound {cs:List Cor} (hw:WfC cs) (f x:Nat) (hx:x<cs.length):(vis cs f x).length≤160:=
 Nat.le_trans (nodup_bound cs.length _ (vis_nodup hw f x hx) fun y hy=>(vis_up hw f x y hx hy).1) hw.len.2
end Go.Proofs.YtbppopcpgcgkkaaGreatDoor.E
/- Cores that are made to code: what is made, in memory. -/
namespace Go.Proofs.YtbppopcpgcgkkaaGreatDoor.E
open Go Go.RowKit
set_option maxRecDepth 100000
variable [L:Lam]
variable {σ τ τ':AH} {R:AEnd→AH→Prop}
theorem nilB {sz:Nat}:Buf τ sz nilS []:= .inl ⟨.inl rfl,rfl⟩
theorem modify_at {X:Type} (A C:List X) (p:X) (f:X→X):(A++p::C).modify A.length f=A++f p::C:=by
 induction A with
 |nil=>rfl
 |cons a A ih=>simpa using ih
theorem split_at' {X:Type} {l:List X} {i:Nat} (h:i<l.length):∃A p C,l=A++p::C∧A.length=i:=by
 refine ⟨l.take i,l[i],l.drop (i+1),?_,by simp;omega⟩
 rw [←List.drop_eq_getElem_cons h,List.take_append_drop]
variable {pre:List AV} {φm:Nat} {B:St}
end Go.Proofs.YtbppopcpgcgkkaaGreatDoor.E
/- Cores that are made to code: the steps of the program's way and of the reference's. -/
namespace Go.Proofs.YtbppopcpgcgkkaaGreatDoor.E
open Go Go.RowKit
set_option maxRecDepth 100000
variable [L:Lam]
variable {σ τ τ':AH} {R:AEnd→AH→Prop}
abbrev flt (c:Int):AV:= .ifc ty_RiE (.agg [iv c])
theorem c_impl_failIf {b:Bool} {c:Int} (h1:b=false→R (.ret (.tup [])) σ) (h2:b=true→R (.pan (flt c)) σ):acall TP fn_impl_failIf [bv b,iv c] σ R:=by
 refine s_impl_failIf_ok ?_
 unfold s_impl_failIf
 cases b with
 |false=>simp only [RR];exact ret_here (h1 rfl)
 |true=>
  simp only [RR]
  have e:bld [(.val (.int .i64 0))] [(0,1)] [(0,iv c)]=some (.agg [iv c]):=rfl
  have e2:aifc TT ty_RiE (.agg [iv c])=some (flt c):=rfl
  simp only [e,e2,RR]
  exact apan_sub (.refl σ) (h2 rfl)
section
variable {pre:List AV} {φm:Nat} {B:St}
theorem lit1 {sz:Nat} {z row:List AV} {x:AV} (he:afillS sz [z] [(0,x)]=some [row]) (hr:row.length=sz) (hs:sz≤1000):bslR sz z 1 [(0,x)]=some (.ro [row]):=by
 unfold bslR
 have e:List.replicate 1 z=[z]:=rfl
 rw [e,he]
 dsimp only
 rw [if_pos ⟨by omega,by intro c hc;obtain rfl:=List.mem_singleton.1 hc;exact hr⟩,if_neg (by decide)]
end
end Go.Proofs.YtbppopcpgcgkkaaGreatDoor.E
/- Cores that are made to code: the program's way. -/
namespace Go.Proofs.YtbppopcpgcgkkaaGreatDoor.E
open Go Go.RowKit
set_option maxRecDepth 100000
variable [L:Lam]
variable {σ τ τ':AH} {R:AEnd→AH→Prop}
abbrev roK (ks:List Nat):AV:= .ro (ks.map fun k:Nat=>[iv (k:Int)])
def encK (ks:List Nat):List AV:=[roK ks]
theorem len_encK (ks:List Nat):(encK ks).length=1:=rfl
def allK (cs:List Cor):List (List Nat):=(List.range cs.length).map (kidsC cs)
abbrev roKK (cs:List Cor):AV:= .ro ((allK cs).map encK)
theorem idx_K {ks:List Nat} {j:Nat} (hj:j<ks.length):idx 1 (roK ks) (iv (j:Int)) σ=some (.rop [iv ((ks.getD j 0:Nat):Int)] 0):=by
 have:=idx_ro (σ:=σ) (enc:=fun k:Nat=>[iv (k:Int)]) (es:=ks) hj (sz:=1) (fun _=>rfl)
 rw [this];simp [List.getD,hj]
theorem lod_1 {x:AV}:lod (.rop [x] 0) σ=some x:=rfl
theorem lenK {ks:List Nat}:lenS (roK ks)=some (iv (ks.length:Int)):=by simp [lenS]
theorem corAt_eq {cs:List Cor} {x:Nat} (h:x<cs.length):cs[x]=corAt cs x:=by simp [corAt,List.getD,h]
section
variable {φm:Nat} {B:St} {cs:List Cor}
theorem idx_KK {x:Nat} (h:x<cs.length):idx 1 (roKK cs) (iv (x:Int)) σ=some (.rop [roK (kidsC cs x)] 0):=by
 have hl:x<(allK cs).length:=by simpa [allK] using h
 have:=idx_ro (σ:=σ) (enc:=encK) (es:=allK cs) hl (sz:=1) len_encK
 rw [this];simp [allK,encK]
end
end Go.Proofs.YtbppopcpgcgkkaaGreatDoor.E
/- The calls that are put off: what they do. -/
namespace Go.Proofs.YtbppopcpgcgkkaaGreatDoor.E
open Go Go.RowKit
set_option maxRecDepth 100000
variable [L:Lam]
def ordK:Sx→Sx
 | .ord _ _ k=>k
 |x=>x
def isEnd:Sx→Bool
 | .rets []=>true
 |_=>false
theorem wf_c:WF 3 ([.var 0,.var 1,.var 2,.cst (.bool true)]++List.replicate 8 .any):=by
 intro s hs
 rcases List.mem_append.1 hs with hs|hs
 ·rcases List.mem_cons.1 hs with rfl|hs
  ·exact (show 0<3 by omega)
  rcases List.mem_cons.1 hs with rfl|hs
  ·exact (show 1<3 by omega)
  rcases List.mem_cons.1 hs with rfl|hs
  ·exact (show 2<3 by omega)
  obtain rfl:=List.mem_singleton.1 hs
  exact True.intro
 ·obtain rfl:=List.eq_of_mem_replicate hs
  exact True.intro
theorem ta0_92 (w:World):Sem.run TP (Instr.typeAssert Value.nilIface 20 97 true) w= .ok (.tuple #[.agg #[.int .i64 0],.bool false]) w:=rfl
theorem ta1_92 (c:Int) (w:World):Sem.run TP (Instr.typeAssert (Value.iface 97 (.agg #[.int .i64 c])) 20 97 true) w= .ok (.tuple #[.agg #[.int .i64 c],.bool true]) w:=rfl
theorem al_92 (w:World):Sem.run TP (zeroValue 97) w= .ok (.agg #[.int .i64 0]) w:=rfl
set_option maxHeartbeats 1000000 in
theorem idle_92 (v2 v3:Value) (w:World):CallsDIn (FR none) 0 TP 92 #[v2,v3] .returning w fun e u' w'=>(∃t,e= .returned t)∧u'= .returning∧∃o,w'=w.alloc o:=by
 refine callsDIn_of_wpSIn Tryz.func92 rfl trivial fun c₀ cs hu=>?_
 apply wpSIn_seq
 apply wpSIn_region
 simp [wpOpsSIn,go_sem,recoverD,hu,Tryz.ntmps92,Exit.thenS,ta0_92,al_92]
 apply wpSIn_seq
 apply wpSIn_region
 simp [wpOpsSIn,go_sem,Exit.thenS]
 refine wpSIn_cond (t:=false) (by simp [Act.eval,Array.replicate]) ?_
 simp only [Bool.false_eq_true,if_false]
 refine wpSIn_of_wpIn rfl (wpIn_skip ?_)
 cases c₀
 simp_all [bodyPostS,results,Tryz.results92]
 exact ⟨_,rfl⟩
set_option maxHeartbeats 1000000 in
theorem caught_92 (κ:Kap) (σ:AH) (w:World) (c:Int) (φa φb:Nat) (x y:AV) (v2 v3:Value) (hr:Rel κ σ w) (h2:VR κ (.ptr φa 0 0 0) v2) (h3:VR κ (.ptr φb 0 0 0) v3) (hne:φa≠φb) (ha:σ φa=some ⟨0,1,[[x]]⟩) (hb:σ φb=some ⟨0,1,[[y]]⟩):
  CallsDIn (FR none) 0 TP 92 #[v2,v3] (.panicking [{v:= .iface 97 (.agg #[.int .i64 c]),recovered:=false}]) w fun e u' w'=>(∃t,e= .returned t)∧settle u'= .returning∧
   ∃κ',Stp κ σ w κ' ((σ.set φa ⟨0,1,[[.val (.slice none 0 0)]]⟩).set φb ⟨0,1,[[.val (.int .i64 c)]]⟩) w':=by
 refine callsDIn_of_wpSIn Tryz.func92 rfl trivial fun c₀ cs hu=>?_
 apply wpSIn_seq
 apply wpSIn_region
 simp [wpOpsSIn,go_sem,recoverD,hu,Tryz.ntmps92,Exit.thenS,ta1_92,al_92]
 obtain ⟨φ5,h50,h51⟩:=hr.newId
 obtain ⟨κ1,hs1,hv5⟩:=Stp.newVar hr h51 97 (xs:=[.val (.int .i64 c)]) (vs:=[.int .i64 c]) (VRs.cons (.val _) (.nil _))
 have n5a:φa≠φ5:=by rintro rfl;rw [ha] at h50;cases h50
 have n5b:φb≠φ5:=by rintro rfl;rw [hb] at h50;cases h50
 generalize htm:(#[v2,v3]++_:Array Value)=tm
 have htt:tm=#[v2,v3,.pointer (some ⟨w.heap.size,0,none⟩),.bool true,.tuple #[.agg #[.int .i64 c],.bool true],.iface 97 (.agg #[.int .i64 c]),.tuple #[.agg #[.int .i64 c],.bool true],.agg #[.int .i64 c],.bool true,undef,undef,undef]:=by rw [←htm];simp [Array.replicate,List.replicate]
 have he:EnvR κ1 ([.ptr φa 0 0 0,.ptr φb 0 0 0,.ptr φ5 0 0 0,.val (.bool true)]++List.replicate 8 .any) tm:=by
  have ht:=htt
  rw [ht]
  exact .ofList (VRs.cons (h2.mono hs1.ext) (VRs.cons (h3.mono hs1.ext) (VRs.cons hv5 (VRs.cons (.val _) (VRs.cons (.any _) (VRs.cons (.any _) (VRs.cons (.any _) (VRs.cons (.any _) (VRs.cons (.any _) (VRs.cons (.any _) (VRs.cons (.any _) (VRs.cons (.any _) (.nil _)))))))))))))
 apply wpSIn_seq
 apply wpSIn_region
 simp only [Array.size,List.length_cons,List.length_nil]
 simp only [List.range,List.range.loop,wpOpsSIn]
 simp [go_sem,Exit.thenS,Region.wanted]
 generalize htm2:tm.setIfInBounds 9 _=tm2
 have he2:EnvR κ1 (([.ptr φa 0 0 0,.ptr φb 0 0 0,.ptr φ5 0 0 0,.val (.bool true)]++List.replicate 8 .any:List AV).set 9 .any) tm2:=by rw [←htm2];exact he.set 9 (.any _)
 refine wpSIn_cond (t:=true) (by simp only [Act.eval,←htm2,htt];rfl) ?_
 rw [if_pos rfl]
 refine wpSIn_of_wpIn rfl ?_
 have hmap:(([.var 0,.var 1,.var 2,.cst (.bool true)]++List.replicate 8 .any:List SV).set 9 .any).map (dv [.ptr φ5 0 0 0,.ptr φb 0 0 0,.ptr φa 0 0 0])=([.ptr φa 0 0 0,.ptr φb 0 0 0,.ptr φ5 0 0 0,.val (.bool true)]++List.replicate 8 .any:List AV).set 9 .any:=rfl
 rw [←hmap] at he2
 have hden:den TP TT (fun e σ'=>e= .ret (.tup [])∧AH.Sub ((σ.set φa ⟨0,1,[[.val (.slice none 0 0)]]⟩).set φb ⟨0,1,[[.val (.int .i64 c)]]⟩) σ') (ordK x92) [.ptr φ5 0 0 0,.ptr φb 0 0 0,.ptr φa 0 0 0] [] (σ.set φ5 ⟨0,1,[[.val (.int .i64 c)]]⟩):=by
  unfold x92 ordK
  simp only [den,di,List.getD_cons_zero,List.getD_cons_succ]
  refine (?_:og (fldA 0 (.ptr φ5 0 0 0)) fun v=>og (lod v (σ.set φ5 ⟨0,1,[[.val (.int .i64 c)]]⟩)) fun v1=>sto 1 (.ptr φa 0 0 0) (.val (.slice none 0 0)) (σ.set φ5 ⟨0,1,[[.val (.int .i64 c)]]⟩) fun σ1=>(lod v σ1=some v1∧True)∧sto 1 (.ptr φb 0 0 0) v1 σ1 fun σ2=>True∧aret (.tup []) σ2 fun e σ'=>e= .ret (.tup [])∧AH.Sub ((σ.set φa ⟨0,1,[[.val (.slice none 0 0)]]⟩).set φb ⟨0,1,[[.val (.int .i64 c)]]⟩) σ')
  have l0:lod (.ptr φ5 0 0 0) (σ.set φ5 ⟨0,1,[[.val (.int .i64 c)]]⟩)=some (.val (.int .i64 c)):=lod_at (AH.set_same ..) rfl rfl
  simp only [RR,l0]
  refine sto_fld (cs:=[x]) (by rw [AH.set_ne' n5a];exact ha) rfl (by decide) rfl rfl ?_
  refine ⟨⟨lod_at (F:=⟨0,1,[[.val (.int .i64 c)]]⟩) (by rw [AH.set_ne' (Ne.symm n5a)];exact AH.set_same ..) rfl rfl,trivial⟩,?_⟩
  refine sto_fld (cs:=[y]) (by rw [AH.set_ne' (Ne.symm hne),AH.set_ne' n5b];exact hb) rfl (by decide) rfl rfl ?_
  refine ⟨trivial,aret_sub (.refl _) ⟨rfl,fun ψ F hF=>?_⟩⟩
  by_cases cb:ψ=φb
  ·subst cb;rw [AH.set_same] at hF ⊢;exact hF
  ·rw [AH.set_ne' cb] at hF ⊢
   by_cases ca:ψ=φa
   ·subst ca;rw [AH.set_same] at hF ⊢;exact hF
   ·rw [AH.set_ne' ca] at hF ⊢
    rw [AH.set_ne' (by rintro rfl;rw [h50] at hF;cases hF)];exact hF
 refine cw_ok TT_ok (C:=[0,1,2,3]) (ancs:=[0,1,0,7]) (T:=TT) (K:=fun _ σ'=>∃σ'',Imp (.tup []) σ' (.tup []) σ''∧AH.Sub ((σ.set φa ⟨0,1,[[.val (.slice none 0 0)]]⟩).set φb ⟨0,1,[[.val (.int .i64 c)]]⟩) σ'') (Kp:=fun _ _=>False) (by kernel_rfl) hs1.rel he2 rfl ?_ (fun _ _ _ _ _ _ _ h=>h.elim) (okCw_ok (R:=fun e σ'=>e= .ret (.tup [])∧AH.Sub ((σ.set φa ⟨0,1,[[.val (.slice none 0 0)]]⟩).set φb ⟨0,1,[[.val (.int .i64 c)]]⟩) σ') (ks:=[]) (K:=fun _ _ x=>isEnd x) ?_ ?_ [0,1,2,3] [] _ _ ⟨[.ptr φ5 0 0 0,.ptr φb 0 0 0,.ptr φa 0 0 0],(([.var 0,.var 1,.var 2,.cst (.bool true)]++List.replicate 8 .any:List SV).set 9 .any),ordK x92,by kernel_rfl,wf_c.set (s:= .any) 9 True.intro,rfl,hden⟩)
 ·rintro κ' t' σ' a' w' ⟨σ'',hi,hsub⟩ hs he' hd'
  obtain ⟨κ2,k1,_⟩:=hi κ' w' _ hs.rel (.tup (vs:=[]) rfl fun i hi=>by cases hi)
  exact ⟨hd',_,rfl,.tuple #[],by simp [results,Tryz.results92],⟨_,rfl⟩,rfl,κ2,(hs1.trans (hs.trans k1)).trans (Stp.sub k1.rel hsub)⟩
 ·rintro a σ' ⟨ρ',t',x',g1,g2,rfl,g3⟩
  replace g1:isEnd x'=true:=g1
  unfold isEnd at g1
  split at g1
  case h_2=>cases g1
  obtain ⟨v',σ'',hi,hv,hsub⟩:=g3
  obtain rfl:v'= .tup []:=by injection hv
  exact ⟨σ'',hi,hsub⟩
 ·rintro v σ' ⟨v',σ'',_,h,_⟩
  cases h
theorem catch_92:Catch TP 92 97:=⟨⟨_,Tryz.func92,rfl,rfl⟩,idle_92,caught_92⟩
end Go.Proofs.YtbppopcpgcgkkaaGreatDoor.E
/- Cores that are made to code: the program's kids of cores, and all of it. -/
namespace Go.Proofs.YtbppopcpgcgkkaaGreatDoor.E
open Go Go.RowKit
set_option maxRecDepth 100000
def kidsTo (cs:List Cor) (i x:Nat):List Nat:=(List.range i).filter fun j=>decide ((corAt cs j).parent=(x:Int))
theorem kidsTo_succ (cs:List Cor) (i x:Nat):kidsTo cs (i+1) x=kidsTo cs i x++(if (corAt cs i).parent=(x:Int) then [i] else []):=by
 unfold kidsTo
 rw [List.range_succ,List.filter_append]
 congr 1
 by_cases c:(corAt cs i).parent=(x:Int)<;>simp [c]
theorem kidsTo_le (cs:List Cor) (i x:Nat):(kidsTo cs i x).length≤i:=by
 unfold kidsTo
 exact Nat.le_trans (List.length_filter_le _ _) (by simp)
theorem map_modify {X:Type} (n p:Nat) (f g:Nat→X) (h:X→X) (hp:∀q,q<n→g q=if p=q then h (f q) else f q):((List.range n).map f).modify p h=(List.range n).map g:=by
 apply List.ext_getElem (by simp)
 intro k h1 h2
 have hk:k<n:=by simpa using h2
 simp only [List.getElem_modify,List.getElem_map,List.getElem_range,hp k hk]
variable [L:Lam]
variable {σ τ τ':AH} {R:AEnd→AH→Prop}
theorem abox_new {x:AV} {xs:List AV} {k:AV→AH→Prop} (hx:acells x=some xs) (h:∀φ,σ φ=none→k (.ptr φ 0 0 0) (σ.set φ ⟨0,xs.length,[xs]⟩)):abox x σ k:=by
 unfold abox;rw [hx];exact h
abbrev rowK (_:List Nat) (a:AV):List AV:=[a]
abbrev innK (l:List Nat):List (List AV):=l.map fun k:Nat=>[iv (k:Int)]
theorem c_impl_kids {cs:List Cor} (hl:cs.length≤1000000) (hp:∀i,i<cs.length→ -1≤(corAt cs i).parent∧(corAt cs i).parent<i) (h:R (.ret (roKK cs)) σ):acall TP fn_impl_kids [roC cs] σ R:=by
 refine s_impl_kids_ok ?_
 unfold s_impl_kids
 simp only [len_ro,RR]
 refine mk_LLi (by omega) (by omega) (by omega) fun φ hφ=>?_
 simp only [Int.toNat_natCast]
 have h0:N2 rowK 1 innK 1 σ (σ.set φ ⟨0,1,List.replicate cs.length [nilS]⟩) (.own φ 0 0 cs.length) (List.replicate cs.length ([],nilS)):=by
  refine ⟨.inr ⟨φ,0,by simp,by rw [AH.set_same];simp⟩,fun p hp=>?_,?_,fun ψ hψ=>?_,.set (.refl σ) _ hφ⟩
  ·obtain rfl:=List.eq_of_mem_replicate hp;exact nilB
  ·have:l2F (List.replicate cs.length (([]:List Nat),nilS))=[]:=by
    unfold l2F
    rw [List.flatMap_eq_nil_iff]
    intro p hp;obtain rfl:=List.eq_of_mem_replicate hp;rfl
   rw [this];simp [famL]
  ·have:l2F (List.replicate cs.length (([]:List Nat),nilS))=[]:=by
    unfold l2F
    rw [List.flatMap_eq_nil_iff]
    intro p hp;obtain rfl:=List.eq_of_mem_replicate hp;rfl
   rw [this] at hψ
   simp [famL] at hψ
   subst hψ;exact hφ
 refine lp_rel cs.length (fun i x τ=>∃bs,x=(.own φ 0 0 cs.length,roC cs,iv (cs.length:Int),iv (i:Int),())∧N2 rowK 1 innK 1 σ τ (.own φ 0 0 cs.length) bs∧bs.map (·.1)=(List.range cs.length).map (kidsTo cs i)) ⟨_,rfl,h0,?_⟩ ?_
 ·apply List.ext_getElem (by simp)
  intro k h1 h2
  simp [kidsTo]
 rintro i _ τ hi ⟨bs,rfl,hN,hbs⟩ R' hR'
 have hbl:bs.length=cs.length:=by have:=congrArg List.length hbs;simpa using this
 by_cases hlt:i<cs.length
 ·have g:(i:Int)<(cs.length:Int):=by omega
  simp only [g,idx_ro hlt len_encCor,corAt_eq hlt,lodA_all (len_encCor _),RR]
  refine new_encCor rfl ?_
  have l1:∀τ,lod (.rop (encCor (corAt cs i)) 1) τ=some (iv (corAt cs i).parent):=fun _=>rfl
  simp only [l1,jn,RR]
  obtain ⟨p1,p2⟩:=hp i hlt
  by_cases c0:0≤(corAt cs i).parent
  ·simp only [c0,RR]
   obtain ⟨p,hpp⟩:∃p:Nat,(corAt cs i).parent=(p:Int):=⟨(corAt cs i).parent.toNat,by omega⟩
   rw [hpp]
   have hpl:p<bs.length:=by omega
   obtain ⟨A,q,C,rfl,hA⟩:=split_at' hpl
   obtain ⟨φ',st',e',hF⟩:=hN.own (by simp)
   obtain ⟨rfl,rfl,_⟩:φ=φ'∧0=st'∧True:=by injection e' with a b;exact ⟨a,b,trivial⟩
   rw [hbl] at e'
   have ix:∀τ1:AH,τ1 φ=some ⟨0,1,(A++q::C).map fun p=>rowK p.1 p.2⟩→idx 1 (.own φ 0 0 cs.length) (iv (p:Int)) τ1=some (.ptr φ 0 p 0):=fun τ1 hF1=>by
    have:=idx_own (st:=0) (off:=0) hF1 (show p<cs.length by omega)
    rwa [Nat.zero_add] at this
   have el:lod (.ptr φ 0 p 0) τ=some q.2:=lod_at hF rfl (by subst hA;simp [List.getD])
   simp only [ix τ hF,el,RR]
   rw [lit1 (sz:=1) (row:=[iv (i:Int)]) rfl rfl (by omega)]
   simp only [RR]
   have hq1:q.1=kidsTo cs i p:=by
    have:=congrArg (fun l=>l[p]?) hbs
    subst hA
    simp at this
    have h2:A.length<cs.length:=by omega
    simpa [h2] using this
   have hb:Buf τ 1 q.2 (innK q.1):=hN.ins q (by simp)
   have hql:q.1.length≤i:=by rw [hq1];exact kidsTo_le cs i p
   have hφφ:φ∉famL q.2:=fun c=>(nodup_app.1 hN.nd).2.2 φ (by simp [famL]) (l2F_mem (by simp) c)
   refine buf_app hb (xs:=[[iv (i:Int)]]) rfl (by intro c hc;obtain rfl:=List.mem_singleton.1 hc;rfl) (by intro c hc y hy;obtain rfl:=List.mem_singleton.1 hc;obtain rfl:=List.mem_singleton.1 hy;rfl) (by simp;omega) fun w' τ1 hB hK hfam=>?_
   have hF1:τ1 φ=some ⟨0,1,(A++q::C).map fun p=>rowK p.1 p.2⟩:=by rw [hK φ hφφ (by rw [hF];simp)];exact hF
   refine ⟨⟨trivial,trivial⟩,?_⟩
   simp only [ix τ1 hF1,RR]
   have hB':Buf τ1 1 w' (innK (q.1++[i])):=by simpa [innK] using hB
   have hle:(A++q::C).length=cs.length:=hbl
   rw [←hle,←hA]
   refine (hle▸hN:N2 rowK 1 innK 1 σ τ (.own φ 0 0 (A++q::C).length) (A++q::C)).repl (x':=q.1++[i]) rfl hB' (by omega) rfl hK hfam fun τ2 hN2 _=>?_
   simp only [ibin_up hlt (by omega),RR,true_and]
   rw [hle] at hN2 ⊢
   refine hR' _ _ _ hlt (.refl _) ⟨_,rfl,hN2,?_⟩
   have e1:=modify_at (A.map (·.1)) (C.map (·.1)) q.1 (fun l:List Nat=>l++[i])
   rw [List.map_append,List.map_cons,←e1,List.length_map,←List.map_cons (f:=(·.1)) (a:=q),←List.map_append,hbs]
   refine map_modify _ _ _ _ _ fun x hx=>?_
   rw [kidsTo_succ,hpp,hA]
   by_cases c:p=x
   ·subst c;simp
   ·have:¬(p:Int)=(x:Int):=by omega
    simp [c,this]
  ·simp only [c0,ibin_up hlt (by omega),RR]
   refine hR' _ _ _ hlt (.refl _) ⟨bs,rfl,hN,?_⟩
   rw [hbs]
   refine List.map_congr_left fun x _=>?_
   rw [kidsTo_succ,if_neg (by omega),List.append_nil]
 ·have g:¬(i:Int)<(cs.length:Int):=by omega
  obtain rfl:i=cs.length:=by omega
  simp only [g,RR]
  have hz:=hN.fz (fun _ _=>rfl) (fun x c hc=>by obtain ⟨o,_,rfl⟩:=List.mem_map.1 hc;rfl) (fun _ _ _=>trivial) (fun x a b j hf=>by
   match j with
   |0=>exact hf
   |j+1=>exact .same _)
  refine aret_freeze hN.sub hz ?_
  have e:(bs.map fun p=>rowK p.1 (.ro (innK p.1)))=(allK cs).map encK:=by
   have e2:(bs.map fun p=>rowK p.1 (.ro (innK p.1)))=(bs.map (·.1)).map encK:=by simp [encK]
   rw [e2,hbs];rfl
  rw [e];exact h
end Go.Proofs.YtbppopcpgcgkkaaGreatDoor.E
/- Cores that are made to code: the reference's way. -/
namespace Go.Proofs.YtbppopcpgcgkkaaGreatDoor.E
open Go Go.RowKit
set_option maxRecDepth 100000
variable [L:Lam]
variable {σ τ τ':AH} {R:AEnd→AH→Prop}
theorem push_row {sz:Nat} {a x:AV} {es:List (List AV)} {z row:List AV} {k:AV→AH→Prop} (h:Buf τ sz a es) (he:afillS sz [z] [(0,x)]=some [row]) (hs:sz≤1000) (hr:row.length=sz) (ho:∀y,y∈row→y.one=true) (hn:es.length+1≤4294967296)
  (hk:∀a' τ',Buf τ' sz a' (es++[row])→Kp (famL a) τ τ'→(∀ψ,ψ∈famL a'→ψ∈famL a∨τ ψ=none)→k a' τ'):bsl sz z 1 [(0,x)] τ fun v τ=>E.app sz a v τ k:=by
 refine bsl1 he (by omega) fun ψ hψ=>?_
 have hs1:AH.Sub τ (τ.set ψ ⟨0,sz,[row]⟩):= .set (.refl τ) _ hψ
 refine buf_app ((Kp.of_sub (F:=[]) hs1).buf h fun _ _ c=>by cases c) ael1 (by intro c hc;obtain rfl:=List.mem_singleton.1 hc;exact hr) (by intro c hc;obtain rfl:=List.mem_singleton.1 hc;exact ho) (by simpa using hn) fun a' τ' hB hK hfam=>hk a' τ' hB (fun χ hχ hn=>?_) fun χ hχ=>?_
 ·rw [hK χ hχ (by rw [AH.set_ne' (by rintro rfl;exact hn hψ)];exact hn),AH.set_ne' (by rintro rfl;exact hn hψ)]
 ·rcases hfam χ hχ with c|c
  ·exact .inl c
  ·exact .inr (hs1.none c)
theorem c_spec_l4Kids {cs:List Cor} {x:Nat} (hl:cs.length≤1000000) (h:R (.ret (roK (kidsC cs x))) σ):acall TP fn_spec_l4Kids [roC cs,iv (x:Int)] σ R:=by
 refine s_spec_l4Kids_ok ?_
 unfold s_spec_l4Kids
 refine bsl0 ?_
 refine lp_rel cs.length (fun i y τ=>∃u,y=(roC cs,iv (x:Int),u,iv (i:Int),())∧Buf τ 1 u (innK (kidsTo cs i x))∧AH.Sub σ τ∧∀ψ,ψ∈famL u→σ ψ=none) ⟨.emp,rfl,.inl ⟨.inr rfl,rfl⟩,.refl σ,fun ψ c=>by cases c⟩ ?_
 rintro i _ τ hi ⟨u,rfl,hB,hs,hf⟩ R' hR'
 simp only [len_ro,RR]
 by_cases hlt:i<cs.length
 ·have g:(i:Int)<(cs.length:Int):=by omega
  have l1:∀τ,lod (.rop (encCor (corAt cs i)) 1) τ=some (iv (corAt cs i).parent):=fun _=>rfl
  simp only [g,idx_ro hlt len_encCor,corAt_eq hlt,l1,jn,RR]
  by_cases c:(corAt cs i).parent=(x:Int)
  ·simp only [c,RR]
   refine push_row (row:=[iv (i:Int)]) hB rfl (by omega) rfl (fun y hy=>by obtain rfl:=List.mem_singleton.1 hy;rfl) (by have:=kidsTo_le cs i x;simp;omega) fun u' τ' hB' hK hfam=>?_
   simp only [ibin_up hlt (by omega),RR]
   refine hR' _ _ _ hlt (.refl _) ⟨u',rfl,?_,hK.sub hs hf,fun ψ hψ=>(hfam ψ hψ).elim (hf ψ) fun d=>hs.none d⟩
   rw [kidsTo_succ,if_pos c]
   simpa [innK] using hB'
  ·simp only [c,ibin_up hlt (by omega),RR]
   refine hR' _ _ _ hlt (.refl _) ⟨u,rfl,?_,hs,hf⟩
   rw [kidsTo_succ,if_neg c,List.append_nil];exact hB
 ·have g:¬(i:Int)<(cs.length:Int):=by omega
  obtain rfl:i=cs.length:=by omega
  simp only [g,RR]
  exact aret_freeze hs (fz_row hB hf rfl (by intro c hc;obtain ⟨o,_,rfl⟩:=List.mem_map.1 hc;rfl) fun _ _ _ _=> .same _) h
section
variable {φm:Nat} {B:St} {cs:List Cor}
end
end Go.Proofs.YtbppopcpgcgkkaaGreatDoor.E
/- Cores: their faults. -/
namespace Go.Proofs.YtbppopcpgcgkkaaGreatDoor.E
open Go Go.RowKit
set_option maxRecDepth 100000
variable [L:Lam]
variable {σ τ τ':AH} {R:AEnd→AH→Prop}
def kws:List ByteArray:=[⟨#[113,117,111,116,101]⟩,⟨#[105,102]⟩,⟨#[108,97,109,98,100,97]⟩,⟨#[108,101,116]⟩,⟨#[98,101,103,105,110]⟩,⟨#[100,101,102,105,110,101]⟩,⟨#[115,101,116,33]⟩]
def inL (l:List ByteArray) (s:ByteArray):Bool:=l.any fun t=>decide (s=t)
def kwB (s:ByteArray):Bool:=inL kws s
def idxS:List ByteArray→ByteArray→Nat→Int
 |[],_,_=> -1
 |t::r,s,k=>if s=t then (k:Int) else idxS r s (k+1)
theorem idxS_in (s:ByteArray):∀(l:List ByteArray) (k:Nat),decide (0≤idxS l s k)=inL l s:=by
 intro l
 induction l with
 |nil=>intro k;rfl
 |cons t r ih=>
  intro k
  rw [idxS]
  by_cases c:s=t
  ·rw [if_pos c];simp [inL,c]
  ·rw [if_neg c,ih];simp [inL,c]
abbrev roS (l:List ByteArray):AV:= .ro (l.map fun s=>[str s])
theorem idx_S {l:List ByteArray} {j:Nat} (h:j<l.length):idx 1 (roS l) (iv (j:Int)) σ=some (.rop [str l[j]] 0):=idx_ro (enc:=fun s=>[str s]) h (sz:=1) fun _=>rfl
theorem lenSS {l:List ByteArray}:lenS (roS l)=some (iv (l.length:Int)):=by simp [lenS]
theorem c_slices_Index {l:List ByteArray} {s:ByteArray} (hl:l.length≤1000000) (h:R (.ret (iv (idxS l s 0))) σ):acall TP fn_slices_Index [roS l,str s] σ R:=by
 refine s_slices_Index_ok ?_
 unfold s_slices_Index
 simp only [lenSS,RR]
 refine lp_same l.length (fun i=>(roS l,str s,iv (l.length:Int),iv (i:Int),())) (fun i=>idxS l s 0=idxS (l.drop i) s i) rfl (by simp) ?_
 intro i hi hj R' hR'
 by_cases hlt:i<l.length
 ·have g:(i:Int)<(l.length:Int):=by omega
  rw [List.drop_eq_getElem_cons hlt,idxS] at hj
  simp only [g,idx_S hlt,lod_1,sbin_eql',RR]
  by_cases c:s=l[i]
  ·rw [if_pos c] at hj
   rw [hj] at h
   have cd:decide (s=l[i])=true:=by simp [c]
   simp only [cd,RR]
   exact ret_here h
  ·rw [if_neg c] at hj
   have cd:decide (s=l[i])=false:=by simp [c]
   simp only [cd,ibin_up hlt (by omega),RR]
   exact hR' hlt hj _ (.refl σ)
 ·have g:¬(i:Int)<(l.length:Int):=by omega
  obtain rfl:i=l.length:=by omega
  rw [List.drop_length,idxS] at hj
  rw [hj] at h
  simp only [g,RR]
  exact ret_here h
theorem c_slices_Contains {l:List ByteArray} {s:ByteArray} (hl:l.length≤1000000) (h:R (.ret (bv (inL l s))) σ):acall TP fn_slices_Contains [roS l,str s] σ R:=by
 refine s_slices_Contains_ok ?_
 unfold s_slices_Contains
 refine c_slices_Index hl ?_
 simp only [RR,idxS_in]
 exact ret_here h
theorem bsl_new {sz n:Nat} {z:List AV} {ps:List (Nat × AV)} {es:List (List AV)} {k:AV→AH→Prop} (he:afillS sz (List.replicate n z) ps=some es) (hb:n*sz≤16777216) (hn:n≠0) (h:∀φ,σ φ=none→k (.own φ 0 0 n) (σ.set φ ⟨0,sz,es⟩)):bsl sz z n ps σ k:=by
 unfold bsl
 rw [he]
 exact ⟨hb,by rw [if_neg hn];exact h⟩
theorem c_impl_IsKeyword {s:ByteArray} (h:R (.ret (bv (kwB s))) σ):acall TP fn_impl_IsKeyword [str s] σ R:=by
 refine s_impl_IsKeyword_ok ?_
 unfold s_impl_IsKeyword
 refine bsl_new (es:=kws.map fun s=>[str s]) rfl (by decide) (by decide) fun φ hφ=>?_
 refine acall_frz (σ0:=σ) (args':=[roS kws,str s]) (.set (.refl σ) _ hφ) rfl (fun i hi=>?_) ?_
 ·match i,hi with
  |0,_=>
   refine .own (AH.set_same ..) hφ rfl (by decide) rfl (fun i hi=>?_) (fun i j hi hj=>by rw [Nat.zero_add];exact .same _)
   have hi':i<kws.length:=hi
   simp [List.getD,hi']
  |1,_=>exact .same _
 refine c_slices_Contains (by decide) ?_
 simp only [RR]
 exact ret_here h
theorem c_spec_IsKeyword {s:ByteArray} (h:R (.ret (bv (kwB s))) σ):acall TP fn_spec_IsKeyword [str s] σ R:=by
 refine s_spec_IsKeyword_ok ?_
 unfold s_spec_IsKeyword
 refine bsl_frz (es:=kws.map fun s=>[str s]) rfl (by decide) rfl (by intro c hc;obtain ⟨x,_,rfl⟩:=List.mem_map.1 hc;rfl) ?_
 refine lp_same kws.length (fun i=>(str s,roS kws,iv (i:Int),())) (fun i=>inL kws s=inL (kws.drop i) s) rfl (by simp) ?_
 intro i hi hj R' hR'
 simp only [lenSS,RR]
 by_cases hlt:i<kws.length
 ·have g:(i:Int)<(kws.length:Int):=by omega
  rw [List.drop_eq_getElem_cons hlt] at hj
  have hj2:inL kws s=(decide (s=kws[i])||inL (kws.drop (i+1)) s):=hj
  have hkl:kws.length=7:=rfl
  simp only [g,idx_S hlt,lod_1,sbin_eql',RR]
  by_cases c:kws[i]=s
  ·have cd:decide (kws[i]=s)=true:=by simp [c]
   simp only [cd,RR]
   rw [show decide (s=kws[i])=true by simp [c],Bool.true_or] at hj2
   unfold kwB at h
   rw [hj2] at h
   exact ret_here h
  ·have cd:decide (kws[i]=s)=false:=by simp [c]
   simp only [cd,ibin_up hlt (by omega),RR]
   rw [show decide (s=kws[i])=false by simp;exact fun e=>c e.symm,Bool.false_or] at hj2
   exact hR' hlt hj2 _ (.refl σ)
 ·have g:¬(i:Int)<(kws.length:Int):=by omega
  obtain rfl:i=kws.length:=by omega
  rw [List.drop_length] at hj
  unfold kwB at h
  rw [hj] at h
  simp only [g,RR]
  exact ret_here h
def namC (k:Int):Bool:=decide (k=3)||decide (k=7)||decide (k=8)
theorem nam_walk {k:Int} {K:AV→Prop} (h:K (bv (namC k))):og (ibin .eql (iv k) (.val (.int .i64 3))) fun v4=>og (gval v4 false false (some (iv k))) fun v6=>og (gval v4 false false (ibin .eql v6 (.val (.int .i64 7)))) fun v7=>og (pickV v4 (.val (.bool true)) v7) fun v8=>
  og (gval v8 false false (some (iv k))) fun v10=>og (gval v8 false false (ibin .eql v10 (.val (.int .i64 8)))) fun v11=>og (pickV v8 (.val (.bool true)) v11) fun v12=>K v12:=by
 unfold namC at h
 by_cases c3:k=3
 ·subst c3;simpa [RR] using h
 by_cases c7:k=7
 ·subst c7;simp only [Int.reduceEq,RR] at h ⊢;simpa using h
 simp only [c3,c7,RR] at h ⊢
 simpa using h
theorem c_impl_named {k:Int} (h:R (.ret (bv (namC k))) σ):acall TP fn_impl_named [iv k] σ R:=by
 refine s_impl_named_ok ?_
 unfold s_impl_named
 exact nam_walk (ret_here h)
theorem c_spec_l4Named {k:Int} (h:R (.ret (bv (namC k))) σ):acall TP fn_spec_l4Named [iv k] σ R:=by
 refine s_spec_l4Named_ok ?_
 unfold s_spec_l4Named
 exact nam_walk (ret_here h)
def nameB (s:ByteArray):Bool:=symOk s&& !kwB s
theorem c_impl_isName {s:ByteArray} (h:R (.ret (bv (nameB s))) σ):acall TP fn_impl_isName [str s] σ R:=by
 refine s_impl_isName_ok ?_
 unfold s_impl_isName
 simp only [jn]
 refine c_impl_SymFault ?_
 unfold nameB at h
 cases hs:symOk s with
 |true=>
  rw [hs,Bool.true_and] at h
  simp only [RR]
  refine c_impl_IsKeyword ?_
  simp only [RR]
  exact ret_here h
 |false=>
  rw [hs,Bool.false_and] at h
  simp only [RR]
  exact ret_here h
theorem c_spec_l4Name {s:ByteArray} (hs:s.size≤1099511627776) (h:R (.ret (bv (nameB s))) σ):acall TP fn_spec_l4Name [str s] σ R:=by
 refine s_spec_l4Name_ok ?_
 unfold s_spec_l4Name
 simp only [jn]
 refine c_spec_l2Sym hs ?_
 unfold nameB at h
 cases hs:symOk s with
 |true=>
  rw [hs,Bool.true_and] at h
  simp only [RR]
  refine c_spec_IsKeyword ?_
  simp only [RR]
  exact ret_here h
 |false=>
  rw [hs,Bool.false_and] at h
  simp only [RR]
  exact ret_here h
end Go.Proofs.YtbppopcpgcgkkaaGreatDoor.E
/- Cores: their faults, the program's way and the reference's. -/
namespace Go.Proofs.YtbppopcpgcgkkaaGreatDoor.E
open Go Go.RowKit
set_option maxRecDepth 100000
variable [L:Lam]
variable {σ τ τ':AH} {R:AEnd→AH→Prop}
def bareC1 (c:Cor):Bool:=inB 1 9 c.kind&&(decide (c.a=0)||decide (c.kind=2)||decide (c.kind=5))&&(decide (c.b=0)||decide (c.kind=2))
def bareC (c:Cor):Bool:=bareC1 c&&(decide (c.name=(⟨#[]⟩:ByteArray))||namC c.kind)&&(decide ((c.data.length:Int)=0)||decide (c.kind=1))
theorem c_impl_coreForm {c:Cor} (h:R (.ret (bv (bareC c))) σ):acall TP fn_impl_coreForm [.agg (encCor c)] σ R:=by
 refine s_impl_coreForm_ok ?_
 unfold s_impl_coreForm
 simp only [jn]
 refine box_encCor ?_
 simp only [RR,RT,RG]
 refine c_impl_in ?_
 simp only [RR,RT,RG,sbin_eql',len_ro]
 unfold bareC bareC1 at h
 generalize (inB 1 9 c.kind&&(decide (c.a=0)||decide (c.kind=2)||decide (c.kind=5))&&(decide (c.b=0)||decide (c.kind=2)))=b1 at h ⊢
 generalize decide (c.name=(⟨#[]⟩:ByteArray))=b2 at h ⊢
 cases b1 with
 |false=>
  simp only [RR]
  exact ret_here (by simpa using h)
 |true=>
  cases b2 with
  |true=>
   simp only [RR]
   exact ret_here (by simpa using h)
  |false=>
   simp only [RR]
   refine c_impl_named ?_
   simp only [RR,RT,RG,len_ro]
   exact ret_here (by simpa using h)
theorem c_spec_l4Bare {c:Cor} (h:R (.ret (bv (bareC c))) σ):acall TP fn_spec_l4Bare [.rop (encCor c) 0] σ R:=by
 refine s_spec_l4Bare_ok ?_
 unfold s_spec_l4Bare
 simp only [jn,RR,RT,RG]
 refine c_spec_l1In ?_
 simp only [RR,RT,RG,sbin_eql',len_ro]
 have hb:bareC1 c=(inB 1 9 c.kind&&(decide (c.kind=2)||decide (c.kind=5)||decide (c.a=0))&&(decide (c.kind=2)||decide (c.b=0))):=by
  unfold bareC1
  cases inB 1 9 c.kind<;>cases decide (c.a=0)<;>cases decide (c.kind=2)<;>cases decide (c.kind=5)<;>cases decide (c.b=0)<;>rfl
 unfold bareC at h
 rw [hb] at h
 generalize (inB 1 9 c.kind&&(decide (c.kind=2)||decide (c.kind=5)||decide (c.a=0))&&(decide (c.kind=2)||decide (c.b=0)))=b1 at h ⊢
 cases b1 with
 |false=>
  simp only [RR]
  exact ret_here (by simpa using h)
 |true=>
  simp only [RR]
  refine c_spec_l4Named ?_
  simp only [RR,RT,RG,sbin_eql',len_ro]
  refine ret_here ?_
  have e:(true&&(decide (c.name=(⟨#[]⟩:ByteArray))||namC c.kind)&&(decide ((c.data.length:Int)=0)||decide (c.kind=1)))=((namC c.kind||decide (c.name=(⟨#[]⟩:ByteArray)))&&(decide (c.kind=1)||decide ((c.data.length:Int)=0))):=by
   cases namC c.kind<;>cases decide (c.name=(⟨#[]⟩:ByteArray))<;>cases decide (c.kind=1)<;>cases decide ((c.data.length:Int)=0)<;>rfl
  rw [e] at h
  exact h
def parC (cs:List Cor) (a:Int):Int:=(corAt cs a.toNat).parent
def arW (cs:List Cor) (at_ o:Int):Int:=if at_<0 then -1 else if (corAt cs at_.toNat).kind=5 then (if o=0 then at_ else if parC cs at_<at_ then arW cs (parC cs at_) (o - 1) else -1) else if parC cs at_<at_ then arW cs (parC cs at_) o else -1
termination_by (at_+1).toNat
decreasing_by all_goals omega
def PaC (cs:List Cor) (i:Nat):Prop:=∀a:Int,0≤a→a<i→parC cs a<a∧ -1≤parC cs a
theorem arW_le {cs:List Cor} (n:Nat):∀at_ o:Int,(at_+1).toNat≤n→0≤o→0≤arW cs at_ o→o≤at_∧arW cs at_ o≤at_:=by
 induction n with
 |zero=>intro a o h h0 h1;rw [arW,if_pos (by omega)] at h1;omega
 |succ n ih=>
  intro a o h h0 h1
  rw [arW] at h1 ⊢
  split at h1
  ·omega
  ·rw [if_neg (by assumption)]
   split at h1
   ·rw [if_pos (by assumption)]
    split at h1
    ·rw [if_pos (by assumption)];omega
    ·rw [if_neg (by assumption)]
     split at h1
     ·rw [if_pos (by assumption)]
      have:=ih _ _ (by omega) (by omega) h1
      omega
     ·omega
   ·rw [if_neg (by assumption)]
    split at h1
    ·rw [if_pos (by assumption)]
     have:=ih _ _ (by omega) h0 h1
     omega
    ·omega
theorem idx_C {cs:List Cor} {a:Int} (h0:0≤a) (h:a<cs.length):idx 6 (roC cs) (iv a) σ=some (.rop (encCor (corAt cs a.toNat)) 0):=by
 have h1:a.toNat<cs.length:=by omega
 rw [←corAt_eq h1]
 exact idx_roI h0 h1 len_encCor
theorem zeroCor (a b c d:Int):Fz σ τ (.agg [iv a,iv b,iv c,iv d,str ⟨#[]⟩,nilS]) (.agg (encCor ⟨a,b,c,d,⟨#[]⟩,[]⟩)):=by
 refine .agg rfl fun j hj=>?_
 match j,hj with
 |0,_=>exact .same _
 |1,_=>exact .same _
 |2,_=>exact .same _
 |3,_=>exact .same _
 |4,_=>exact .same _
 |5,_=>exact .nil
theorem c_impl_lambdaOut {cs:List Cor} {i:Nat} {a:Int} (hi:i<cs.length) (hP:PaC cs i) (hp:parC cs i<i) (ha:a≤9223372036854775807) (h:∀(q:Cor) (b:Bool),(0≤a→b=decide (0≤arW cs (parC cs i) a)∧(b=true→q=corAt cs (arW cs (parC cs i) a).toNat))→R (.ret (.tup [.agg (encCor q),bv b])) σ):
  acall TP fn_impl_lambdaOut [roC cs,iv (i:Int),iv a] σ R:=by
 refine s_impl_lambdaOut_ok ?_
 unfold s_impl_lambdaOut
 intro φ hφ
 have l1:∀k τ,lod (.rop (encCor (corAt cs k)) 1) τ=some (iv (corAt cs k).parent):=fun _ _=>rfl
 have l0:∀k τ,lod (.rop (encCor (corAt cs k)) 0) τ=some (iv (corAt cs k).kind):=fun _ _=>rfl
 have ei:=fun τ=>idx_C (σ:=τ) (a:=(i:Int)) (cs:=cs) (by omega) (by omega)
 simp only [ei,l1,RR]
 refine lp_by (fun n x τ=>∃k o:Int,x=(roC cs,iv o,.ptr φ 0 0 0,iv k,())∧τ=σ.set φ ⟨0,6,[[iv 0,iv 0,iv 0,iv 0,str ⟨#[]⟩,nilS]]⟩∧(k+1).toNat=n∧k<i∧(0≤a→0≤o∧o≤a∧arW cs k o=arW cs (parC cs i) a)) ((parC cs i)+1).toNat ⟨parC cs i,a,rfl,rfl,rfl,hp,fun h0=>⟨h0,Int.le_refl _,rfl⟩⟩ ?_
 rintro n x τ ⟨k,o,rfl,rfl,hn,hk,hinv⟩ R' hR'
 have fin:∀(q:Cor) (q':List AV) (b:Bool),(∀τ',Fz σ τ' (.agg q') (.agg (encCor q)))→q'.length=6→(∀y,y∈q'→y.one=true)→(0≤a→b=decide (0≤arW cs (parC cs i) a)∧(b=true→q=corAt cs (arW cs (parC cs i) a).toNat))→
   sto 6 (.ptr φ 0 0 0) (.agg q') (σ.set φ ⟨0,6,[[iv 0,iv 0,iv 0,iv 0,str ⟨#[]⟩,nilS]]⟩) fun σ=>og (lodA 6 (.ptr φ 0 0 0) σ) fun r6=>aret (.tup [r6,bv b]) σ R:=by
  intro q q' b hz hl h1 hq
  refine sto_own (es:=[[iv 0,iv 0,iv 0,iv 0,str ⟨#[]⟩,nilS]]) (cs:=q') (AH.set_same ..) (by simp) rfl rfl hl h1 ?_
  simp only [List.set_cons_zero,AH.set_set]
  have e:=lodA_at (σ:=σ.set φ ⟨0,6,[q']⟩) (φ:=φ) (st:=0) (i:=0) (n:=6) (cs:=q') (AH.set_same ..) rfl rfl hl
  rw [e]
  refine aret_freeze (a':= .tup [.agg (encCor q),bv b]) (.set (.refl σ) _ hφ) (.tup rfl fun j hj=>?_) (h q b hq)
  match j,hj with
  |0,_=>exact hz _
  |1,_=>exact .same _
 by_cases c0:0≤k
 ·have ek:=fun τ=>idx_C (σ:=τ) (a:=k) (cs:=cs) c0 (by omega)
  obtain ⟨p1,p2⟩:=hP k c0 hk
  have nxt:∀o':Int,(0≤a→0≤o'∧o'≤a∧arW cs (parC cs k) o'=arW cs (parC cs i) a)→R' (roC cs,iv o',.ptr φ 0 0 0,iv (corAt cs k.toNat).parent,()) (σ.set φ ⟨0,6,[[iv 0,iv 0,iv 0,iv 0,str ⟨#[]⟩,nilS]]⟩):=fun o' ho=>hR' _ _ (parC cs k+1).toNat _ (by omega) (.refl _) ⟨parC cs k,o',rfl,rfl,rfl,by omega,ho⟩
  simp only [c0,ek,l0,l1,jn,RR]
  by_cases c5:(corAt cs k.toNat).kind=5
  ·simp only [c5,RR]
   by_cases c1:o=0
   ·simp only [c1,lodA_all (len_encCor _),RR]
    refine fin (corAt cs k.toNat) _ true (fun _=> .same _) rfl (one_encCor _) fun h0=>?_
    obtain ⟨_,_,g3⟩:=hinv h0
    rw [arW,if_neg (by omega),if_pos c5,if_pos c1] at g3
    rw [←g3]
    exact ⟨by simp [c0],fun _=>rfl⟩
   ·have es:ibin .sub (iv o) (.val (.int .i64 1))=some (iv (IntKind.i64.wrap (o - 1))):=rfl
    simp only [c1,es,RR]
    refine nxt _ fun h0=>?_
    obtain ⟨g1,g2,g3⟩:=hinv h0
    rw [arW,if_neg (by omega),if_pos c5,if_neg c1,if_pos p1] at g3
    rw [i64_wrap (by omega) (by omega)]
    exact ⟨by omega,by omega,g3⟩
  ·simp only [c5,RR]
   refine nxt _ fun h0=>?_
   obtain ⟨g1,g2,g3⟩:=hinv h0
   rw [arW,if_neg (by omega),if_neg c5,if_pos p1] at g3
   exact ⟨g1,g2,g3⟩
 ·have eb:bld [(.val (.int .i64 0)),(.val (.int .i64 0)),(.val (.int .i64 0)),(.val (.int .i64 0)),(.val (.string ⟨#[]⟩)),(.val (.slice none 0 0))] [(0,1),(1,1),(2,1),(3,1),(4,1),(5,1)] []=some (.agg [iv 0,iv 0,iv 0,iv 0,str ⟨#[]⟩,nilS]):=rfl
  simp only [c0,eb,RR]
  refine fin ⟨0,0,0,0,⟨#[]⟩,[]⟩ _ false (fun _=>zeroCor 0 0 0 0) rfl (by intro y hy;simp only [List.mem_cons,List.not_mem_nil,or_false] at hy;rcases hy with rfl|rfl|rfl|rfl|rfl|rfl<;>rfl) fun h0=>?_
  obtain ⟨_,_,g3⟩:=hinv h0
  rw [arW,if_pos (by omega)] at g3
  rw [←g3]
  exact ⟨by simp,fun c=>by cases c⟩
theorem c_spec_l4Around {cs:List Cor} {i:Nat} {a:Int} (hi:i<cs.length) (hP:PaC cs i) (hp:parC cs i<i) (h0:0≤a) (ha:a≤160) (h:R (.ret (iv (arW cs (parC cs i) a))) σ):
  acall TP fn_spec_l4Around [roC cs,iv (i:Int),iv a] σ R:=by
 refine s_spec_l4Around_ok ?_
 unfold s_spec_l4Around
 have l1:∀k τ,lod (.rop (encCor (corAt cs k)) 1) τ=some (iv (corAt cs k).parent):=fun _ _=>rfl
 have l0:∀k τ,lod (.rop (encCor (corAt cs k)) 0) τ=some (iv (corAt cs k).kind):=fun _ _=>rfl
 have ei:=fun τ=>idx_C (σ:=τ) (a:=(i:Int)) (cs:=cs) (by omega) (by omega)
 simp only [ei,l1,RR]
 refine lp_by (fun n x τ=>∃k o:Int,x=(roC cs,iv o,iv k,())∧τ=σ∧(k+1).toNat=n∧k<i∧0≤o∧o≤a∧arW cs k o=arW cs (parC cs i) a) ((parC cs i)+1).toNat ⟨parC cs i,a,rfl,rfl,rfl,hp,h0,Int.le_refl _,rfl⟩ ?_
 rintro n x τ ⟨k,o,rfl,rfl,hn,hk,g1,g2,g3⟩ R' hR'
 by_cases c0:0≤k
 ·have ek:=fun τ=>idx_C (σ:=τ) (a:=k) (cs:=cs) c0 (by omega)
  obtain ⟨p1,p2⟩:=hP k c0 hk
  simp only [c0,ek,l0,l1,jn,RR]
  by_cases c5:(corAt cs k.toNat).kind=5
  ·simp only [c5,RR]
   by_cases c1:o=0
   ·simp only [c1,RR]
    rw [arW,if_neg (by omega),if_pos c5,if_pos c1] at g3
    rw [←g3] at h
    exact ret_here h
   ·simp only [c1,ibin_sub (a:=o) (b:=1) (by omega) (by omega),RR]
    rw [arW,if_neg (by omega),if_pos c5,if_neg c1,if_pos p1] at g3
    exact hR' _ _ (parC cs k+1).toNat _ (by omega) (.refl _) ⟨parC cs k,o - 1,rfl,rfl,rfl,by omega,by omega,by omega,g3⟩
  ·simp only [c5,RR]
   rw [arW,if_neg (by omega),if_neg c5,if_pos p1] at g3
   exact hR' _ _ (parC cs k+1).toNat _ (by omega) (.refl _) ⟨parC cs k,o,rfl,rfl,rfl,by omega,g1,g2,g3⟩
 ·simp only [c0,RR]
  rw [arW,if_pos (by omega)] at g3
  rw [←g3] at h
  exact ret_here h
end Go.Proofs.YtbppopcpgcgkkaaGreatDoor.E
/- Cores: the fault of one, the program's way. -/
namespace Go.Proofs.YtbppopcpgcgkkaaGreatDoor.E
open Go Go.RowKit
set_option maxRecDepth 100000
def placeB (cs:List Cor) (i:Nat):Bool:=
 if (corAt cs i).kind=5 then inB 0 3 (corAt cs i).a
 else if (corAt cs i).kind=2 then decide (0≤(corAt cs i).a)&&decide (0≤arW cs (parC cs i) (corAt cs i).a)&&inB 0 (IntKind.i64.wrap ((corAt cs (arW cs (parC cs i) (corAt cs i).a).toNat).a - 1)) (corAt cs i).b
 else true
def coreF (cs:List Cor) (i:Nat):Int:=
 if bareC (corAt cs i)=false then 1
 else if (i=0∧(corAt cs i).parent≠ -1)∨(0<i∧inB 0 ((i:Int) - 1) (corAt cs i).parent=false) then 3
 else if 0<i∧upW (parC cs) ((i:Int) - 1) (corAt cs i).parent=false then 1
 else if namC (corAt cs i).kind=true∧nameB (corAt cs i).name=false then 5
 else if (corAt cs i).kind=1∧dataF (corAt cs i).data≠0 then dataF (corAt cs i).data
 else if (corAt cs i).kind=8∧0<i then 1
 else if placeB cs i=false then 3 else 0
variable [L:Lam]
variable {σ τ τ':AH} {R:AEnd→AH→Prop}
theorem c_impl_oneCoreFault_1 {cs:List Cor} {a:Int} (h0:0≤a) (h1:a<cs.length) (h:R (.ret (iv (parC cs a))) σ):acall TP fn_impl_oneCoreFault_1 [iv a,.rop [roC cs] 0] σ R:=by
 refine s_impl_oneCoreFault_1_ok ?_
 unfold s_impl_oneCoreFault_1
 have l1:∀k τ,lod (.rop (encCor (corAt cs k)) 1) τ=some (iv (corAt cs k).parent):=fun _ _=>rfl
 simp only [lod_1,idx_C h0 h1,l1,RR]
 exact ret_here h
set_option maxHeartbeats 1000000 in
theorem c_impl_oneCoreFault {cs:List Cor} {i:Nat} (hi:i<cs.length) (hl:cs.length≤160) (hP:PaC cs i) (ha:(corAt cs i).a≤9223372036854775807) (h:R (.ret (iv (coreF cs i))) σ):acall TP fn_impl_oneCoreFault [roC cs,iv (i:Int)] σ R:=by
 refine s_impl_oneCoreFault_ok ?_
 unfold s_impl_oneCoreFault
 refine box_frz rfl ?_
 have ei:=fun τ=>idx_C (σ:=τ) (a:=(i:Int)) (cs:=cs) (by omega) (by omega)
 rw [Int.toNat_natCast] at ei
 simp only [lod_1,ei,lodA_all (len_encCor _),RR]
 refine new_encCor rfl ?_
 simp only [lodA_all (len_encCor _),RR]
 refine c_impl_coreForm ?_
 have pc:parC cs (i:Int)=(corAt cs i).parent:=rfl
 unfold coreF at h
 unfold placeB at h
 rw [pc] at h
 have hlo:∀(hp:parC cs (i:Int)<i) (R':AEnd→AH→Prop),(∀(q:Cor) (b:Bool),(0≤(corAt cs i).a→b=decide (0≤arW cs (parC cs i) (corAt cs i).a)∧(b=true→q=corAt cs (arW cs (parC cs i) (corAt cs i).a).toNat))→R' (.ret (.tup [.agg (encCor q),bv b])) σ)→
   acall TP fn_impl_lambdaOut [roC cs,iv (i:Int),iv (corAt cs i).a] σ R':=fun hp R'=>c_impl_lambdaOut hi hP hp ha
 rw [pc] at hlo
 have hup:∀(hi0:0<i) (R':AEnd→AH→Prop),R' (.ret (bv (upW (parC cs) ((i:Int) - 1) (corAt cs i).parent))) σ→acall TP fn_impl_isUp [.clo (.func fn_impl_oneCoreFault_1) [] [.rop [roC cs] 0],iv ((i:Int) - 1),iv (corAt cs i).parent] σ R':=fun hi0 R' hR=>
  c_impl_isUp (p:=parC cs) (n:=(i:Int)) (fun a R h0 h1 h=>acallv_clo (c_impl_oneCoreFault_1 h0 (by omega) h)) (fun a h0 h1=>(hP a h0 h1).1) (by omega) hR
 have l0:∀τ,lod (.rop (encCor (corAt cs i)) 0) τ=some (iv (corAt cs i).kind):=fun _=>rfl
 have l1:∀τ,lod (.rop (encCor (corAt cs i)) 1) τ=some (iv (corAt cs i).parent):=fun _=>rfl
 have l2:∀τ,lod (.rop (encCor (corAt cs i)) 2) τ=some (iv (corAt cs i).a):=fun _=>rfl
 have l3:∀τ,lod (.rop (encCor (corAt cs i)) 3) τ=some (iv (corAt cs i).b):=fun _=>rfl
 have l4:∀τ,lod (.rop (encCor (corAt cs i)) 4) τ=some (str (corAt cs i).name):=fun _=>rfl
 have l5:∀τ,lod (.rop (encCor (corAt cs i)) 5) τ=some (roD (corAt cs i).data):=fun _=>rfl
 generalize hc:corAt cs i=c at*
 cases hb:bareC c with
 |false=>
  rw [if_pos hb] at h
  simp only [RR]
  exact ret_here h
 |true=>
 rw [if_neg (by rw [hb];decide)] at h
 have es:ibin .sub (iv (i:Int)) (.val (.int .i64 1))=some (iv ((i:Int) - 1)):=ibin_sub (by omega) (by omega)
 simp only [l0,l1,l2,l3,l4,l5,jn,es,RR]
 have d3:decide ((0:Int)<(i:Int))=decide (0<i):=by congr 1;apply propext;omega
 have d4:decide ((i:Int)=0)=decide (i=0):=by congr 1;apply propext;omega
 rcases Nat.eq_zero_or_pos i with h0|h0
 case' inl=>
  have d1:decide (i=0)=true:=by simp [h0]
  have d2:decide (0<i)=false:=by simp [h0]
  by_cases hp:c.parent= -1
  case neg=>
   have dp:decide (c.parent= -1)=false:=by simp [hp]
   rw [if_pos (.inl ⟨h0,hp⟩)] at h
   simp only [l0,l1,l2,l3,l4,l5,es,d3,d4,d1,d2,dp,RR]
   exact ret_here h
  have dp:decide (c.parent= -1)=true:=by simp [hp]
  have hpi:c.parent<(i:Int):=by omega
  rw [if_neg (by omega),if_neg (by omega)] at h
  simp only [l0,l1,l2,l3,l4,l5,es,d3,d4,d1,d2,dp,RR]
 case' inr=>
  have d1:decide (i=0)=false:=by simp;omega
  have d2:decide (0<i)=true:=by simp [h0]
  simp only [l0,l1,l2,l3,l4,l5,es,d3,d4,d1,d2,RR]
  refine c_impl_in ?_
  cases hpb:inB 0 ((i:Int) - 1) c.parent
  case false=>
   rw [if_pos (.inr ⟨h0,hpb⟩)] at h
   simp only [l0,l1,l2,l3,l4,l5,es,d3,d4,RR]
   exact ret_here h
  have hpi:c.parent<(i:Int):=by have:=inB_iff.1 hpb;omega
  rw [if_neg (by rw [hpb];rintro (⟨k,_⟩|⟨_,k⟩)<;>first|omega|cases k)] at h
  simp only [l0,l1,l2,l3,l4,l5,es,d3,d4,RR]
  refine hup h0 _ ?_
  cases hub:upW (parC cs) ((i:Int) - 1) c.parent
  case false=>
   rw [if_pos ⟨h0,hub⟩] at h
   simp only [l0,l1,l2,l3,l4,l5,es,d3,d4,RR]
   exact ret_here h
  rw [if_neg (by rw [hub];rintro ⟨_,k⟩;cases k)] at h
  simp only [l0,l1,l2,l3,l4,l5,es,d3,d4,RR]
 all_goals
  refine c_impl_named ?_
  cases hn:namC c.kind
  case' false=>
   rw [if_neg (fun k=>by have:=k.1;rw [hn] at this;cases this)] at h
   simp only [l0,l1,l2,l3,l4,l5,es,d3,d4,RR]
  case' true=>
   simp only [l0,l1,l2,l3,l4,l5,es,d3,d4,RR]
   refine c_impl_isName ?_
   cases hm:nameB c.name
   case false=>
    rw [if_pos ⟨hn,hm⟩] at h
    simp only [l0,l1,l2,l3,l4,l5,es,d3,d4,RR]
    exact ret_here h
   rw [if_neg (by rw [hm];rintro ⟨_,k⟩;cases k)] at h
   simp only [l0,l1,l2,l3,l4,l5,es,d3,d4,RR]
 all_goals
  by_cases k1:c.kind=1
  ·rw [if_neg (show ¬(c.kind=8∧0<i) by omega),if_neg (show ¬c.kind=5 by omega),if_neg (show ¬c.kind=2 by omega),if_neg (show ¬true=false by decide)] at h
   have e2:(if c.kind=1∧dataF c.data≠0 then dataF c.data else 0)=dataF c.data:=by
    by_cases z:dataF c.data=0
    ·rw [if_neg (fun k=>k.2 z),z]
    ·rw [if_pos ⟨k1,z⟩]
   rw [e2] at h
   simp only [l0,l1,l2,l3,l4,l5,es,d3,d4,k1,RR]
   refine c_impl_DataFault ?_
   simp only [l0,l1,l2,l3,l4,l5,es,d3,d4,RR]
   exact ret_here h
  rw [if_neg (fun k=>k1 k.1)] at h
  by_cases k8:c.kind=8
  ·rw [if_neg (show ¬c.kind=5 by omega),if_neg (show ¬c.kind=2 by omega),if_neg (show ¬true=false by decide)] at h
   by_cases q:0<i
   ·rw [if_pos ⟨k8,q⟩] at h
    have dq:decide (0<i)=true:=by simp [q]
    first
     |omega
     |(simp only [l0,l1,l2,l3,l4,l5,es,d3,d4,k8,dq,Int.reduceEq,RR];exact ret_here h)
   ·rw [if_neg (fun k=>q k.2)] at h
    have dq:decide (0<i)=false:=by simp [q]
    first
     |omega
     |(simp only [l0,l1,l2,l3,l4,l5,es,d3,d4,k8,dq,Int.reduceEq,RR];exact ret_here h)
  rw [if_neg (fun k=>k8 k.1)] at h
  by_cases k5:c.kind=5
  ·rw [if_pos k5] at h
   simp only [l0,l1,l2,l3,l4,l5,es,d3,d4,k5,Int.reduceEq,RR]
   refine c_impl_in ?_
   cases hq:inB 0 3 c.a
   ·rw [hq,if_pos rfl] at h
    simp only [l0,l1,l2,l3,l4,l5,es,d3,d4,RR]
    exact ret_here h
   ·rw [hq,if_neg (by decide)] at h
    simp only [l0,l1,l2,l3,l4,l5,es,d3,d4,RR]
    exact ret_here h
  rw [if_neg k5] at h
  by_cases k2:c.kind=2
  ·rw [if_pos k2] at h
   simp only [l0,l1,l2,l3,l4,l5,es,d3,d4,k2,lod_1,Int.reduceEq,RR]
   refine hlo hpi _ fun q b hq=>?_
   have y0:aext (.tup [.agg (encCor q),bv b]) 0=some (.agg (encCor q)):=rfl
   have y1:aext (.tup [.agg (encCor q),bv b]) 1=some (bv b):=rfl
   simp only [y0,y1,RR]
   refine new_encCor rfl ?_
   have m2:∀τ,lod (.rop (encCor q) 2) τ=some (iv q.a):=fun _=>rfl
   have ew:ibin .sub (iv q.a) (.val (.int .i64 1))=some (iv (IntKind.i64.wrap (q.a - 1))):=rfl
   by_cases a0:c.a<0
   ·have ga:decide (c.a<0)=true:=by simp [a0]
    have gb:decide (0≤c.a)=false:=by simp;omega
    rw [gb,Bool.false_and,Bool.false_and,if_pos rfl] at h
    simp only [l0,l1,l2,l3,l4,l5,es,d3,d4,m2,ew,ga,RR]
    exact ret_here h
   ·have ga:decide (c.a<0)=false:=by simp;omega
    have gb:decide (0≤c.a)=true:=by simp;omega
    obtain ⟨g1,g2⟩:=hq (by omega)
    rw [gb,Bool.true_and,←g1] at h
    cases b with
    |false=>
     rw [Bool.false_and,if_pos rfl] at h
     simp only [l0,l1,l2,l3,l4,l5,es,d3,d4,m2,ew,ga,RR]
     exact ret_here h
    |true=>
     rw [←g2 rfl,Bool.true_and] at h
     simp only [l0,l1,l2,l3,l4,l5,es,d3,d4,m2,ew,ga,RR]
     refine c_impl_in ?_
     cases hz:inB 0 (IntKind.i64.wrap (q.a - 1)) c.b
     ·rw [hz,if_pos rfl] at h
      simp only [RR]
      exact ret_here h
     ·rw [hz,if_neg (show ¬true=false by decide)] at h
      simp only [RR]
      exact ret_here h
  ·rw [if_neg k2,if_neg (show ¬true=false by decide)] at h
   simp only [l0,l1,l2,l3,l4,l5,es,d3,d4,k1,k8,k5,k2,RR]
   exact ret_here h
end Go.Proofs.YtbppopcpgcgkkaaGreatDoor.E
/- Cores: the fault of one, the reference's way; the fault of all. -/
namespace Go.Proofs.YtbppopcpgcgkkaaGreatDoor.E
open Go Go.RowKit
set_option maxRecDepth 100000
variable [L:Lam]
variable {σ τ τ':AH} {R:AEnd→AH→Prop}
theorem c_spec_l4Line {cs:List Cor} {i:Nat} (hi:i<cs.length) (hl:cs.length≤160) (hP:PaC cs i) (h:R (.ret (bv (upW (parC cs) ((i:Int) - 1) (corAt cs i).parent))) σ):acall TP fn_spec_l4Line [roC cs,iv (i:Int)] σ R:=by
 refine s_spec_l4Line_ok ?_
 unfold s_spec_l4Line
 have l1:∀k τ,lod (.rop (encCor (corAt cs k)) 1) τ=some (iv (corAt cs k).parent):=fun _ _=>rfl
 have ei:=fun τ=>idx_C (σ:=τ) (a:=(i:Int)) (cs:=cs) (by omega) (by omega)
 rw [Int.toNat_natCast] at ei
 simp only [ibin_sub (a:=(i:Int)) (b:=1) (by omega) (by omega),RR]
 refine lp_by (fun k x σ'=>∃a n:Int,x=(roC cs,iv (i:Int),iv n,iv a,())∧σ'=σ∧(a+1).toNat=k∧a<i∧0≤n∧n+a≤160∧upW (parC cs) a (corAt cs i).parent=upW (parC cs) ((i:Int) - 1) (corAt cs i).parent) ((i:Int) - 1+1).toNat ⟨(i:Int) - 1,0,rfl,rfl,rfl,by omega,by omega,by omega,rfl⟩ ?_
 rintro k x σ' ⟨a,n,rfl,rfl,hk,ha,hn,hna,e⟩ R' hR'
 rw [upW] at e
 by_cases c0:0≤a
 ·rw [if_neg (by omega)] at e
  have ek:=fun τ=>idx_C (σ:=τ) (a:=a) (cs:=cs) c0 (by omega)
  have cn:n<200:=by omega
  simp only [c0,cn,ei,ek,l1,RR]
  by_cases c1:a=(corAt cs i).parent
  ·rw [if_pos c1] at e
   rw [←e] at h
   have d1:decide (a=(corAt cs i).parent)=true:=by simp [c1]
   simp only [d1,RR]
   exact ret_here h
  ·rw [if_neg c1,if_pos (hP a c0 (by omega)).1] at e
   have d1:decide (a=(corAt cs i).parent)=false:=by simp [c1]
   simp only [d1,ibin_add (a:=n) (b:=1) (by omega) (by omega),RR]
   have:=(hP a c0 (by omega)).1
   exact hR' _ _ (parC cs a+1).toNat σ' (by omega) (.refl _) ⟨parC cs a,n+1,rfl,rfl,rfl,by omega,by omega,by omega,e⟩
 ·rw [if_pos (by omega)] at e
  rw [←e] at h
  simp only [c0,RR]
  exact ret_here h
theorem c_spec_l4Place {cs:List Cor} {i:Nat} (hi:i<cs.length) (hl:cs.length≤160) (hP:PaC cs i) (hp:parC cs i<i) (h:R (.ret (bv (placeB cs i))) σ):acall TP fn_spec_l4Place [roC cs,iv (i:Int)] σ R:=by
 refine s_spec_l4Place_ok ?_
 unfold s_spec_l4Place
 have ei:=fun τ=>idx_C (σ:=τ) (a:=(i:Int)) (cs:=cs) (by omega) (by omega)
 rw [Int.toNat_natCast] at ei
 have l0:∀τ,lod (.rop (encCor (corAt cs i)) 0) τ=some (iv (corAt cs i).kind):=fun _=>rfl
 have l2:∀k τ,lod (.rop (encCor (corAt cs k)) 2) τ=some (iv (corAt cs k).a):=fun _ _=>rfl
 have l3:∀τ,lod (.rop (encCor (corAt cs i)) 3) τ=some (iv (corAt cs i).b):=fun _=>rfl
 unfold placeB at h
 simp only [ei,l0,l2,l3,RR]
 by_cases k5:(corAt cs i).kind=5
 ·rw [if_pos k5] at h
  simp only [k5,RR]
  refine c_spec_l1In ?_
  simp only [RR]
  exact ret_here h
 rw [if_neg k5] at h
 by_cases k2:(corAt cs i).kind=2
 case neg=>
  rw [if_neg k2] at h
  simp only [k5,k2,RR]
  exact ret_here h
 rw [if_pos k2] at h
 simp only [k2,Int.reduceEq,RR]
 refine c_spec_l1In ?_
 have hle:=arW_le (cs:=cs) (parC cs i+1).toNat (parC cs i) (corAt cs i).a (Nat.le_refl _)
 cases hr:inB 0 160 (corAt cs i).a with
 |false=>
  simp only [RR]
  have:(decide (0≤(corAt cs i).a)&&decide (0≤arW cs (parC cs i) (corAt cs i).a))=false:=by
   refine Bool.eq_false_iff.2 fun c=>?_
   rw [Bool.and_eq_true,decide_eq_true_eq,decide_eq_true_eq] at c
   have:=hle c.1 c.2
   have:inB 0 160 (corAt cs i).a=true:=inB_iff.2 ⟨c.1,by omega⟩
   rw [hr] at this;cases this
  rw [this,Bool.false_and] at h
  exact ret_here h
 |true=>
  obtain ⟨r0,r1⟩:=inB_iff.1 hr
  simp only [jn,RR]
  refine c_spec_l4Around hi hP hp r0 r1 ?_
  have g0:decide (0≤(corAt cs i).a)=true:=by simp [r0]
  rw [g0,Bool.true_and] at h
  by_cases ar:0≤arW cs (parC cs i) (corAt cs i).a
  ·have g1:decide (0≤arW cs (parC cs i) (corAt cs i).a)=true:=by simp [ar]
   rw [g1,Bool.true_and] at h
   have:=hle r0 ar
   have ek:=fun τ=>idx_C (σ:=τ) (a:=arW cs (parC cs i) (corAt cs i).a) (cs:=cs) ar (by omega)
   have ew:∀x:Int,ibin .sub (iv x) (.val (.int .i64 1))=some (iv (IntKind.i64.wrap (x - 1))):=fun _=>rfl
   simp only [ar,ek,l2,l3,ew,RR]
   refine c_spec_l1In ?_
   simp only [RR,true_and]
   exact ret_here h
  ·have g1:decide (0≤arW cs (parC cs i) (corAt cs i).a)=false:=by simp [ar]
   rw [g1,Bool.false_and] at h
   simp only [ar,RR]
   exact ret_here h
set_option maxHeartbeats 1000000 in
theorem c_spec_l4One {cs:List Cor} {i:Nat} (hi:i<cs.length) (hl:cs.length≤160) (hP:PaC cs i) (hnm:(corAt cs i).name.size≤1099511627776) (hsd:sD (corAt cs i).data) (h:R (.ret (iv (coreF cs i))) σ):acall TP fn_spec_l4One [roC cs,iv (i:Int)] σ R:=by
 refine s_spec_l4One_ok ?_
 unfold s_spec_l4One
 have ei:=fun τ=>idx_C (σ:=τ) (a:=(i:Int)) (cs:=cs) (by omega) (by omega)
 rw [Int.toNat_natCast] at ei
 simp only [ei,RR]
 refine c_spec_l4Bare ?_
 have pc:parC cs (i:Int)=(corAt cs i).parent:=rfl
 unfold coreF at h
 have hpl:∀(hp:parC cs (i:Int)<i) (R':AEnd→AH→Prop),R' (.ret (bv (placeB cs i))) σ→acall TP fn_spec_l4Place [roC cs,iv (i:Int)] σ R':=fun hp R'=>c_spec_l4Place hi hl hP hp
 rw [pc] at hpl
 have hup:∀(R':AEnd→AH→Prop),R' (.ret (bv (upW (parC cs) ((i:Int) - 1) (corAt cs i).parent))) σ→acall TP fn_spec_l4Line [roC cs,iv (i:Int)] σ R':=fun R' hR=>c_spec_l4Line hi hl hP hR
 have l0:∀τ,lod (.rop (encCor (corAt cs i)) 0) τ=some (iv (corAt cs i).kind):=fun _=>rfl
 have l1:∀τ,lod (.rop (encCor (corAt cs i)) 1) τ=some (iv (corAt cs i).parent):=fun _=>rfl
 have l4:∀τ,lod (.rop (encCor (corAt cs i)) 4) τ=some (str (corAt cs i).name):=fun _=>rfl
 have l5:∀τ,lod (.rop (encCor (corAt cs i)) 5) τ=some (roD (corAt cs i).data):=fun _=>rfl
 have pk:placeB cs i=false→(corAt cs i).kind=5∨(corAt cs i).kind=2:=fun c=>by
  unfold placeB at c
  split at c
  ·exact .inl (by assumption)
  ·split at c
   ·exact .inr (by assumption)
   ·cases c
 generalize hc:corAt cs i=c at*
 generalize placeB cs i=pl at*
 cases hb:bareC c with
 |false=>
  rw [if_pos hb] at h
  simp only [RR]
  exact ret_here h
 |true=>
 rw [if_neg (by rw [hb];decide)] at h
 have es:ibin .sub (iv (i:Int)) (.val (.int .i64 1))=some (iv ((i:Int) - 1)):=ibin_sub (by omega) (by omega)
 simp only [jn,RR]
 have d3:decide ((0:Int)<(i:Int))=decide (0<i):=by congr 1;apply propext;omega
 have d4:decide ((i:Int)=0)=decide (i=0):=by congr 1;apply propext;omega
 rcases Nat.eq_zero_or_pos i with h0|h0
 case' inl=>
  have d1:decide (i=0)=true:=by simp [h0]
  have d2:decide (0<i)=false:=by simp [h0]
  by_cases hp:c.parent= -1
  case neg=>
   have dp:decide (c.parent= -1)=false:=by simp [hp]
   rw [if_pos (.inl ⟨h0,hp⟩)] at h
   simp only [l0,l1,l4,l5,es,d3,d4,d1,d2,dp,RR]
   exact ret_here h
  have dp:decide (c.parent= -1)=true:=by simp [hp]
  have hpi:c.parent<(i:Int):=by omega
  rw [if_neg (by omega),if_neg (by omega)] at h
  simp only [l0,l1,l4,l5,es,d3,d4,d1,d2,dp,RR]
 case' inr=>
  have d1:decide (i=0)=false:=by simp;omega
  have d2:decide (0<i)=true:=by simp [h0]
  simp only [l0,l1,l4,l5,es,d3,d4,d1,d2,RR]
  refine c_spec_l1In ?_
  cases hpb:inB 0 ((i:Int) - 1) c.parent
  case false=>
   rw [if_pos (.inr ⟨h0,hpb⟩)] at h
   simp only [l0,l1,l4,l5,es,d3,d4,RR]
   exact ret_here h
  have hpi:c.parent<(i:Int):=by have:=inB_iff.1 hpb;omega
  rw [if_neg (by rw [hpb];rintro (⟨k,_⟩|⟨_,k⟩)<;>first|omega|cases k)] at h
  simp only [l0,l1,l4,l5,es,d3,d4,d1,d2,RR]
  refine hup _ ?_
  cases hub:upW (parC cs) ((i:Int) - 1) c.parent
  case false=>
   rw [if_pos ⟨h0,hub⟩] at h
   simp only [l0,l1,l4,l5,es,d3,d4,RR]
   exact ret_here h
  rw [if_neg (by rw [hub];rintro ⟨_,k⟩;cases k)] at h
  simp only [l0,l1,l4,l5,es,d3,d4,RR]
 all_goals
  refine c_spec_l4Named ?_
  cases hn:namC c.kind
  case' false=>
   rw [if_neg (fun k=>by have:=k.1;rw [hn] at this;cases this)] at h
   simp only [l0,l1,l4,l5,es,d3,d4,RR]
  case' true=>
   simp only [l0,l1,l4,l5,es,d3,d4,RR]
   refine c_spec_l4Name hnm ?_
   cases hm:nameB c.name
   case false=>
    rw [if_pos ⟨hn,hm⟩] at h
    simp only [l0,l1,l4,l5,es,d3,d4,RR]
    exact ret_here h
   rw [if_neg (by rw [hm];rintro ⟨_,k⟩;cases k)] at h
   simp only [l0,l1,l4,l5,es,d3,d4,RR]
 all_goals
  by_cases k1:c.kind=1
  ·simp only [l0,l1,l4,l5,es,d3,d4,k1,Int.reduceEq,RR]
   refine c_spec_l3Fault hsd ?_
   by_cases z:dataF c.data=0
   ·rw [if_neg (fun k=>k.2 z),if_neg (show ¬(c.kind=8∧0<i) by omega)] at h
    have dz:decide (dataF c.data=0)=true:=by simp [z]
    simp only [l0,l1,l4,l5,es,d3,d4,dz,RR]
    refine hpl hpi _ ?_
    cases pl
    ·exact absurd (pk rfl) (by omega)
    ·rw [if_neg (show ¬true=false by decide)] at h
     simp only [RR]
     exact ret_here h
   ·rw [if_pos ⟨k1,z⟩] at h
    have dz:decide (dataF c.data=0)=false:=by simp [z]
    simp only [l0,l1,l4,l5,es,d3,d4,dz,RR]
    exact ret_here h
  rw [if_neg (fun k=>k1 k.1)] at h
  by_cases k8:c.kind=8
  ·by_cases q:0<i
   ·rw [if_pos ⟨k8,q⟩] at h
    have dq:decide (0<i)=true:=by simp [q]
    simp only [l0,l1,l4,l5,es,d3,d4,k8,dq,Int.reduceEq,RR]
    exact ret_here h
   ·rw [if_neg (fun k=>q k.2)] at h
    have dq:decide (0<i)=false:=by simp [q]
    simp only [l0,l1,l4,l5,es,d3,d4,k8,dq,Int.reduceEq,RR]
    refine hpl hpi _ ?_
    cases pl
    ·exact absurd (pk rfl) (by omega)
    ·rw [if_neg (show ¬true=false by decide)] at h
     simp only [RR]
     exact ret_here h
  rw [if_neg (fun k=>k8 k.1)] at h
  simp only [l0,l1,l4,l5,es,d3,d4,k1,k8,RR]
  refine hpl hpi _ ?_
  cases pl
  ·rw [if_pos rfl] at h
   simp only [RR]
   exact ret_here h
  ·rw [if_neg (show ¬true=false by decide)] at h
   simp only [RR]
   exact ret_here h
end Go.Proofs.YtbppopcpgcgkkaaGreatDoor.E
/- Cores: the fault of all; code of cores, by both. -/
namespace Go.Proofs.YtbppopcpgcgkkaaGreatDoor.E
open Go Go.RowKit
set_option maxRecDepth 100000
def hasKB (k n:Int):Bool:=if k=4 then decide (n=3) else if k=5∨k=7∨k=8 then decide (n=1) else if k=6 then decide (1≤n) else if k=9 then decide (1≤n)&&decide (n≤4) else decide (n=0)
def kidF (cs:List Cor) (i:Nat):Int:=if hasKB (corAt cs i).kind ((kidsC cs i).length:Int) then 0 else 1
def coresF (cs:List Cor):Int:=if inB 1 160 (cs.length:Int) then (if firstF (coreF cs) 0 cs.length≠0 then firstF (coreF cs) 0 cs.length else firstF (kidF cs) 0 cs.length) else 2
variable [L:Lam]
theorem coreF_bare {cs:List Cor} {i:Nat} (h:coreF cs i=0):bareC (corAt cs i)=true:=by
 unfold coreF at h
 split at h
 ·cases h
 ·rename_i c;simpa using c
theorem coreF_par {cs:List Cor} {i:Nat} (h:coreF cs i=0):(i=0→(corAt cs i).parent= -1)∧(0<i→0≤(corAt cs i).parent∧(corAt cs i).parent<i):=by
 unfold coreF at h
 split at h
 ·cases h
 split at h
 ·cases h
 ·rename_i c
  refine ⟨fun h0=>Classical.byContradiction fun k=>c (.inl ⟨h0,k⟩),fun h0=>?_⟩
  have:inB 0 ((i:Int) - 1) (corAt cs i).parent=true:=by
   cases e:inB 0 ((i:Int) - 1) (corAt cs i).parent with
   |true=>rfl
   |false=>exact absurd (.inr ⟨h0,e⟩) c
  have:=inB_iff.1 this
  omega
theorem coreF_data {cs:List Cor} {i:Nat} (h:coreF cs i=0):(corAt cs i).data.length≤80:=by
 have hb:=coreF_bare h
 unfold coreF at h
 split at h;· cases h
 split at h;· cases h
 split at h;· cases h
 split at h;· cases h
 split at h
 ·rename_i c;exact absurd h c.2
 ·rename_i c
  by_cases k1:(corAt cs i).kind=1
  ·have hd:dataF (corAt cs i).data=0:=Classical.byContradiction fun k=>c ⟨k1,k⟩
   unfold dataF at hd
   split at hd
   ·rename_i hl;have:=inB_iff.1 hl;omega
   ·cases hd
  ·unfold bareC at hb
   rw [Bool.and_eq_true,Bool.or_eq_true,decide_eq_true_eq,decide_eq_true_eq] at hb
   rcases hb.2 with h|h
   ·omega
   ·exact absurd h k1
theorem paC_of {cs:List Cor} {i:Nat} (h:∀j,j<i→coreF cs j=0):PaC cs i:=by
 intro a h0 h1
 have:=coreF_par (h a.toNat (by omega))
 unfold parC
 rcases Nat.eq_zero_or_pos a.toNat with c|c
 ·rw [this.1 c];omega
 ·have:=this.2 c;omega
theorem all_belowC {f:Nat→Int} {i:Nat} (h:∀j,j<i→f j=0) (hi:f i=0):∀j,j<i+1→f j=0:=fun j hj=>by
 by_cases c:j<i
 ·exact h j c
 ·obtain rfl:j=i:=by omega
  exact hi
theorem hasKB_iff {k:Int} {n:Nat}:hasKB k (n:Int)=true↔hasK k n:=by
 unfold hasKB hasK
 split
 ·simp;omega
 split
 ·simp;omega
 split
 ·simp;omega
 split
 ·simp;omega
 ·simp
theorem coresF_wf {cs:List Cor} (h:coresF cs=0):WfC cs∧∀i,(corAt cs i).data.length≤80:=by
 unfold coresF at h
 split at h
 case isFalse=>cases h
 rename_i hl
 have hl:=inB_iff.1 hl
 split at h
 ·rename_i c;exact absurd h c
 rename_i c
 have hc:=firstF_zero cs.length 0 (Classical.byContradiction c)
 have hk:=firstF_zero cs.length 0 h
 refine ⟨⟨by omega,fun i hi=>?_,(coreF_par (hc 0 (Nat.le_refl _) (by omega))).1 rfl,fun i h0 hi=>(coreF_par (hc i (Nat.zero_le _) (by omega))).2 h0,fun i hi=>?_⟩,fun i=>?_⟩
 ·have hb:=coreF_bare (hc i (Nat.zero_le _) (by omega))
  unfold bareC bareC1 at hb
  simp only [Bool.and_eq_true] at hb
  exact inB_iff.1 hb.1.1.1.1
 ·have:=hk i (Nat.zero_le _) (by omega)
  unfold kidF at this
  split at this
  ·rename_i hh;exact hasKB_iff.1 hh
  ·cases this
 ·by_cases hi:i<cs.length
  ·exact coreF_data (hc i (Nat.zero_le _) (by omega))
  ·have:corAt cs i=default:=by simp [corAt,List.getD,List.getElem?_eq_none (Nat.le_of_not_lt hi)]
   rw [this]
   show ([]:List Dat).length≤80
   simp
variable {σ τ τ':AH} {R:AEnd→AH→Prop}
theorem c_impl_hasKids {k n:Int} (h:R (.ret (bv (hasKB k n))) σ):acall TP fn_impl_hasKids [iv k,iv n] σ R:=by
 refine s_impl_hasKids_ok ?_
 unfold s_impl_hasKids
 unfold hasKB at h
 simp only [jn,RR]
 by_cases k4:k=4
 ·rw [if_pos k4] at h;simp only [k4,RR];exact ret_here h
 rw [if_neg k4] at h
 by_cases k5:k=5
 ·rw [if_pos (by omega)] at h;simp only [k5,Int.reduceEq,RR];exact ret_here h
 by_cases k7:k=7
 ·rw [if_pos (by omega)] at h;simp only [k7,Int.reduceEq,RR];exact ret_here h
 by_cases k8:k=8
 ·rw [if_pos (by omega)] at h;simp only [k8,Int.reduceEq,RR];exact ret_here h
 rw [if_neg (by omega)] at h
 by_cases k6:k=6
 ·rw [if_pos k6] at h;simp only [k6,Int.reduceEq,RR];exact ret_here h
 rw [if_neg k6] at h
 by_cases k9:k=9
 ·rw [if_pos k9] at h;simp only [k9,Int.reduceEq,RR]
  refine c_impl_in ?_
  simp only [RR]
  exact ret_here h
 ·rw [if_neg k9] at h;simp only [k4,k5,k6,k7,k8,k9,RR];exact ret_here h
theorem c_spec_l4Many {k n:Int} (h:R (.ret (bv (hasKB k n))) σ):acall TP fn_spec_l4Many [iv k,iv n] σ R:=by
 refine s_spec_l4Many_ok ?_
 unfold s_spec_l4Many
 unfold hasKB at h
 simp only [jn,RR]
 by_cases k4:k=4
 ·rw [if_pos k4] at h;simp only [k4,RR];exact ret_here h
 rw [if_neg k4] at h
 by_cases k5:k=5
 ·rw [if_pos (by omega)] at h;simp only [k5,Int.reduceEq,RR];exact ret_here h
 by_cases k7:k=7
 ·rw [if_pos (by omega)] at h;simp only [k7,Int.reduceEq,RR];exact ret_here h
 by_cases k8:k=8
 ·rw [if_pos (by omega)] at h;simp only [k8,Int.reduceEq,RR];exact ret_here h
 rw [if_neg (by omega)] at h
 by_cases k6:k=6
 ·rw [if_pos k6] at h;simp only [k6,Int.reduceEq,RR];exact ret_here h
 rw [if_neg k6] at h
 by_cases k9:k=9
 ·rw [if_pos k9] at h;simp only [k9,Int.reduceEq,RR,RG]
  exact ret_here h
 ·rw [if_neg k9] at h;simp only [k4,k5,k6,k7,k8,k9,RR];exact ret_here h
def aOk (cs:List Cor):Prop:=∀i,(corAt cs i).a≤9223372036854775807
theorem c_impl_CoreFault {cs:List Cor} (ha:aOk cs) (hbig:cs.length≤9223372036854775807) (h:R (.ret (iv (coresF cs))) σ):acall TP fn_impl_CoreFault [roC cs] σ R:=by
 refine s_impl_CoreFault_ok ?_
 unfold s_impl_CoreFault
 unfold coresF at h
 simp only [len_ro,RR]
 refine c_impl_in ?_
 simp only [RR]
 cases c1:inB 1 160 (cs.length:Int) with
 |false=>
  rw [if_neg (by rw [c1];decide)] at h
  simp only [RR]
  exact ret_here h
 |true=>
 rw [if_pos c1] at h
 have hl:=inB_iff.1 c1
 simp only [RR]
 refine lp_same cs.length (fun i=>(roC cs,iv (cs.length:Int),iv (i:Int),())) (fun i=>∀j,j<i→coreF cs j=0) rfl (fun j hj=>by omega) ?_
 intro i hi hj R' hR'
 by_cases hlt:i<cs.length
 ·have g:(i:Int)<(cs.length:Int):=by omega
  simp only [g,RR]
  refine c_impl_oneCoreFault hlt (by omega) (paC_of hj) (ha i) ?_
  simp only [RR]
  by_cases c2:coreF cs i=0
  ·have d:decide (coreF cs i=0)=true:=by simp [c2]
   simp only [d,ibin_up hlt (by omega),RR]
   exact hR' hlt (all_belowC hj c2) σ (.refl _)
  ·have d:decide (coreF cs i=0)=false:=by simp [c2]
   simp only [d,RR]
   rw [firstF_at c2 cs.length 0 (Nat.zero_le _) (by omega) (fun j _ h2=>hj j h2),if_pos c2] at h
   exact ret_here h
 ·have g:¬(i:Int)<(cs.length:Int):=by omega
  obtain rfl:i=cs.length:=by omega
  simp only [g,RR]
  rw [firstF_all cs.length 0 (fun j _ h2=>hj j (by omega)),if_neg (by simp)] at h
  refine c_impl_kids (by omega) (fun j hjl=>?_) ?_
  ·have:=coreF_par (hj j hjl)
   rcases Nat.eq_zero_or_pos j with c|c
   ·rw [this.1 c];omega
   ·have:=this.2 c;omega
  have hal:(allK cs).length=cs.length:=by simp [allK]
  simp only [len_ro,hal,RR]
  refine lp_same cs.length (fun i=>(roC cs,roKK cs,iv (cs.length:Int),iv (i:Int),())) (fun i=>∀j,j<i→kidF cs j=0) rfl (fun j hj=>by omega) ?_
  intro i hi hk R2 hR2
  by_cases hlt:i<cs.length
  ·have g:(i:Int)<(cs.length:Int):=by omega
   have ei:=fun τ=>idx_C (σ:=τ) (a:=(i:Int)) (cs:=cs) (by omega) (by omega)
   rw [Int.toNat_natCast] at ei
   have l0:∀τ,lod (.rop (encCor (corAt cs i)) 0) τ=some (iv (corAt cs i).kind):=fun _=>rfl
   simp only [g,idx_KK hlt,lod_1,ei,l0,lenK,RR]
   refine c_impl_hasKids ?_
   simp only [RR]
   cases c2:hasKB (corAt cs i).kind ((kidsC cs i).length:Int) with
   |true=>
    simp only [ibin_up hlt (by omega),RR]
    exact hR2 hlt (all_belowC hk (by unfold kidF;rw [if_pos c2])) σ (.refl _)
   |false=>
    simp only [RR]
    have e:kidF cs i=1:=by unfold kidF;rw [if_neg (by rw [c2];decide)]
    rw [firstF_at (k:=i) (by rw [e];decide) cs.length 0 (Nat.zero_le _) (by omega) (fun j _ h2=>hk j h2),e] at h
    exact ret_here h
  ·have g:¬(i:Int)<(cs.length:Int):=by omega
   obtain rfl:i=cs.length:=by omega
   simp only [g,RR]
   rw [firstF_all cs.length 0 (fun j _ h2=>hk j (by omega))] at h
   exact ret_here h
theorem c_spec_l4Fault {cs:List Cor} (hnm:∀i,(corAt cs i).name.size≤1099511627776) (hsd:∀i,sD (corAt cs i).data) (h:R (.ret (iv (coresF cs))) σ):acall TP fn_spec_l4Fault [roC cs] σ R:=by
 refine s_spec_l4Fault_ok ?_
 unfold s_spec_l4Fault
 unfold coresF at h
 simp only [len_ro,RR,RG]
 refine apick_cases (fun c1=>?_) (fun c1=>?_)
 ·have c1:inB 1 160 (cs.length:Int)=false:=by
   simp only [Bool.or_eq_true,decide_eq_true_eq] at c1
   rw [Bool.eq_false_iff];intro hc;have:=inB_iff.1 hc;omega
  rw [if_neg (by rw [c1];decide)] at h
  exact ret_here h
 have hl:1≤cs.length∧cs.length≤160:=by
  simp only [Bool.or_eq_false_iff,decide_eq_false_iff_not] at c1;omega
 rw [if_pos (inB_iff.2 (by omega))] at h
 refine lp_same cs.length (fun i=>(roC cs,iv (i:Int),())) (fun i=>∀j,j<i→coreF cs j=0) rfl (fun j hj=>by omega) ?_
 intro i hi hj R' hR'
 simp only [len_ro,RR]
 by_cases hlt:i<cs.length
 ·have g:(i:Int)<(cs.length:Int):=by omega
  simp only [g,RR]
  refine c_spec_l4One hlt hl.2 (paC_of hj) (hnm i) (hsd i) ?_
  simp only [RR]
  by_cases c2:coreF cs i=0
  ·have d:decide (coreF cs i=0)=true:=by simp [c2]
   simp only [d,ibin_up hlt (by omega),RR]
   exact hR' hlt (all_belowC hj c2) σ (.refl _)
  ·have d:decide (coreF cs i=0)=false:=by simp [c2]
   simp only [d,RR]
   rw [firstF_at c2 cs.length 0 (Nat.zero_le _) (by omega) (fun j _ h2=>hj j h2),if_pos c2] at h
   exact ret_here h
 ·have g:¬(i:Int)<(cs.length:Int):=by omega
  obtain rfl:i=cs.length:=by omega
  simp only [g,RR]
  rw [firstF_all cs.length 0 (fun j _ h2=>hj j (by omega)),if_neg (by simp)] at h
  refine lp_same cs.length (fun i=>(roC cs,iv (i:Int),())) (fun i=>∀j,j<i→kidF cs j=0) rfl (fun j hj=>by omega) ?_
  intro i hi hk R2 hR2
  simp only [len_ro,RR]
  by_cases hlt:i<cs.length
  ·have g:(i:Int)<(cs.length:Int):=by omega
   have ei:=fun τ=>idx_C (σ:=τ) (a:=(i:Int)) (cs:=cs) (by omega) (by omega)
   rw [Int.toNat_natCast] at ei
   have l0:∀τ,lod (.rop (encCor (corAt cs i)) 0) τ=some (iv (corAt cs i).kind):=fun _=>rfl
   simp only [g,ei,l0,RR]
   refine c_spec_l4Kids (by omega) ?_
   simp only [ei,l0,lenK,RR,true_and,and_true]
   refine c_spec_l4Many ?_
   simp only [RR,true_and]
   cases c2:hasKB (corAt cs i).kind ((kidsC cs i).length:Int) with
   |true=>
    simp only [ibin_up hlt (by omega),RR]
    exact hR2 hlt (all_belowC hk (by unfold kidF;rw [if_pos c2])) σ (.refl _)
   |false=>
    simp only [RR]
    have e:kidF cs i=1:=by unfold kidF;rw [if_neg (by rw [c2];decide)]
    rw [firstF_at (k:=i) (by rw [e];decide) cs.length 0 (Nat.zero_le _) (by omega) (fun j _ h2=>hk j h2),e] at h
    exact ret_here h
  ·have g:¬(i:Int)<(cs.length:Int):=by omega
   obtain rfl:i=cs.length:=by omega
   simp only [g,RR]
   rw [firstF_all cs.length 0 (fun j _ h2=>hk j (by omega))] at h
   exact ret_here h
end Go.Proofs.YtbppopcpgcgkkaaGreatDoor.E
/- Forms that are expanded to cores: the plain law. No program in sight. -/
namespace Go.Proofs.YtbppopcpgcgkkaaGreatDoor.E
open Go Go.RowKit
def kidsD (ds:List Dat) (x:Nat):List Nat:=(List.range ds.length).filter fun i=>decide ((dat ds i).parent=(x:Int))
def deepN (ds:List Dat) (i:Nat):Nat:=deepW (par ds) (i:Int)
def subG (ds:List Dat) (x:Nat):Nat→Nat→List Dat
 |0,_=>[]
 |f+1,i=>if i<ds.length∧(i=x∨deepN ds x<deepN ds i) then {dat ds i with parent:=if i=x then -1 else (dat ds i).parent - x}::subG ds x f (i+1) else []
def subD (ds:List Dat) (x:Nat):List Dat:=subG ds x (ds.length - x) x
theorem subG_le (ds:List Dat) (x:Nat):∀f i,(subG ds x f i).length≤f:=by
 intro f
 induction f with
 |zero=>intro i;simp [subG]
 |succ f ih=>
  intro i
  rw [subG]
  split
  ·have:=ih (i+1);simp;omega
  ·simp
theorem subD_le (ds:List Dat) (x:Nat):(subD ds x).length≤ds.length:=Nat.le_trans (subG_le ..) (Nat.sub_le ..)
def konC (p:Int) (d:List Dat):Cor:=⟨1,p,0,0,⟨#[]⟩,d⟩
def locC (p:Int) (a b:Nat):Cor:=⟨2,p,(a:Int),(b:Int),⟨#[]⟩,[]⟩
def nodC (k p:Int) (a:Nat):Cor:=⟨k,p,(a:Int),0,⟨#[]⟩,[]⟩
def nmdC (k p:Int) (s:ByteArray):Cor:=⟨k,p,0,0,s,[]⟩
abbrev Sco:=List (List ByteArray)
def posL:List ByteArray→ByteArray→Option Nat
 |[],_=>none
 |t::r,s=>if t=s then some 0 else (posL r s).map (·+1)
def findE:Sco→ByteArray→Option (Nat × Nat)
 |[],_=>none
 |ns::r,s=>match posL ns s with
  |some b=>some (0,b)
  |none=>(findE r s).map fun p=>(p.1+1,p.2)
abbrev Ex:=List Cor × Int
def allE (g:Nat→List Cor→Ex):List Nat→List Cor→Ex
 |[],C=>(C,0)
 |k::r,C=>if (g k C).2≠0 then g k C else allE g r (g k C).1
def badP (ds:List Dat) (x:Nat) (ns:List ByteArray):Bool:=decide ((dat ds x).kind≠3)||kwB (dat ds x).name||inL ns (dat ds x).name
def namesE (ds:List Dat):List Nat→List ByteArray→Option (List ByteArray)
 |[],ns=>some ns
 |k::r,ns=>if badP ds k ns then none else namesE ds r (ns++[(dat ds k).name])
def letsE (ds:List Dat):List Nat→List ByteArray→List Nat→Option (List ByteArray × List Nat)
 |[],ns,vs=>some (ns,vs)
 |k::r,ns,vs=>if (kidsD ds k).length≠2 then none else if badP ds ((kidsD ds k).getD 0 0) ns then none else letsE ds r (ns++[(dat ds ((kidsD ds k).getD 0 0)).name]) (vs++[(kidsD ds k).getD 1 0])
abbrev Gx:=Nat→Int→Sco→List Cor→Ex
def lamE (ds:List Dat) (g:Gx) (ks:List Nat) (p:Int) (sc:Sco) (C:List Cor):Ex:=
 if ks.length≠3∨(dat ds (ks.getD 1 0)).kind≠4 then (C,1)
 else match namesE ds (kidsD ds (ks.getD 1 0)) [] with
  |none=>(C,1)
  |some ns=>if 3<ns.length then (C,2) else g (ks.getD 2 0) (C.length:Int) (ns::sc) (C++[nodC 5 p ns.length])
def letE (ds:List Dat) (g:Gx) (ks:List Nat) (p:Int) (sc:Sco) (C:List Cor):Ex:=
 if ks.length≠3∨(dat ds (ks.getD 1 0)).kind≠4 then (C,1)
 else match letsE ds (kidsD ds (ks.getD 1 0)) [] [] with
  |none=>(C,1)
  |some (ns,vs)=>if 3<ns.length then (C,2)
   else if (g (ks.getD 2 0) ((C.length+1:Nat):Int) (ns::sc) (C++[nodC 9 p 0]++[nodC 5 (C.length:Int) ns.length])).2≠0 then g (ks.getD 2 0) ((C.length+1:Nat):Int) (ns::sc) (C++[nodC 9 p 0]++[nodC 5 (C.length:Int) ns.length])
   else allE (fun k C'=>g k (C.length:Int) sc C') vs (g (ks.getD 2 0) ((C.length+1:Nat):Int) (ns::sc) (C++[nodC 9 p 0]++[nodC 5 (C.length:Int) ns.length])).1
def asgE (ds:List Dat) (g:Gx) (ks:List Nat) (p:Int) (sc:Sco) (C:List Cor) (kind:Int):Ex:=
 if ks.length≠3∨(kind=8∧p≠ -1) then (C,1)
 else if badP ds (ks.getD 1 0) [] then (C,1)
 else if (findE sc (dat ds (ks.getD 1 0)).name).isSome then (C,1)
 else g (ks.getD 2 0) (C.length:Int) sc (C++[nmdC kind p (dat ds (ks.getD 1 0)).name])
def formE (ds:List Dat) (g:Gx) (w:ByteArray) (ks:List Nat) (p:Int) (sc:Sco) (C:List Cor):Ex:=
 if w=⟨#[113,117,111,116,101]⟩ then (if ks.length≠2 then (C,1) else (C++[konC p (subD ds (ks.getD 1 0))],0))
 else if w=⟨#[105,102]⟩ then (if ks.length≠4 then (C,1) else allE (fun k C'=>g k (C.length:Int) sc C') (ks.drop 1) (C++[nodC 4 p 0]))
 else if w=⟨#[98,101,103,105,110]⟩ then (if ks.length<2 then (C,1) else allE (fun k C'=>g k (C.length:Int) sc C') (ks.drop 1) (C++[nodC 6 p 0]))
 else if w=⟨#[108,97,109,98,100,97]⟩ then lamE ds g ks p sc C
 else if w=⟨#[108,101,116]⟩ then letE ds g ks p sc C
 else if w=⟨#[100,101,102,105,110,101]⟩ then asgE ds g ks p sc C 8
 else asgE ds g ks p sc C 7
def expE (ds:List Dat):Nat→Gx
 |0,_,_,_,C=>(C,1)
 |f+1,x,p,sc,C=>
  if (dat ds x).kind=1∨(dat ds x).kind=2 then (C++[konC p (subD ds x)],0)
  else if (dat ds x).kind=3 then
   (if kwB (dat ds x).name then (C,1)
   else match findE sc (dat ds x).name with
    |some (a,b)=>(C++[locC p a b],0)
    |none=>(C++[nmdC 3 p (dat ds x).name],0))
  else if (kidsD ds x).length=0 then (C,1)
  else if (dat ds ((kidsD ds x).getD 0 0)).kind=3∧kwB (dat ds ((kidsD ds x).getD 0 0)).name=true then formE ds (expE ds f) (dat ds ((kidsD ds x).getD 0 0)).name (kidsD ds x) p sc C
  else if 4<(kidsD ds x).length then (C,2)
  else allE (fun k C'=>expE ds f k (C.length:Int) sc C') (kidsD ds x) (C++[nodC 9 p 0])
def expR (ds:List Dat):Ex:=
 if dataF ds≠0 then ([],dataF ds)
 else if (expE ds ds.length 0 (-1) [] []).2≠0 then ([],(expE ds ds.length 0 (-1) [] []).2)
 else if 160<(expE ds ds.length 0 (-1) [] []).1.length then ([],2)
 else ((expE ds ds.length 0 (-1) [] []).1,0)
def cntC (S:List Cor) (q:Int):Nat:=(S.filter fun c=>decide (c.parent=q)).length
theorem cnt_app (S T:List Cor) (q:Int):cntC (S++T) q=cntC S q+cntC T q:=by simp [cntC]
theorem cnt_cons (c:Cor) (S:List Cor) (q:Int):cntC (c::S) q=(if c.parent=q then 1 else 0)+cntC S q:=by
 unfold cntC
 rw [List.filter_cons]
 split
 ·rename_i h;rw [if_pos (by simpa using h)];simp;omega
 ·rename_i h;rw [if_neg (by simpa using h)];omega
theorem corAt_mem {S:List Cor} {c:Cor} (h:c∈S):∃i,i<S.length∧corAt S i=c:=by
 obtain ⟨i,hi,rfl⟩:=List.getElem_of_mem h
 exact ⟨i,hi,by simp [corAt,List.getD,hi]⟩
theorem cnt_zero {S:List Cor} {q:Int} (h:∀i,i<S.length→(corAt S i).parent≠q):cntC S q=0:=by
 unfold cntC
 rw [List.length_eq_zero_iff,List.filter_eq_nil_iff]
 intro c hc
 obtain ⟨i,hi,rfl⟩:=corAt_mem hc
 simpa using h i hi
theorem corAt_left {S T:List Cor} {i:Nat} (h:i<S.length):corAt (S++T) i=corAt S i:=by simp [corAt,List.getD,List.getElem?_append_left h]
theorem corAt_right {S T:List Cor} {i:Nat} (h:S.length≤i):corAt (S++T) i=corAt T (i - S.length):=by simp [corAt,List.getD,List.getElem?_append_right h]
structure Seg (n:Nat) (p:Int) (S:List Cor) (k:Nat):Prop where
 lt:p<n
 par:∀i,i<S.length→(corAt S i).parent=p∨((n:Int)≤(corAt S i).parent∧(corAt S i).parent<(n:Int)+i)
 cnt:cntC S p=k
 kid:∀i,i<S.length→hasK (corAt S i).kind (cntC S ((n+i:Nat):Int))
 kind:∀i,i<S.length→1≤(corAt S i).kind∧(corAt S i).kind≤9
 data:∀i,i<S.length→(corAt S i).data.length≤80
theorem Seg.nil {n:Nat} {p:Int} (h:p<n):Seg n p [] 0:=⟨h,(fun i h=>by simp at h),rfl,(fun i h=>by simp at h),(fun i h=>by simp at h),fun i h=>by simp at h⟩
theorem Seg.cat {n k l:Nat} {p:Int} {S T:List Cor} (h:Seg n p S k) (g:Seg (n+S.length) p T l):Seg n p (S++T) (k+l):=by
 have hlt:=h.lt
 refine ⟨h.lt,fun i hi=>?_,by rw [cnt_app,h.cnt,g.cnt],fun i hi=>?_,fun i hi=>?_,fun i hi=>?_⟩
 ·by_cases c:i<S.length
  ·rw [corAt_left c];exact h.par i c
  ·rw [corAt_right (by omega)]
   have:=g.par (i - S.length) (by rw [List.length_append] at hi;omega)
   omega
 ·by_cases c:i<S.length
  ·rw [corAt_left c,cnt_app,cnt_zero (S:=T),Nat.add_zero]
   ·exact h.kid i c
   ·intro j hj
    have:=g.par j hj
    omega
  ·rw [corAt_right (by omega),cnt_app,cnt_zero (S:=S),Nat.zero_add]
   ·have:=g.kid (i - S.length) (by rw [List.length_append] at hi;omega)
    rwa [show n+S.length+(i - S.length)=n+i by omega] at this
   ·intro j hj
    have:=h.par j hj
    omega
 ·by_cases c:i<S.length
  ·rw [corAt_left c];exact h.kind i c
  ·rw [corAt_right (by omega)];exact g.kind _ (by rw [List.length_append] at hi;omega)
 ·by_cases c:i<S.length
  ·rw [corAt_left c];exact h.data i c
  ·rw [corAt_right (by omega)];exact g.data _ (by rw [List.length_append] at hi;omega)
theorem Seg.node {n k:Nat} {p:Int} {c:Cor} {S:List Cor} (h:Seg (n+1) (n:Int) S k) (hp:p<n) (hc:c.parent=p) (hk:hasK c.kind k) (hr:1≤c.kind∧c.kind≤9) (hd:c.data.length≤80):Seg n p (c::S) 1:=by
 have e0:corAt (c::S) 0=c:=rfl
 have e1:∀i,corAt (c::S) (i+1)=corAt S i:=fun i=>by simp [corAt]
 refine ⟨hp,fun i hi=>?_,?_,fun i hi=>?_,fun i hi=>?_,fun i hi=>?_⟩
 ·cases i with
  |zero=>rw [e0];exact .inl hc
  |succ i=>
   rw [e1]
   have:=h.par i (by simpa using hi)
   omega
 ·rw [cnt_cons,if_pos hc,cnt_zero]
  intro i hi
  have:=h.par i hi
  omega
 ·cases i with
  |zero=>
   rw [e0,cnt_cons,if_neg (by omega),Nat.zero_add,Nat.add_zero,h.cnt];exact hk
  |succ i=>
   rw [e1,cnt_cons,if_neg (by omega),Nat.zero_add]
   have:=h.kid i (by simpa using hi)
   rwa [show n+1+i=n+(i+1) by omega] at this
 ·cases i with
  |zero=>exact hr
  |succ i=>rw [e1];exact h.kind i (by simpa using hi)
 ·cases i with
  |zero=>exact hd
  |succ i=>rw [e1];exact h.data i (by simpa using hi)
def Grows (r:Ex) (C:List Cor) (p:Int) (k:Nat):Prop:=r.2=0→∃S,r.1=C++S∧Seg C.length p S k
theorem all_grows {p:Int} {g:Nat→List Cor→Ex} (hg:∀k C,p<(C.length:Int)→Grows (g k C) C p 1):∀ks C,p<(C.length:Int)→Grows (allE g ks C) C p ks.length:=by
 intro ks
 induction ks with
 |nil=>intro C hp _;exact ⟨[],by simp [allE],.nil hp⟩
 |cons k r ih=>
  intro C hp h
  rw [allE] at h ⊢
  by_cases c:(g k C).2=0
  ·rw [if_neg (by simpa using c)] at h ⊢
   obtain ⟨S,e,hs⟩:=hg k C hp c
   rw [e] at h ⊢
   obtain ⟨T,e2,ht⟩:=ih (C++S) (by simp;omega) h
   refine ⟨S++T,by rw [e2,List.append_assoc],?_⟩
   rw [List.length_append] at ht
   have:=hs.cat ht
   rwa [List.length_cons,Nat.add_comm r.length 1]
  ·rw [if_pos (by simpa using c)] at h
   exact absurd h c
theorem one_grows {C:List Cor} {p:Int} {c:Cor} (hp:p<(C.length:Int)) (hc:c.parent=p) (hk:hasK c.kind 0) (hr:1≤c.kind∧c.kind≤9) (hd:c.data.length≤80):Grows (C++[c],0) C p 1:=
 fun _=>⟨[c],rfl,(Seg.nil (n:=C.length+1) (p:=(C.length:Int)) (by omega)).node hp hc hk hr hd⟩
theorem node_grows {C:List Cor} {p:Int} {c:Cor} {r:Ex} {k:Nat} (h:Grows r (C++[c]) (C.length:Int) k) (hp:p<(C.length:Int)) (hc:c.parent=p) (hk:r.2=0→hasK c.kind k) (hr:1≤c.kind∧c.kind≤9) (hd:c.data.length≤80):Grows r C p 1:=by
 intro h0
 obtain ⟨S,e,hs⟩:=h h0
 rw [List.length_append] at hs
 exact ⟨c::S,by rw [e,List.append_assoc];rfl,hs.node hp hc (hk h0) hr hd⟩
theorem no_grows {C D:List Cor} {p:Int} {k:Nat} {e:Int} (h:e≠0):Grows (D,e) C p k:=fun h0=>absurd h0 h
section
variable {ds:List Dat}
abbrev GrowsG (g:Gx):Prop:=∀x p sc C,p<(C.length:Int)→Grows (g x p sc C) C p 1
theorem lam_grows {g:Gx} (hg:GrowsG g) {ks:List Nat} {p:Int} {sc:Sco} {C:List Cor} (hp:p<(C.length:Int)):Grows (lamE ds g ks p sc C) C p 1:=by
 unfold lamE
 split
 ·exact no_grows (by decide)
 ·split
  ·exact no_grows (by decide)
  ·split
   ·exact no_grows (by decide)
   ·exact node_grows (hg _ _ _ _ (by simp;omega)) hp rfl (fun _=>by simp [hasK,nodC]) (by simp [nodC]) (by simp [nodC])
theorem let_grows {g:Gx} (hg:GrowsG g) {ks:List Nat} {p:Int} {sc:Sco} {C:List Cor} (hp:p<(C.length:Int)) (hl:∀ns vs,letsE ds (kidsD ds (ks.getD 1 0)) [] []=some (ns,vs)→vs.length=ns.length):Grows (letE ds g ks p sc C) C p 1:=by
 unfold letE
 split
 ·exact no_grows (by decide)
 ·split
  ·exact no_grows (by decide)
  ·rename_i ns vs e
   have hvl:=hl ns vs e
   split
   ·exact no_grows (by decide)
   ·rename_i h3
    refine node_grows (c:=nodC 9 p 0) (k:=vs.length+1) ?_ hp rfl (fun _=>?_) (by simp [nodC]) (by simp [nodC])
    ·have hb:Grows (g (ks.getD 2 0) ((C.length+1:Nat):Int) (ns::sc) (C++[nodC 9 p 0]++[nodC 5 (C.length:Int) ns.length])) (C++[nodC 9 p 0]) (C.length:Int) 1:=by
      refine node_grows (c:=nodC 5 (C.length:Int) ns.length) (k:=1) ?_ (by simp;omega) rfl (fun _=>by simp [hasK,nodC]) (by simp [nodC]) (by simp [nodC])
      have:=hg (ks.getD 2 0) ((C.length+1:Nat):Int) (ns::sc) (C++[nodC 9 p 0]++[nodC 5 (C.length:Int) ns.length]) (by simp)
      simpa using this
     generalize g (ks.getD 2 0) ((C.length+1:Nat):Int) (ns::sc) (C++[nodC 9 p 0]++[nodC 5 (C.length:Int) ns.length])=r at hb ⊢
     split
     ·rename_i hne;exact fun h0=>absurd h0 hne
     ·rename_i hne
      obtain ⟨S,e1,hs⟩:=hb (by simpa using hne)
      intro h0
      rw [e1] at h0 ⊢
      obtain ⟨T,e2,ht⟩:=all_grows (p:=(C.length:Int)) (g:=fun k C'=>g k (C.length:Int) sc C') (fun k C' h=>hg _ _ _ _ h) vs (C++[nodC 9 p 0]++S) (by simp;omega) h0
      refine ⟨S++T,by rw [e2,List.append_assoc],?_⟩
      rw [List.length_append] at ht
      have:=hs.cat ht
      rwa [Nat.add_comm 1] at this
    ·rw [hvl];simp [hasK,nodC];omega
theorem asg_grows {g:Gx} (hg:GrowsG g) {ks:List Nat} {p kind:Int} {sc:Sco} {C:List Cor} (hp:p<(C.length:Int)) (hk:kind=7∨kind=8):Grows (asgE ds g ks p sc C kind) C p 1:=by
 unfold asgE
 split
 ·exact no_grows (by decide)
 ·split
  ·exact no_grows (by decide)
  ·split
   ·exact no_grows (by decide)
   ·exact node_grows (hg _ _ _ _ (by simp;omega)) hp rfl (fun _=>by rcases hk with rfl|rfl<;>simp [hasK,nmdC]) (by rcases hk with rfl|rfl<;>simp [nmdC]) (by simp [nmdC])
theorem lets_len:∀(l:List Nat) (ns:List ByteArray) (vs:List Nat) (ns':List ByteArray) (vs':List Nat),ns.length=vs.length→letsE ds l ns vs=some (ns',vs')→vs'.length=ns'.length:=by
 intro l
 induction l with
 |nil=>intro ns vs ns' vs' h e;simp only [letsE,Option.some.injEq,Prod.mk.injEq] at e;rw [←e.1,←e.2,h]
 |cons k r ih=>
  intro ns vs ns' vs' h e
  rw [letsE] at e
  split at e
  ·cases e
  ·split at e
   ·cases e
   ·exact ih _ _ _ _ (by simp [h]) e
theorem form_grows {g:Gx} (hl:ds.length≤80) (hg:GrowsG g) {w:ByteArray} {ks:List Nat} {p:Int} {sc:Sco} {C:List Cor} (hp:p<(C.length:Int)):Grows (formE ds g w ks p sc C) C p 1:=by
 unfold formE
 split
 ·split
  ·exact no_grows (by decide)
  ·exact one_grows hp rfl (by simp [hasK,konC]) (by simp [konC]) (Nat.le_trans (subD_le ..) hl)
 split
 ·split
  ·exact no_grows (by decide)
  ·rename_i h4
   exact node_grows (all_grows (fun k C' h=>hg _ _ _ _ h) _ _ (by simp;omega)) hp rfl (fun _=>by simp [hasK,nodC];omega) (by simp [nodC]) (by simp [nodC])
 split
 ·split
  ·exact no_grows (by decide)
  ·rename_i h4
   exact node_grows (all_grows (fun k C' h=>hg _ _ _ _ h) _ _ (by simp;omega)) hp rfl (fun _=>by simp [hasK,nodC];omega) (by simp [nodC]) (by simp [nodC])
 split
 ·exact lam_grows hg hp
 split
 ·exact let_grows hg hp fun ns vs e=>lets_len _ _ _ _ _ rfl e
 split
 ·exact asg_grows hg hp (.inr rfl)
 ·exact asg_grows hg hp (.inl rfl)
theorem exp_grows (hl:ds.length≤80):∀f,GrowsG (expE ds f):=by
 intro f
 induction f with
 |zero=>intro x p sc C _;exact no_grows (by decide)
 |succ f ih=>
  intro x p sc C hp
  rw [expE]
  split
  ·exact one_grows hp rfl (by simp [hasK,konC]) (by simp [konC]) (Nat.le_trans (subD_le ..) hl)
  split
  ·split
   ·exact no_grows (by decide)
   ·split
    ·exact one_grows hp rfl (by simp [hasK,locC]) (by simp [locC]) (by simp [locC])
    ·exact one_grows hp rfl (by simp [hasK,nmdC]) (by simp [nmdC]) (by simp [nmdC])
  split
  ·exact no_grows (by decide)
  rename_i hne
  split
  ·exact form_grows hl ih hp
  split
  ·exact no_grows (by decide)
  ·exact node_grows (all_grows (fun k C' h=>ih _ _ _ _ h) _ _ (by simp;omega)) hp rfl (fun _=>by simp [hasK,nodC];omega) (by simp [nodC]) (by simp [nodC])
theorem cnt_kids (S:List Cor) (q:Nat):(kidsC S q).length=cntC S (q:Int):=by
 unfold kidsC cntC
 have h:S=(List.range S.length).map (corAt S):=by
  apply List.ext_getElem (by simp)
  intro i h1 h2
  simp [corAt,List.getD,h1]
 conv=>rhs;rw [h]
 rw [List.filter_map,List.length_map]
 rfl
theorem dataF_len (h:dataF ds=0):1≤ds.length∧ds.length≤80:=by
 unfold dataF at h
 split at h
 ·rename_i c;simp only [inB,Bool.and_eq_true,decide_eq_true_iff] at c;omega
 ·cases h
theorem expR_wf (h:(expR ds).2=0):WfC (expR ds).1∧∀i,(corAt (expR ds).1 i).data.length≤80:=by
 unfold expR at h ⊢
 split at h
 ·rename_i c;exact absurd h c
 rename_i hd
 rw [if_neg hd]
 split at h
 ·rename_i c;exact absurd h c
 rename_i he
 rw [if_neg he]
 split at h
 ·cases h
 rename_i hm
 rw [if_neg hm]
 obtain ⟨S,e,hs⟩:=exp_grows (dataF_len (by simpa using hd)).2 ds.length 0 (-1) [] [] (by simp) (by simpa using he)
 rw [List.nil_append] at e
 rw [e] at hm ⊢
 have hlt:=hs.lt
 have hne:S≠[]:=by rintro rfl;have:=hs.cnt;simp [cntC] at this
 have hp0:0<S.length:=List.length_pos_iff.2 hne
 have h0:(corAt S 0).parent= -1:=by have:=hs.par 0 hp0;simp only [List.length_nil] at this;omega
 refine ⟨⟨⟨hp0,by simpa using hm⟩,hs.kind,h0,fun i hi hl=>?_,fun i hi=>?_⟩,fun i=>?_⟩
 ·have hi':=hs.par i hl
  simp only [List.length_nil] at hi'
  rcases hi' with c|c
  ·exfalso
   have hc:=hs.cnt
   obtain ⟨c0,r,rfl⟩:∃c0 r,S=c0::r:=by
    match S,hne with
    |c0::r,_=>exact ⟨c0,r,rfl⟩
   rw [cnt_cons,if_pos (show c0.parent= -1 from h0)] at hc
   have hz:cntC r (-1)=0:=by omega
   have hm:corAt (c0::r) i∈r:=by
    obtain ⟨j,rfl⟩:∃j,i=j+1:=⟨i - 1,by omega⟩
    have hj:j<r.length:=by simpa using hl
    have:corAt (c0::r) (j+1)=r[j]:=by simp [corAt,List.getD,hj]
    rw [this];exact List.getElem_mem hj
   unfold cntC at hz
   rw [List.length_eq_zero_iff,List.filter_eq_nil_iff] at hz
   exact hz _ hm (by simpa using c)
  ·omega
 ·rw [cnt_kids]
  have:=hs.kid i hi
  simpa using this
 ·by_cases c:i<S.length
  ·exact hs.data i c
  ·unfold corAt
   simp [List.getD,List.getElem?_eq_none (Nat.le_of_not_lt c)]
   exact Nat.zero_le _
end
end Go.Proofs.YtbppopcpgcgkkaaGreatDoor.E
/- Forms that are expanded to cores: how many cores. No program in sight. -/
namespace Go.Proofs.YtbppopcpgcgkkaaGreatDoor.E
open Go Go.RowKit
def fakC (ds:List Dat):List Cor:=(List.range ds.length).map fun i=>nodC (if kidsD ds i=[] then 3 else 6) (dat ds i).parent 0
section
variable {ds:List Dat} [L:Lam]
theorem fak_len:(fakC ds).length=ds.length:=by simp [fakC]
theorem fak_at {i:Nat} (h:i<ds.length):corAt (fakC ds) i=nodC (if kidsD ds i=[] then 3 else 6) (dat ds i).parent 0:=by simp [corAt,fakC,List.getD,h]
theorem fak_kids (x:Nat):kidsC (fakC ds) x=kidsD ds x:=by
 unfold kidsC
 rw [fak_len]
 unfold kidsD
 refine List.filter_congr fun i hi=>?_
 rw [fak_at (List.mem_range.1 hi)]
 rfl
theorem datF_par2 {i:Nat} (h:datF ds i=0):(i=0→(dat ds i).parent= -1)∧(0<i→0≤(dat ds i).parent∧(dat ds i).parent<i)∧1≤(dat ds i).kind∧(dat ds i).kind≤4:=by
 unfold datF at h
 split at h
 ·cases h
 rename_i hb
 have hk:1≤(dat ds i).kind∧(dat ds i).kind≤4:=by
  simp only [bareB,inB,Bool.and_eq_true,decide_eq_true_iff,Bool.not_eq_false] at hb
  exact hb.1.1
 split at h
 ·rename_i hk;exact absurd h hk
 split at h
 ·rename_i h0
  split at h
  ·cases h
  ·rename_i h1;exact ⟨fun _=>by simpa using h1,fun c=>by omega,hk⟩
 ·rename_i h0
  split at h
  ·cases h
  ·rename_i h1
   simp only [inB,Bool.and_eq_true,decide_eq_true_iff,Bool.not_eq_false] at h1
   exact ⟨fun c=>absurd c h0,fun _=>by omega,hk⟩
structure DOk (ds:List Dat):Prop where
 len:1≤ds.length∧ds.length≤80
 top:(dat ds 0).parent= -1
 par:∀i,0<i→i<ds.length→0≤(dat ds i).parent∧(dat ds i).parent<i
 kind:∀i,i<ds.length→1≤(dat ds i).kind∧(dat ds i).kind≤4
 pars:∀i,i≤ds.length→Pars ds i
theorem DOk.of (h:dataF ds=0):DOk ds:=by
 have hl:=dataF_len h
 have hz:∀j,j<ds.length→datF ds j=0:=by
  unfold dataF at h
  split at h
  ·intro j hj;exact firstF_zero _ _ h j (Nat.zero_le _) (by omega)
  ·cases h
 exact ⟨hl,(datF_par2 (hz 0 (by omega))).1 rfl,fun i hi hl=>(datF_par2 (hz i hl)).2.1 hi,fun i hl=>(datF_par2 (hz i hl)).2.2,fun i hi=>pars_of fun j hj=>hz j (by omega)⟩
theorem mem_kidsD {x k:Nat}:k∈kidsD ds x↔k<ds.length∧(dat ds k).parent=(x:Int):=by simp [kidsD]
theorem DOk.kid (h:DOk ds) {x k:Nat} (hk:k∈kidsD ds x):x<k∧k<ds.length:=by
 obtain ⟨h1,h2⟩:=mem_kidsD.1 hk
 have h0:0<k:=by
  rcases Nat.eq_zero_or_pos k with c|c
  ·subst c;rw [h.top] at h2;omega
  ·exact c
 have:=h.par k h0 h1
 omega
theorem DOk.fak (h:DOk ds):WfC (fakC ds):=by
 have hl:=h.len
 refine ⟨by rw [fak_len];omega,fun i hi=>?_,?_,fun i h0 hi=>?_,fun i hi=>?_⟩
 ·rw [fak_len] at hi
  rw [fak_at hi]
  simp only [nodC]
  split<;>omega
 ·rw [fak_at (by omega)];exact h.top
 ·rw [fak_len] at hi
  rw [fak_at hi];exact h.par i h0 hi
 ·rw [fak_len] at hi
  rw [fak_at hi,fak_kids]
  simp only [nodC]
  split
  ·rename_i c;rw [c];simp [hasK]
  ·rename_i c
   have:=List.length_pos_iff.2 c
   simp [hasK];omega
theorem flat_congr {X Y:Type} {f g:X→List Y}:∀l:List X,(∀x,x∈l→f x=g x)→l.flatMap f=l.flatMap g:=by
 intro l
 induction l with
 |nil=>intro _;rfl
 |cons x r ih=>intro h;rw [List.flatMap_cons,List.flatMap_cons,h x (by simp),ih fun y hy=>h y (by simp [hy])]
theorem vis_stab {cs:List Cor} (hw:WfC cs):∀f x,x<cs.length→cs.length≤f+x→vis cs (f+1) x=vis cs f x:=by
 intro f
 induction f with
 |zero=>intro x h1 h2;omega
 |succ f ih=>
  intro x h1 h2
  rw [vis]
  conv=>rhs;rw [vis]
  rw [flat_congr (kidsC cs x) fun k hk=>ih k (hw.kid hk).2 (by have:=hw.kid hk;omega)]
def nv (ds:List Dat) (x:Nat):Nat:=(vis (fakC ds) ds.length x).length
def nvK (ds:List Dat) (ks:List Nat):Nat:=(ks.map (nv ds)).sum
theorem nvK_cons (k:Nat) (r:List Nat):nvK ds (k::r)=nv ds k+nvK ds r:=by simp [nvK]
theorem nvK_app (a b:List Nat):nvK ds (a++b)=nvK ds a+nvK ds b:=by simp [nvK]
theorem nv_eq (h:DOk ds) {x:Nat} (hx:x<ds.length):nv ds x=1+nvK ds (kidsD ds x):=by
 have hl:=h.len
 obtain ⟨n,hn⟩:∃n,ds.length=n+1:=⟨ds.length - 1,by omega⟩
 unfold nv
 rw [hn,vis_len,fak_kids]
 congr 1
 unfold visK nvK nv
 congr 1
 refine List.map_congr_left fun k hk=>?_
 have:=h.kid hk
 rw [hn,vis_stab h.fak n k (by rw [fak_len];omega) (by rw [fak_len];omega)]
theorem nv_bound (h:DOk ds) {x:Nat} (hx:x<ds.length):nv ds x≤160:=vis_bound h.fak _ _ (by rw [fak_len];exact hx)
theorem nvK_mem {ks:List Nat} {j:Nat} (h:j<ks.length):nvK ds ks=nvK ds (ks.take j)+(nv ds (ks.getD j 0)+nvK ds (ks.drop (j+1))):=by
 have e:ks.getD j 0=ks[j]:=by simp [List.getD,h]
 rw [e]
 have h1:=nvK_app (ds:=ds) (ks.take j) (ks.drop j)
 rw [List.take_append_drop,List.drop_eq_getElem_cons h,nvK_cons] at h1
 exact h1
theorem nvK_one {ks:List Nat} {j:Nat} (h:j<ks.length):nv ds (ks.getD j 0)≤nvK ds ks:=by rw [nvK_mem h];omega
theorem nvK_drop (ks:List Nat) (j:Nat):nvK ds (ks.drop j)≤nvK ds ks:=by
 have h1:=nvK_app (ds:=ds) (ks.take j) (ks.drop j)
 rw [List.take_append_drop] at h1
 omega
theorem getD_mem {ks:List Nat} {j:Nat} (h:j<ks.length):ks.getD j 0∈ks:=by
 have e:ks.getD j 0=ks[j]:=by simp [List.getD,h]
 rw [e];exact List.getElem_mem h
theorem lets_nv (h:DOk ds):∀(l:List Nat) (ns:List ByteArray) (vs:List Nat) (ns':List ByteArray) (vs':List Nat),(∀k,k∈l→k<ds.length)→letsE ds l ns vs=some (ns',vs')→nvK ds vs'≤nvK ds vs+nvK ds l∧∀v,v∈vs'→v∈vs∨(v<ds.length∧∃k,k∈l∧k<v):=by
 intro l
 induction l with
 |nil=>
  intro ns vs ns' vs' _ e
  simp only [letsE,Option.some.injEq,Prod.mk.injEq] at e
  rw [←e.2]
  exact ⟨by omega,fun v hv=> .inl hv⟩
 |cons k r ih=>
  intro ns vs ns' vs' hl e
  rw [letsE] at e
  split at e
  ·cases e
  ·rename_i h2
   split at e
   ·cases e
   ·have h2':(kidsD ds k).length=2:=by omega
    obtain ⟨g1,g2⟩:=ih _ _ _ _ (fun q hq=>hl q (by simp [hq])) e
    have hk:=hl k (by simp)
    have hm:=getD_mem (ks:=kidsD ds k) (j:=1) (by omega)
    have ho:=nvK_one (ds:=ds) (ks:=kidsD ds k) (j:=1) (by omega)
    have he:=nv_eq h hk
    rw [nvK_app,nvK_cons] at g1
    have e0:nvK ds []=0:=rfl
    refine ⟨by rw [nvK_cons];omega,fun v hv=>?_⟩
    rcases g2 v hv with c|⟨c,q,c2,c3⟩
    ·rcases List.mem_append.1 c with c|c
     ·exact .inl c
     ·obtain rfl:=List.mem_singleton.1 c
      exact .inr ⟨(h.kid hm).2,k,by simp,(h.kid hm).1⟩
    ·exact .inr ⟨c,q,by simp [c2],c3⟩
def Less (ds:List Dat) (g:Gx):Prop:=∀x p sc C,x<ds.length→(g x p sc C).1.length≤C.length+2*nv ds x
theorem all_less {g:Nat→List Cor→Ex}:∀(ks:List Nat) (C:List Cor),(∀k C,k∈ks→(g k C).1.length≤C.length+2*nv ds k)→(allE g ks C).1.length≤C.length+2*nvK ds ks:=by
 intro ks
 induction ks with
 |nil=>intro C _;simp [allE]
 |cons k r ih=>
  intro C h
  have h1:=h k C (by simp)
  rw [allE,nvK_cons]
  split
  ·omega
  ·have:=ih (g k C).1 fun q C hq=>h q C (by simp [hq])
   omega
theorem form_less (h:DOk ds) {g:Gx} (hg:Less ds g) {w:ByteArray} {x:Nat} {p:Int} {sc:Sco} {C:List Cor} (hx:x<ds.length):(formE ds g w (kidsD ds x) p sc C).1.length≤C.length+2*nv ds x:=by
 have he:=nv_eq h hx
 have hk:∀k,k∈kidsD ds x→k<ds.length:=fun k hk=>(h.kid hk).2
 have hal:∀c,(allE (fun k C'=>g k (C.length:Int) sc C') ((kidsD ds x).drop 1) (C++[c])).1.length≤C.length+2*nv ds x:=fun c=>by
  have h1:=all_less (ds:=ds) (g:=fun k C'=>g k (C.length:Int) sc C') ((kidsD ds x).drop 1) (C++[c]) fun k C' hm=>hg _ _ _ _ (hk k (List.mem_of_mem_drop hm))
  have h2:=nvK_drop (ds:=ds) (kidsD ds x) 1
  simp only [List.length_append,List.length_cons,List.length_nil] at h1
  omega
 unfold formE
 split
 ·split
  ·simp
  ·simp;omega
 split
 ·split
  ·simp
  ·exact hal _
 split
 ·split
  ·simp
  ·exact hal _
 split
 ·unfold lamE
  split
  ·simp
  ·rename_i h3
   have h3':(kidsD ds x).length=3:=by omega
   split
   ·simp
   ·split
    ·simp
    ·rename_i ns _ _
     have h1:=hg ((kidsD ds x).getD 2 0) (C.length:Int) (ns::sc) (C++[nodC 5 p ns.length]) (hk _ (getD_mem (by omega)))
     have h2:=nvK_one (ds:=ds) (ks:=kidsD ds x) (j:=2) (by omega)
     simp only [List.length_append,List.length_cons,List.length_nil] at h1
     omega
 split
 ·unfold letE
  split
  ·simp
  ·rename_i h3
   have h3':(kidsD ds x).length=3:=by omega
   split
   ·simp
   ·rename_i ns vs e
    split
    ·simp
    ·have h1:=hg ((kidsD ds x).getD 2 0) ((C.length+1:Nat):Int) (ns::sc) (C++[nodC 9 p 0]++[nodC 5 (C.length:Int) ns.length]) (hk _ (getD_mem (by omega)))
     have m1:=nvK_mem (ds:=ds) (ks:=kidsD ds x) (j:=1) (by omega)
     have m2:=nvK_one (ds:=ds) (ks:=(kidsD ds x).drop 2) (j:=0) (by rw [List.length_drop];omega)
     have e2:((kidsD ds x).drop 2).getD 0 0=(kidsD ds x).getD 2 0:=by simp [List.getD]
     rw [e2] at m2
     simp only [Nat.reduceAdd] at m1
     have hk1:=hk _ (getD_mem (ks:=kidsD ds x) (j:=1) (by omega))
     have he1:=nv_eq h hk1
     have ll:=lets_nv h _ _ _ _ _ (fun k hk=>(h.kid hk).2) e
     have e0:nvK ds []=0:=rfl
     simp only [List.length_append,List.length_cons,List.length_nil] at h1
     generalize g ((kidsD ds x).getD 2 0) ((C.length+1:Nat):Int) (ns::sc) (C++[nodC 9 p 0]++[nodC 5 (C.length:Int) ns.length])=r at h1 ⊢
     split
     ·omega
     ·have h4:=all_less (ds:=ds) (g:=fun k C'=>g k (C.length:Int) sc C') vs r.1 fun k C' hm=>hg _ _ _ _ (by
       rcases ll.2 k hm with c|c
       ·cases c
       ·exact c.1)
      omega
 have asg:∀kind,(asgE ds g (kidsD ds x) p sc C kind).1.length≤C.length+2*nv ds x:=fun kind=>by
  unfold asgE
  split
  ·simp
  ·rename_i h3
   have h3':(kidsD ds x).length=3:=by omega
   split
   ·simp
   ·split
    ·simp
    ·have h1:=hg ((kidsD ds x).getD 2 0) (C.length:Int) sc (C++[nmdC kind p (dat ds ((kidsD ds x).getD 1 0)).name]) (hk _ (getD_mem (by omega)))
     have h2:=nvK_one (ds:=ds) (ks:=kidsD ds x) (j:=2) (by omega)
     simp only [List.length_append,List.length_cons,List.length_nil] at h1
     omega
 split
 ·exact asg 8
 ·exact asg 7
theorem exp_less (h:DOk ds):∀f,Less ds (expE ds f):=by
 intro f
 induction f with
 |zero=>intro x p sc C _;simp [expE]
 |succ f ih=>
  intro x p sc C hx
  have he:=nv_eq h hx
  rw [expE]
  split
  ·simp;omega
  split
  ·split
   ·simp
   ·split
    ·simp;omega
    ·simp;omega
  split
  ·simp
  split
  ·exact form_less h ih hx
  split
  ·simp
  ·have h1:=all_less (ds:=ds) (g:=fun k C'=>expE ds f k (C.length:Int) sc C') (kidsD ds x) (C++[nodC 9 p 0]) fun k C' hm=>ih _ _ _ _ (h.kid hm).2
   simp only [List.length_append,List.length_cons,List.length_nil] at h1
   omega
abbrev Frs:=List (List ByteArray × Int)
inductive Chain (F:Frs):Int→Sco→Prop
 |nil:Chain F (-1) []
 |cons {i:Nat} {ns:List ByteArray} {out:Int} {sc:Sco}:F[i]? =some (ns,out)→out<(i:Int)→Chain F out sc→Chain F (i:Int) (ns::sc)
theorem Chain.app {F:Frs} {f:Int} {sc:Sco} (h:Chain F f sc) (X:Frs):Chain (F++X) f sc:=by
 induction h with
 |nil=>exact .nil
 |cons h1 h2 _ ih=>
  refine .cons ?_ h2 ih
  rw [List.getElem?_append_left (List.getElem?_eq_some_iff.1 h1).1];exact h1
theorem Chain.lt {F:Frs} {f:Int} {sc:Sco} (h:Chain F f sc): -1≤f∧f<F.length:=by
 cases h with
 |nil=>omega
 |cons h1 _ _=>have:=(List.getElem?_eq_some_iff.1 h1).1;omega
theorem Chain.new {F:Frs} {f:Int} {sc:Sco} (h:Chain F f sc) (ns:List ByteArray):Chain (F++[(ns,f)]) (F.length:Int) (ns::sc):=
 .cons (by simp) h.lt.2 (h.app _)
end
end Go.Proofs.YtbppopcpgcgkkaaGreatDoor.E
/- Data and cores as texts: the plain law. No program in sight. -/
namespace Go.Proofs.YtbppopcpgcgkkaaGreatDoor.E
open Go Go.RowKit
set_option maxRecDepth 100000
def boolT (n:Int):List UInt8:=if n=1 then [35,116] else [35,102]
def writeD (ds:List Dat):Nat→Nat→List UInt8
 |0,_=>[]
 |f+1,x=>
  if (dat ds x).kind=1 then Lib.itoa (dat ds x).num
  else if (dat ds x).kind=2 then boolT (dat ds x).num
  else if (dat ds x).kind=3 then by8 (dat ds x).name
  else 40::(Lib.join ((kidsD ds x).map (writeD ds f)) [32]++[41])
def headW (c:Cor):List (List UInt8):=
 if c.kind=4 then [[105,102]]
 else if c.kind=5 then [[102,110],Lib.itoa c.a]
 else if c.kind=6 then [[115,101,113]]
 else if c.kind=7 then [[115,101,116],by8 c.name]
 else if c.kind=8 then [[100,101,102],by8 c.name]
 else [[97,112,112]]
def textC (cs:List Cor):Nat→Nat→List UInt8
 |0,_=>[]
 |f+1,x=>
  if (corAt cs x).kind=1 then 39::writeD (corAt cs x).data (corAt cs x).data.length 0
  else if (corAt cs x).kind=2 then 37::(Lib.itoa (corAt cs x).a++46::Lib.itoa (corAt cs x).b)
  else if (corAt cs x).kind=3 then by8 (corAt cs x).name
  else 40::(Lib.join (headW (corAt cs x)++(kidsC cs x).map (textC cs f)) [32]++[41])
theorem join_tail (x:List UInt8) (r:List (List UInt8)):Lib.join (x::r) [32]=x++(r.map fun y=>32::y).flatten:=by
 rw [Lib.join_cons];rfl
theorem join_more {l:List (List UInt8)} (h:l≠[]) (r:List (List UInt8)):Lib.join (l++r) [32]=Lib.join l [32]++(r.map fun y=>32::y).flatten:=by
 cases l with
 |nil=>exact absurd rfl h
 |cons x l=>rw [List.cons_append,join_tail,join_tail,List.map_append,List.flatten_append,List.append_assoc]
theorem join_succ (l:List (List UInt8)) (y:List UInt8):Lib.join (l++[y]) [32]=(if l=[] then y else Lib.join l [32]++32::y):=by
 split
 ·rename_i h;rw [h];exact Lib.join_one _ _
 ·rename_i h;rw [join_more h];simp
def sumL (l:List (List UInt8)):Nat:=(l.map fun y=>y.length+1).sum
theorem sumL_app (a b:List (List UInt8)):sumL (a++b)=sumL a+sumL b:=by simp [sumL]
theorem join_len:∀l:List (List UInt8),(Lib.join l [32]).length≤sumL l:=by
 intro l
 cases l with
 |nil=>simp [Lib.join_nil,sumL]
 |cons x r=>
  rw [join_tail,List.length_append]
  have:((r.map fun y=>(32:UInt8)::y).flatten).length=sumL r:=by simp [sumL,List.length_flatten,Function.comp_def]
  have e:sumL (x::r)=x.length+1+sumL r:=by simp [sumL]
  omega
theorem getD_len {ks:List Nat} {j:Nat} {X:Type} (f:Nat→X) (h:j<ks.length):(ks.take (j+1)).map f=(ks.take j).map f++[f (ks.getD j 0)]:=by
 rw [List.take_succ_eq_append_getElem h,List.map_append]
 simp [List.getD,h]
def DTx (ds:List Dat):Prop:=∀i,i<ds.length→((dat ds i).kind=1→ -1000000000≤(dat ds i).num∧(dat ds i).num≤1000000000)∧((dat ds i).kind=2→(dat ds i).num=0∨(dat ds i).num=1)∧((dat ds i).kind=3→(dat ds i).name.size≤12)
section
variable [L:Lam]
theorem symOk_sm {s:ByteArray} (h:symOk s=true):s.size≤12:=by
 unfold symOk at h
 rw [Bool.and_eq_true] at h
 have:=inB_iff.1 h.1;omega
theorem DTx.of {ds:List Dat} (h:dataF ds=0):DTx ds:=by
 have hz:∀j,j<ds.length→datF ds j=0:=by
  unfold dataF at h
  split at h
  ·intro j hj;exact firstF_zero _ _ h j (Nat.zero_le _) (by omega)
  ·cases h
 intro i hi
 have h:=hz i hi
 unfold datF at h
 split at h
 ·cases h
 split at h
 ·rename_i hk;exact absurd h hk
 rename_i hk
 have hk:kindF (dat ds i).kind (dat ds i).num (dat ds i).name=0:=Classical.byContradiction hk
 unfold kindF at hk
 refine ⟨fun c=>?_,fun c=>?_,fun c=>?_⟩
 ·rw [if_pos c] at hk
  split at hk
  ·rename_i hn;exact inB_iff.1 hn
  ·cases hk
 ·rw [if_neg (by omega),if_pos c] at hk
  split at hk
  ·rename_i hn;have:=inB_iff.1 hn;omega
  ·cases hk
 ·rw [if_neg (by omega),if_neg (by omega),if_pos c] at hk
  split at hk
  ·rename_i hn;exact symOk_sm hn
  ·cases hk
theorem itoa_len {v:Int} (h0: -1000000000≤v) (h1:v≤1000000000):(Lib.itoa v).length≤11:=by
 have h:=parOk_itoa h0 h1
 unfold parOk at h
 rw [Bool.and_eq_true,Bool.and_eq_true,decide_eq_true_iff,decide_eq_true_iff] at h
 have h2:=h.1.2
 unfold dgsB at h2
 split at h2
 ·rw [List.length_tail] at h2;omega
 ·omega
theorem sumL_map {f:Nat→List UInt8} {g:Nat→Nat} {B:Nat} (ks:List Nat) (h:∀k,k∈ks→(f k).length+1≤B*g k):sumL (ks.map f)≤B*(ks.map g).sum:=by
 induction ks with
 |nil=>simp [sumL]
 |cons k r ih=>
  have h1:=h k (by simp)
  have h2:=ih fun j hj=>h j (List.mem_cons_of_mem _ hj)
  have e:sumL ((k::r).map f)=(f k).length+1+sumL (r.map f):=by simp [sumL]
  rw [e,List.map_cons,List.sum_cons,Nat.mul_add]
  omega
theorem writeD_len {ds:List Dat} (hd:DOk ds) (ht:DTx ds):∀f x,x<ds.length→(writeD ds f x).length+1≤20*(vis (fakC ds) f x).length:=by
 intro f
 induction f with
 |zero=>intro x _;simp [writeD,vis]
 |succ f ih=>
  intro x hx
  have hp:=vis_pos (fakC ds) (f+1) x
  have hv:=vis_len (fakC ds) f x
  rw [fak_kids] at hv
  obtain ⟨t1,t2,t3⟩:=ht x hx
  rw [writeD]
  split
  ·rename_i c;have:=itoa_len (t1 c).1 (t1 c).2;omega
  split
  ·unfold boolT;split<;>simp<;>omega
  split
  ·rename_i c;have:=t3 c;rw [size_by8] at this;omega
  ·have h1:=join_len ((kidsD ds x).map (writeD ds f))
   have h2:=sumL_map (f:=writeD ds f) (g:=fun k=>(vis (fakC ds) f k).length) (B:=20) (kidsD ds x) fun k hk=>ih k (hd.kid hk).2
   change _≤20*visK (fakC ds) f (kidsD ds x) at h2
   rw [hv]
   simp only [List.length_cons,List.length_append,List.length_nil]
   omega
theorem writeD_sm {ds:List Dat} (hd:DOk ds) (ht:DTx ds) (f x:Nat) (hx:x<ds.length):(writeD ds f x).length≤3200:=by
 have h1:=writeD_len hd ht f x hx
 have h2:=vis_bound hd.fak f x (by rw [fak_len];exact hx)
 omega
structure CTx (cs:List Cor):Prop where
 data:∀i,i<cs.length→(corAt cs i).kind=1→dataF (corAt cs i).data=0
 loc:∀i,i<cs.length→(corAt cs i).kind=2→(0≤(corAt cs i).a∧(corAt cs i).a≤1000)∧0≤(corAt cs i).b∧(corAt cs i).b≤1000
 name:∀i,i<cs.length→namC (corAt cs i).kind=true→(corAt cs i).name.size≤12
 lam:∀i,i<cs.length→(corAt cs i).kind=5→0≤(corAt cs i).a∧(corAt cs i).a≤3
theorem arW_lam {cs:List Cor} (n:Nat):∀at_ o:Int,(at_+1).toNat≤n→0≤arW cs at_ o→(corAt cs (arW cs at_ o).toNat).kind=5:=by
 induction n with
 |zero=>intro a o h h1;rw [arW,if_pos (by omega)] at h1;omega
 |succ n ih=>
  intro a o h h1
  rw [arW] at h1 ⊢
  split at h1
  ·omega
  rename_i c0
  rw [if_neg c0]
  split at h1
  ·rename_i c5
   rw [if_pos c5]
   split at h1
   ·rename_i co;rw [if_pos co];exact c5
   ·rename_i co
    rw [if_neg co]
    split at h1
    ·rename_i cp;rw [if_pos cp];exact ih _ _ (by omega) h1
    ·omega
  ·rename_i c5
   rw [if_neg c5]
   split at h1
   ·rename_i cp;rw [if_pos cp];exact ih _ _ (by omega) h1
   ·omega
theorem CTx.of {cs:List Cor} (h:coresF cs=0):CTx cs:=by
 have hw:=(coresF_wf h).1
 have hwl:=hw.len
 unfold coresF at h
 split at h
 case isFalse=>cases h
 split at h
 ·rename_i c;exact absurd h c
 rename_i c
 have hc:=firstF_zero cs.length 0 (Classical.byContradiction c)
 have hz:∀i,i<cs.length→coreF cs i=0:=fun i hi=>hc i (Nat.zero_le _) (by omega)
 have key:∀i,i<cs.length→(namC (corAt cs i).kind=true→nameB (corAt cs i).name=true)∧((corAt cs i).kind=1→dataF (corAt cs i).data=0)∧placeB cs i=true:=fun i hi=>by
  have h:=hz i hi
  unfold coreF at h
  split at h
  ·cases h
  split at h
  ·cases h
  split at h
  ·cases h
  split at h
  ·cases h
  rename_i hn
  split at h
  ·rename_i hd;exact absurd h hd.2
  rename_i hd
  split at h
  ·cases h
  split at h
  ·cases h
  rename_i hp
  refine ⟨fun k=>?_,fun k=>?_,by simpa using hp⟩
  ·cases e:nameB (corAt cs i).name with
   |true=>rfl
   |false=>exact absurd ⟨k,e⟩ hn
  ·exact Classical.byContradiction fun e=>hd ⟨k,e⟩
 have hlam:∀i,i<cs.length→(corAt cs i).kind=5→0≤(corAt cs i).a∧(corAt cs i).a≤3:=fun i hi k=>by
  have:=(key i hi).2.2
  unfold placeB at this
  rw [if_pos k] at this
  exact inB_iff.1 this
 refine ⟨fun i hi=>(key i hi).2.1,fun i hi k=>?_,fun i hi k=>?_,hlam⟩
 ·have hp:=(key i hi).2.2
  unfold placeB at hp
  rw [if_neg (by omega),if_pos k,Bool.and_eq_true,Bool.and_eq_true,decide_eq_true_iff,decide_eq_true_iff] at hp
  obtain ⟨⟨h0,h1⟩,h2⟩:=hp
  have l1:=arW_le _ _ _ (Nat.le_refl _) h0 h1
  have l2:=arW_lam _ _ _ (Nat.le_refl _) h1
  have hpar:parC cs i<cs.length:=by
   unfold parC
   rcases Nat.eq_zero_or_pos i with z|z
   ·subst z
    have:=hw.top
    simp only [Int.natCast_zero,Int.toNat_zero,this];omega
   ·have:=hw.par i z hi
    simp only [Int.toNat_natCast];omega
  have l3:=hlam _ (by omega) l2
  rw [i64_wrap (by omega) (by omega)] at h2
  have l4:=inB_iff.1 h2
  omega
 ·have:=(key i hi).1 k
  unfold nameB at this
  rw [Bool.and_eq_true] at this
  exact symOk_sm this.1
theorem headW_ne (c:Cor):headW c≠[]:=by by_cases c4:c.kind=4<;>by_cases c5:c.kind=5<;>by_cases c6:c.kind=6<;>by_cases c7:c.kind=7<;>by_cases c8:c.kind=8<;>simp [headW,c4,c5,c6,c7,c8]
theorem textC_len {cs:List Cor} (hw:WfC cs) (ht:CTx cs):∀f x,x<cs.length→(textC cs f x).length+1≤4000*(vis cs f x).length:=by
 intro f
 induction f with
 |zero=>intro x _;simp [textC,vis]
 |succ f ih=>
  intro x hx
  have hp:=vis_pos cs (f+1) x
  have hv:=vis_len cs f x
  rw [textC]
  split
  ·rename_i c
   have hd:=ht.data x hx c
   have:=writeD_sm (DOk.of hd) (DTx.of hd) (corAt cs x).data.length 0 (by have:=(DOk.of hd).len;omega)
   rw [List.length_cons];omega
  split
  ·rename_i c
   have:=ht.loc x hx c
   have h1:=itoa_len (v:=(corAt cs x).a) (by omega) (by omega)
   have h2:=itoa_len (v:=(corAt cs x).b) (by omega) (by omega)
   simp only [List.length_cons,List.length_append];omega
  split
  ·rename_i c
   have:=ht.name x hx (by rw [c];rfl)
   rw [size_by8] at this;omega
  ·have h1:=join_len (headW (corAt cs x)++(kidsC cs x).map (textC cs f))
   have h2:=sumL_map (f:=textC cs f) (g:=fun k=>(vis cs f k).length) (B:=4000) (kidsC cs x) fun k hk=>ih k (hw.kid hk).2
   change _≤4000*visK cs f (kidsC cs x) at h2
   have h3:sumL (headW (corAt cs x))≤100:=by
    unfold headW
    split
    ·simp [sumL]
    split
    ·rename_i c
     have:=ht.lam x hx c
     have:=itoa_len (v:=(corAt cs x).a) (by omega) (by omega)
     simp [sumL];omega
    split
    ·simp [sumL]
    split
    ·rename_i c
     have:=ht.name x hx (by rw [c];rfl)
     rw [size_by8] at this
     simp [sumL] at this ⊢;omega
    split
    ·rename_i c
     have:=ht.name x hx (by rw [c];rfl)
     rw [size_by8] at this
     simp [sumL] at this ⊢;omega
    ·simp [sumL]
   rw [sumL_app] at h1
   rw [hv]
   simp only [List.length_cons,List.length_append,List.length_nil]
   omega
theorem textC_sm {cs:List Cor} (hw:WfC cs) (ht:CTx cs) (f x:Nat) (hx:x<cs.length):(textC cs f x).length≤640000:=by
 have h1:=textC_len hw ht f x hx
 have h2:=vis_bound hw f x hx
 omega
end
end Go.Proofs.YtbppopcpgcgkkaaGreatDoor.E
/- The library's contracts at this program. -/
namespace Go.Proofs.YtbppopcpgcgkkaaGreatDoor.E
open Go Go.Proofs
open Go.Shelf
def lays156_ren:Go.Shelf.Ren:=⟨fun|156=>54|165=>104|166=>105|169=>106|240=>144|241=>145|276=>168|277=>169|n=>n,fun|31=>90|9=>9|3=>3|4=>4|0=>0|20=>20|72=>159|76=>163|70=>157|37=>135|75=>162|127=>200|164=>227|5=>5|80=>165|n=>n,fun|n=>n⟩
theorem lays156:Go.Proofs.Lays.n156 Tryz.prog lays156_ren:={
 mixed:=by kernel_rfl
 f156:=Tryz.func54.trans (congrArg some (by kernel_rfl))
 f165:=Tryz.func104.trans (congrArg some (by kernel_rfl))
 f166:=Tryz.func105.trans (congrArg some (by kernel_rfl))
 f169:=Tryz.func106.trans (congrArg some (by kernel_rfl))
 f240:=Tryz.func144.trans (congrArg some (by kernel_rfl))
 f241:=Tryz.func145.trans (congrArg some (by kernel_rfl))
 f276:=Tryz.func168.trans (congrArg some (by kernel_rfl))
 f277:=Tryz.func169.trans (congrArg some (by kernel_rfl))
 t0:=Tryz.underlying0
 a0:=Tryz.isAgg0
 z0:=Tryz.sizeOf0
 v0:=Tryz.zeroValue0
 t3:=Tryz.underlying3
 a3:=Tryz.isAgg3
 z3:=Tryz.sizeOf3
 v3:=Tryz.zeroValue3
 t4:=Tryz.underlying4
 a4:=Tryz.isAgg4
 z4:=Tryz.sizeOf4
 v4:=Tryz.zeroValue4
 t9:=Tryz.underlying9
 a9:=Tryz.isAgg9
 z9:=Tryz.sizeOf9
 v9:=Tryz.zeroValue9
 t20:=Tryz.underlying20
 a20:=Tryz.isAgg20
 z20:=Tryz.sizeOf20
 v20:=Tryz.zeroValue20
 t31:=Tryz.underlying90
 a31:=Tryz.isAgg90
 z31:=Tryz.sizeOf90
 v31:=Tryz.zeroValue90
 t37:=Tryz.underlying135
 a37:=Tryz.isAgg135
 z37:=Tryz.sizeOf135
 v37:=Tryz.zeroValue135
 t70:=Tryz.underlying157
 a70:=Tryz.isAgg157
 z70:=Tryz.sizeOf157
 v70:=Tryz.zeroValue157
 t72:=Tryz.underlying159
 a72:=Tryz.isAgg159
 z72:=Tryz.sizeOf159
 v72:=Tryz.zeroValue159
 t75:=Tryz.underlying162
 a75:=Tryz.isAgg162
 z75:=Tryz.sizeOf162
 v75:=Tryz.zeroValue162
 t76:=Tryz.underlying163
 a76:=Tryz.isAgg163
 z76:=Tryz.sizeOf163
 v76:=Tryz.zeroValue163
 t127:=Tryz.underlying200
 a127:=Tryz.isAgg200
 z127:=Tryz.sizeOf200
 v127:=Tryz.zeroValue200
 t164:=Tryz.underlying227
 a164:=Tryz.isAgg227
 z164:=Tryz.sizeOf227
 v164:=Tryz.zeroValue227}
theorem sh_Builder_Extra_156:Builder.Extra Tryz.prog lays156_ren:={
 sizeBuilder:=by kernel_rfl
 liesBuilder:=by kernel_rfl
 t5:=Tryz.underlying5
 a5:=Tryz.isAgg5
 z5:=Tryz.sizeOf5
 v5:=Tryz.zeroValue5
 infoByte:=by kernel_rfl
 cellsByte:=by kernel_rfl
 sizeByte:=by kernel_rfl
 neB5:=by decide}
open Go.RowKit in
theorem sh_strings_Join_none (a:Option Addr) (c:Nat) (sep:ByteArray) (w:World):
  Calls Tryz.prog 54 #[.slice a 0 c,.string sep] w fun e w'=>e= .returned (.string ⟨#[]⟩)∧w'=w:=Any.strings_Join_none lays156 sh_Builder_Extra_156 a c sep w
open Go.RowKit in
theorem sh_strings_Join (bk o c:Nat) (xs:List ByteArray) (sep:ByteArray) (w:World) (hcells:∀(j:Nat) x,xs[j]? =some x→w.cell? ⟨bk,o+j,none⟩=some (.string x)) (hbk:bk<w.heap.size) (hN:xs.length≤140737488355328) (hcap:xs.length≤c) (hlen:(Lib.join (xs.map (·.data.toList)) sep.data.toList).length≤140737488355328):
  Calls Tryz.prog 54 #[.slice (some ⟨bk,o,none⟩) xs.length c,.string sep] w fun e w'=>e= .returned (.string ⟨(Lib.join (xs.map (·.data.toList)) sep.data.toList).toArray⟩)∧Below w.heap.size w w':=Any.strings_Join lays156 sh_Builder_Extra_156 bk o c xs sep w hcells hbk hN hcap hlen
end Go.Proofs.YtbppopcpgcgkkaaGreatDoor.E
/- A cell of fields: lists that grow and shrink, and values that stay. -/
namespace Go.Proofs.YtbppopcpgcgkkaaGreatDoor.E
open Go Go.RowKit
set_option maxRecDepth 100000
variable [L:Lam]
variable {σ τ τ':AH} {R:AEnd→AH→Prop}
def Bfj (τ:AH) (sz:Nat) (a:AV) (es:List (List AV)):Prop:=
 ((a= .val (.slice none 0 0)∨a= .emp)∧es=[])∨∃φ st jk,a= .own φ st 0 es.length∧τ φ=some ⟨st,sz,es++jk⟩
section
variable {sz:Nat} {a:AV} {es:List (List AV)}
theorem Bfj.nil:Bfj τ sz (.val (.slice none 0 0)) []:= .inl ⟨.inl rfl,rfl⟩
theorem Bfj.len (h:Bfj τ sz a es):lenS a=some (iv (es.length:Int)):=by
 rcases h with ⟨rfl|rfl,rfl⟩|⟨φ,st,jk,rfl,_⟩<;>rfl
theorem Bfj.keep (h:Bfj τ sz a es) (hk:∀ψ,ψ∈famL a→τ' ψ=τ ψ):Bfj τ' sz a es:=by
 rcases h with h|⟨φ,st,jk,rfl,hF⟩
 ·exact .inl h
 ·exact .inr ⟨φ,st,jk,rfl,by rw [hk φ (by simp [famL])];exact hF⟩
theorem Bfj.live (h:Bfj τ sz a es) {ψ:Nat} (hm:ψ∈famL a):∃F,τ ψ=some F:=by
 rcases h with ⟨rfl|rfl,rfl⟩|⟨φ,st,jk,rfl,hF⟩
 ·cases hm
 ·cases hm
 ·obtain rfl:ψ=φ:=by simpa [famL] using hm
  exact ⟨_,hF⟩
theorem Bfj.one (h:Bfj τ sz a es):a.one=true:=by
 rcases h with ⟨rfl|rfl,rfl⟩|⟨φ,st,jk,rfl,_⟩<;>rfl
theorem Bfj.at (h:Bfj τ sz a es) {i:Nat} (hi:i<es.length):∃φ st,idx sz a (iv (i:Int)) τ=some (.ptr φ st i 0)∧∀off c,es[i][off]? =some c→lod (.ptr φ st i off) τ=some c:=by
 rcases h with ⟨_,rfl⟩|⟨φ,st,jk,rfl,hF⟩
 ·simp at hi
 ·refine ⟨φ,st,?_,fun off c hc=>lod_at hF rfl ?_⟩
  ·have:=idx_own (st:=st) (off:=0) hF hi
   rwa [Nat.zero_add] at this
  ·simp [List.getD,List.getElem?_append_left hi,List.getElem?_eq_getElem hi,hc]
theorem Bfj.app {x:AV} {xs:List (List AV)} {k:AV→AH→Prop} (h:Bfj τ sz a es) (hx:aelems τ x=some xs) (hs:∀c,c∈xs→c.length=sz) (ho:∀c,c∈xs→∀y,y∈c→y.one=true) (hn:es.length+xs.length≤4294967296)
  (hk:∀a' τ',Bfj τ' sz a' (es++xs)→Kp (famL a) τ τ'→(∀ψ,ψ∈famL a'→ψ∈famL a∨τ ψ=none)→k a' τ'):E.app sz a x τ k:=by
 unfold E.app
 rw [hx]
 refine ⟨hs,?_⟩
 rcases h with ⟨rfl|rfl,rfl⟩|⟨φ,st,jk,rfl,hF⟩
 ·simp only
  refine ⟨by simpa using hn,?_,?_⟩
  ·rintro rfl
   exact hk _ _ (.inl ⟨.inl rfl,rfl⟩) (Kp.refl _ _) (fun ψ h=> .inl h)
  ·intro hne φ hφ
   refine hk _ _ (.inr ⟨φ,0,[],by simp,by simp⟩) (Kp.of_sub (.set (.refl τ) _ hφ)) (fun ψ e=>?_)
   obtain rfl:ψ=φ:=by simpa [famL] using e
   exact .inr hφ
 ·simp only
  refine ⟨by simpa using hn,?_,?_⟩
  ·rintro rfl
   exact hk _ _ (.inl ⟨.inr rfl,rfl⟩) (Kp.refl _ _) (fun ψ h=> .inl h)
  ·intro hne φ hφ
   refine hk _ _ (.inr ⟨φ,0,[],by simp,by simp⟩) (Kp.of_sub (.set (.refl τ) _ hφ)) (fun ψ e=>?_)
   obtain rfl:ψ=φ:=by simpa [famL] using e
   exact .inr hφ
 ·simp only [hF]
  refine ⟨trivial,trivial,by simp,by simpa using hn,ho,?_⟩
  refine hk _ _ (.inr ⟨φ,if 0+es.length+xs.length≤(es++jk).length then st else st+1,(es++jk).drop (0+es.length+xs.length),by simp,?_⟩) (fun ψ h _=>AH.set_ne' (by rintro rfl;exact h (by simp [famL]))) (fun ψ e=>?_)
  ·rw [AH.set_same,Nat.zero_add,List.take_left' rfl]
  ·exact .inl (by simpa [famL] using e)
theorem Bfj.cut (h:Bfj τ sz a es) (hne:es≠[]) {m:Nat} (hm:m≤es.length):∃a',slc sz a none (some (iv (m:Int))) none τ=some a'∧Bfj τ sz a' (es.take m)∧famL a'=famL a:=by
 rcases h with ⟨_,rfl⟩|⟨φ,st,jk,rfl,hF⟩
 ·exact absurd rfl hne
 ·refine ⟨.own φ st 0 m,?_,.inr ⟨φ,st,es.drop m++jk,?_,?_⟩,rfl⟩
  ·have e1:abd none 0=some 0:=rfl
   have e2:abd (some (iv (m:Int))) es.length=some m:=by simp [abd]
   simp only [slc,hF,e1,e2]
   rw [if_pos ⟨Nat.zero_le _,hm,trivial,trivial⟩]
   simp
  ·rw [List.length_take,Nat.min_eq_left hm]
  ·rw [←List.append_assoc,List.take_append_drop];exact hF
theorem Bfj.fz (h:Bfj τ sz a es) (h0:∀ψ,ψ∈famL a→σ ψ=none) (hz:∀c,c∈es→c.length=sz):Fz σ τ a (.ro es):=by
 rcases h with ⟨rfl|rfl,rfl⟩|⟨φ,st,jk,rfl,hF⟩
 ·exact .nil
 ·exact .emp
 ·refine .own hF (h0 φ (by simp [famL])) rfl (by simp) rfl (fun i hi=>?_) fun i j hi hj=>?_
  ·rw [show es.getD i []=es[i] by simp [List.getD,List.getElem?_eq_getElem hi]]
   exact hz _ (List.getElem_mem hi)
  ·rw [Nat.zero_add,show (es++jk).getD i []=es.getD i [] by simp [List.getD,List.getElem?_append_left hi]]
   exact .same _
theorem Buf.bfj (h:Buf τ sz a es):Bfj τ sz a es:=by
 rcases h with h|⟨φ,st,rfl,hF⟩
 ·exact .inl h
 ·exact .inr ⟨φ,st,[],rfl,by simpa using hF⟩
end
inductive Fd where
 |fix (a:AV)
 |lst (sz:Nat) (es:List (List AV))
def FdOk (τ:AH):Fd→AV→Prop
 | .fix a,v=>v=a∧famL a=[]∧a.one=true
 | .lst sz es,v=>Bfj τ sz v es
theorem FdOk.keep {f:Fd} {v:AV} (h:FdOk τ f v) (hk:∀ψ,ψ∈famL v→τ' ψ=τ ψ):FdOk τ' f v:=by
 cases f with
 |fix a=>exact h
 |lst sz es=>exact Bfj.keep h hk
theorem FdOk.live {f:Fd} {v:AV} (h:FdOk τ f v) {ψ:Nat} (hm:ψ∈famL v):∃F,τ ψ=some F:=by
 cases f with
 |fix a=>obtain ⟨rfl,h2,_⟩:=h;rw [h2] at hm;cases hm
 |lst sz es=>exact Bfj.live h hm
theorem FdOk.one {f:Fd} {v:AV} (h:FdOk τ f v):v.one=true:=by
 cases f with
 |fix a=>obtain ⟨rfl,_,h3⟩:=h;exact h3
 |lst sz es=>exact Bfj.one h
structure MSt (σ τ:AH) (φm:Nat) (fd:List Fd):Prop where
 ex:∃vs:List AV,τ φm=some ⟨0,fd.length,[vs]⟩∧vs.length=fd.length∧(∀i f,fd[i]? =some f→FdOk τ f (vs.getD i .any))∧
  (∀i j ψ,i≠j→ψ∈famL (vs.getD i .any)→ψ∉famL (vs.getD j .any))∧∀i ψ,ψ∈famL (vs.getD i .any)→ψ≠φm∧σ ψ=none
 fr:σ φm=none
 sub:AH.Sub σ τ
section
variable {φm i:Nat} {fd:List Fd}
theorem getD_any {vs:List AV} {i:Nat} (h:vs.length≤i):vs.getD i .any= .any:=by simp [List.getD,List.getElem?_eq_none h]
theorem MSt.live' {vs:List AV} (hl:vs.length=fd.length) (hf:∀i f,fd[i]? =some f→FdOk τ f (vs.getD i .any)) {i ψ:Nat} (hm:ψ∈famL (vs.getD i .any)):∃F,τ ψ=some F:=by
 rcases Nat.lt_or_ge i fd.length with c|c
 ·exact (hf i _ (List.getElem?_eq_getElem c)).live hm
 ·rw [getD_any (by omega)] at hm;cases hm
theorem MSt.fld (h:MSt σ τ φm fd) {f:Fd} (hi:fd[i]? =some f):∃v,lod (.ptr φm 0 0 i) τ=some v∧FdOk τ f v:=by
 obtain ⟨vs,h1,h2,h3,_⟩:=h.ex
 have hlt:=(List.getElem?_eq_some_iff.1 hi).1
 refine ⟨vs.getD i .any,lod_at h1 rfl ?_,h3 i f hi⟩
 have:i<vs.length:=by omega
 simp [List.getD,List.getElem?_eq_getElem this]
theorem MSt.fix (h:MSt σ τ φm fd) {a:AV} (hi:fd[i]? =some (.fix a)):lod (.ptr φm 0 0 i) τ=some a:=by
 obtain ⟨v,h1,rfl,_⟩:=h.fld hi
 exact h1
theorem MSt.lst (h:MSt σ τ φm fd) {sz:Nat} {es:List (List AV)} (hi:fd[i]? =some (.lst sz es)):∃v,lod (.ptr φm 0 0 i) τ=some v∧Bfj τ sz v es:=h.fld hi
theorem MSt.keep (h:MSt σ τ φm fd) {σ':AH} (hk:∀ψ,τ ψ≠none→(ψ=φm∨σ ψ=none)→σ' ψ=none∧τ' ψ=τ ψ) (hm:τ φm≠none→σ' φm=none∧τ' φm=τ φm) (hs:AH.Sub σ' τ'):MSt σ' τ' φm fd:=by
 obtain ⟨vs,h1,h2,h3,h4,h5⟩:=h.ex
 have hm':=hm (by rw [h1];simp)
 have hl:∀i ψ,ψ∈famL (vs.getD i .any)→σ' ψ=none∧τ' ψ=τ ψ:=fun i ψ hψ=>by
  obtain ⟨F,hF⟩:=MSt.live' h2 h3 hψ
  exact hk ψ (by rw [hF];simp) (.inr (h5 i ψ hψ).2)
 exact ⟨⟨vs,by rw [hm'.2];exact h1,h2,fun i f hf=>(h3 i f hf).keep fun ψ hψ=>(hl i ψ hψ).2,h4,fun i ψ hψ=>⟨(h5 i ψ hψ).1,(hl i ψ hψ).1⟩⟩,hm'.1,hs⟩
theorem MSt.grow (h:MSt σ τ φm fd) (hs:AH.Sub τ τ'):MSt σ τ' φm fd:=by
 have key:∀ψ,τ ψ≠none→τ' ψ=τ ψ:=fun ψ hn=>by
  cases e:τ ψ with
  |none=>exact absurd e hn
  |some F=>exact hs _ _ e
 refine h.keep (fun ψ hn hc=>⟨?_,key ψ hn⟩) (fun hn=>⟨h.fr,key _ hn⟩) (h.sub.trans hs)
 rcases hc with rfl|hc
 ·exact h.fr
 ·exact hc
theorem MSt.drop (h:MSt σ τ φm fd) {σ':AH} (hs:AH.Sub σ' σ):MSt σ' τ φm fd:=by
 refine h.keep (fun ψ hn hc=>⟨?_,rfl⟩) (fun hn=>⟨hs.none h.fr,rfl⟩) (hs.trans h.sub)
 rcases hc with rfl|hc
 ·exact hs.none h.fr
 ·exact hs.none hc
theorem MSt.set2 (h:MSt σ τ φm fd) {ψ:Nat} (Z:Fam) (hψ:τ ψ=none∨σ ψ≠none):MSt (σ.set ψ Z) (τ.set ψ Z) φm fd:=by
 obtain ⟨vs,h1,_⟩:=h.ex
 have hne:∀χ,τ χ≠none→(χ=φm∨σ χ=none)→χ≠ψ:=fun χ hn hc e=>by
  subst e
  rcases hψ with c|c
  ·exact hn c
  ·rcases hc with rfl|hc
   ·exact c h.fr
   ·exact c hc
 refine h.keep (fun χ hn hc=>?_) (fun hn=>?_) (AH.Sub.set_both h.sub ψ Z)
 ·have:=hne χ hn hc
  refine ⟨?_,AH.set_ne' this⟩
  rw [AH.set_ne' this]
  rcases hc with rfl|hc
  ·exact h.fr
  ·exact hc
 ·have:=hne φm hn (.inl rfl)
  exact ⟨by rw [AH.set_ne' this];exact h.fr,AH.set_ne' this⟩
theorem MSt.del2 (h:MSt σ τ φm fd) {ψ:Nat} (hψ:σ ψ≠none):MSt (σ.del ψ) (τ.del ψ) φm fd:=by
 have hne:∀χ,(χ=φm∨σ χ=none)→χ≠ψ:=fun χ hc e=>by
  subst e
  rcases hc with rfl|hc
  ·exact hψ h.fr
  ·exact hψ hc
 have hd:∀(α:AH) χ,χ≠ψ→(α.del ψ) χ=α χ:=fun α χ hc=>by simp [AH.del,hc]
 refine h.keep (fun χ hn hc=>?_) (fun hn=>?_) fun χ F hF=>?_
 ·have:=hne χ hc
  refine ⟨?_,hd _ _ this⟩
  rw [hd _ _ this]
  rcases hc with rfl|hc
  ·exact h.fr
  ·exact hc
 ·have:=hne φm (.inl rfl)
  exact ⟨by rw [hd _ _ this];exact h.fr,hd _ _ this⟩
 ·by_cases c:χ=ψ
  ·subst c;simp [AH.del] at hF
  ·rw [hd _ _ c] at hF ⊢;exact h.sub _ _ hF
theorem MSt.new {vs:List AV} {φ:Nat} (hφ:σ φ=none) (hl:vs.length=fd.length) (hf:∀i f,fd[i]? =some f→FdOk (σ.set φ ⟨0,fd.length,[vs]⟩) f (vs.getD i .any)) (h0:∀v,v∈vs→famL v=[]):MSt σ (σ.set φ ⟨0,fd.length,[vs]⟩) φ fd:=by
 have h0':∀i,famL (vs.getD i .any)=[]:=fun i=>by
  rcases Nat.lt_or_ge i vs.length with c|c
  ·rw [show vs.getD i .any=vs[i] by simp [List.getD,List.getElem?_eq_getElem c]];exact h0 _ (List.getElem_mem c)
  ·rw [getD_any c];rfl
 exact ⟨⟨vs,AH.set_same ..,hl,hf,(fun i j ψ _ hψ=>by rw [h0'] at hψ;cases hψ),fun i ψ hψ=>by rw [h0'] at hψ;cases hψ⟩,hφ,.set (.refl σ) _ hφ⟩
theorem MSt.put {f f':Fd} {v v':AV} {τ1:AH} {k':AH→Prop} (h:MSt σ τ φm fd) (hi:fd[i]? =some f) (hv:lod (.ptr φm 0 0 i) τ=some v) (hf:FdOk τ1 f' v') (hK:Kp (famL v) τ τ1) (hfam:∀ψ,ψ∈famL v'→ψ∈famL v∨τ ψ=none)
  (hk:∀τ2,MSt σ τ2 φm (fd.set i f')→k' τ2):sto 1 (.ptr φm 0 0 i) v' τ1 k':=by
 obtain ⟨vs,h1,h2,h3,h4,h5⟩:=h.ex
 have hlt:=(List.getElem?_eq_some_iff.1 hi).1
 have hlv:i<vs.length:=by omega
 obtain rfl:v=vs.getD i .any:=by
  have:lod (.ptr φm 0 0 i) τ=some (vs.getD i .any):=lod_at h1 rfl (by simp [List.getD,List.getElem?_eq_getElem hlv])
  rw [this] at hv;exact (Option.some.inj hv).symm
 have hm:φm∉famL (vs.getD i .any):=fun c=>(h5 i φm c).1 rfl
 have h1':τ1 φm=some ⟨0,fd.length,[vs]⟩:=by rw [hK φm hm (by rw [h1];simp)];exact h1
 refine sto_fld (cs:=vs) h1' rfl (by omega) (acells_one hf.one) hf.one (hk _ ?_)
 have e0:[vs].set 0 (vs.set i v')=[vs.set i v']:=rfl
 rw [e0]
 have gi:(vs.set i v').getD i .any=v':=by simp [List.getD,hlv]
 have gj:∀j,j≠i→(vs.set i v').getD j .any=vs.getD j .any:=fun j hj=>by simp [List.getD,List.getElem?_set_ne (Ne.symm hj)]
 have hmv:φm∉famL v':=fun c=>(hfam φm c).elim hm fun d=>by rw [h1] at d;cases d
 have tk:∀ψ,ψ≠φm→(τ1.set φm ⟨0,fd.length,[vs.set i v']⟩) ψ=τ1 ψ:=fun ψ hψ=>AH.set_ne' hψ
 have oth:∀j,j≠i→∀ψ,ψ∈famL (vs.getD j .any)→ψ∉famL (vs.getD i .any)∧ψ≠φm∧τ ψ≠none:=fun j hj ψ hψ=>by
  obtain ⟨F,hF⟩:=MSt.live' h2 h3 hψ
  exact ⟨h4 j i ψ hj hψ,(h5 j ψ hψ).1,by rw [hF];simp⟩
 refine ⟨⟨vs.set i v',by rw [AH.set_same];simp,by simpa using h2,fun j g hg=>?_,fun j l ψ hjl hψ=>?_,fun j ψ hψ=>?_⟩,h.fr,fun ψ F hF=>?_⟩
 ·by_cases c:j=i
  ·subst c
   rw [List.getElem?_set_self hlt] at hg
   obtain rfl:=Option.some.inj hg
   rw [gi]
   exact hf.keep fun ψ hψ=>tk ψ (by rintro rfl;exact hmv hψ)
  ·rw [List.getElem?_set_ne (Ne.symm c)] at hg
   rw [gj j c]
   refine (h3 j g hg).keep fun ψ hψ=>?_
   obtain ⟨o1,o2,o3⟩:=oth j c ψ hψ
   rw [tk ψ o2,hK ψ o1 o3]
 ·by_cases c:j=i
  ·subst c
   rw [gi] at hψ
   rw [gj l (Ne.symm hjl)]
   intro d
   obtain ⟨o1,o2,o3⟩:=oth l (Ne.symm hjl) ψ d
   exact (hfam ψ hψ).elim o1 o3
  ·rw [gj j c] at hψ
   obtain ⟨o1,o2,o3⟩:=oth j c ψ hψ
   by_cases c2:l=i
   ·subst c2
    rw [gi]
    intro d
    exact (hfam ψ d).elim o1 o3
   ·rw [gj l c2]
    exact h4 j l ψ hjl hψ
 ·by_cases c:j=i
  ·subst c
   rw [gi] at hψ
   refine ⟨by rintro rfl;exact hmv hψ,?_⟩
   rcases hfam ψ hψ with d|d
   ·exact (h5 j ψ d).2
   ·exact h.sub.none d
  ·rw [gj j c] at hψ
   exact h5 j ψ hψ
 ·have hne:ψ≠φm:=by rintro rfl;rw [h.fr] at hF;cases hF
  rw [tk ψ hne,hK ψ (fun c=>by rw [(h5 i ψ c).2] at hF;cases hF) (by rw [h.sub _ _ hF];simp)]
  exact h.sub _ _ hF
theorem MSt.app {sz:Nat} {es:List (List AV)} {row:List AV} {v x:AV} {k:AV→AH→Prop} (h:MSt σ τ φm fd) (hi:fd[i]? =some (.lst sz es)) (hv:lod (.ptr φm 0 0 i) τ=some v) (hx:aelems τ x=some [row]) (hr:row.length=sz) (ho:∀y,y∈row→y.one=true) (hn:es.length+1≤4294967296)
  (hk:∀v' τ1,(∀k':AH→Prop,(∀τ2,MSt σ τ2 φm (fd.set i (.lst sz (es++[row])))→k' τ2)→sto 1 (.ptr φm 0 0 i) v' τ1 k')→k v' τ1):E.app sz v x τ k:=by
 obtain ⟨v2,e2,hb⟩:=h.lst hi
 rw [hv] at e2
 obtain rfl:=Option.some.inj e2
 refine hb.app hx (by intro c hc;obtain rfl:=List.mem_singleton.1 hc;exact hr) (by intro c hc;obtain rfl:=List.mem_singleton.1 hc;exact ho) (by simpa using hn) fun v' τ1 hB hK hfam=>?_
 exact hk v' τ1 fun k' hk'=>h.put hi hv (f':= .lst sz (es++[row])) hB hK hfam hk'
theorem MSt.cut {sz:Nat} {es:List (List AV)} {v:AV} (h:MSt σ τ φm fd) (hi:fd[i]? =some (.lst sz es)) (hv:lod (.ptr φm 0 0 i) τ=some v) (hne:es≠[]) {m:Nat} (hm:m≤es.length):
  ∃v',slc sz v none (some (iv (m:Int))) none τ=some v'∧∀k':AH→Prop,(∀τ2,MSt σ τ2 φm (fd.set i (.lst sz (es.take m)))→k' τ2)→sto 1 (.ptr φm 0 0 i) v' τ k':=by
 obtain ⟨v2,e2,hb⟩:=h.lst hi
 rw [hv] at e2
 obtain rfl:=Option.some.inj e2
 obtain ⟨v',h1,h2,h3⟩:=hb.cut hne hm
 exact ⟨v',h1,fun k' hk'=>h.put hi hv (f':= .lst sz (es.take m)) h2 (Kp.refl _ _) (fun ψ hψ=> .inl (h3▸hψ)) hk'⟩
theorem MSt.fzl {sz:Nat} {es:List (List AV)} {v:AV} (h:MSt σ τ φm fd) (hi:fd[i]? =some (.lst sz es)) (hv:lod (.ptr φm 0 0 i) τ=some v) (hz:∀c,c∈es→c.length=sz):Fz σ τ v (.ro es):=by
 obtain ⟨vs,h1,h2,h3,h4,h5⟩:=h.ex
 have hlt:=(List.getElem?_eq_some_iff.1 hi).1
 have hlv:i<vs.length:=by omega
 obtain rfl:v=vs.getD i .any:=by
  have:lod (.ptr φm 0 0 i) τ=some (vs.getD i .any):=lod_at h1 rfl (by simp [List.getD,List.getElem?_eq_getElem hlv])
  rw [this] at hv;exact (Option.some.inj hv).symm
 exact Bfj.fz (h3 i _ hi) (fun ψ hψ=>(h5 i ψ hψ).2) hz
theorem MSt.app2 {sz:Nat} {es xs:List (List AV)} {a x:AV} {σ0:AH} {k:AV→AH→Prop} (h:MSt σ τ φm fd) (hs0:AH.Sub σ0 σ) (hB:Buf σ sz a es) (h0:∀ψ,ψ∈famL a→σ0 ψ=none) (hx:aelems τ x=some xs) (hs:∀c,c∈xs→c.length=sz) (ho:∀c,c∈xs→∀y,y∈c→y.one=true) (hn:es.length+xs.length≤4294967296)
  (hk:∀a' σ' τ',MSt σ' τ' φm fd→AH.Sub σ0 σ'→Buf σ' sz a' (es++xs)→(∀ψ,ψ∈famL a'→σ0 ψ=none)→k a' τ'):E.app sz a x τ k:=by
 unfold E.app
 rw [hx]
 refine ⟨hs,?_⟩
 have new:∀φ,τ φ=none→k (.own φ 0 0 xs.length) (τ.set φ ⟨0,sz,xs⟩)∨es≠[]:=by
  intro φ hφ
  by_cases c:es=[]
  ·left
   subst c
   have hσ:σ φ=none:=h.sub.none hφ
   refine hk _ _ _ (h.set2 ⟨0,sz,xs⟩ (.inl hφ)) (.set hs0 _ (hs0.none hσ)) (.inr ⟨φ,0,by simp,by simp⟩) fun ψ hψ=>?_
   obtain rfl:ψ=φ:=by simpa [famL] using hψ
   exact hs0.none hσ
  ·exact .inr c
 rcases hB with ⟨rfl|rfl,rfl⟩|⟨φ,st,rfl,hF⟩
 ·simp only
  refine ⟨by simpa using hn,?_,fun _ φ hφ=>(new φ hφ).elim id fun c=>absurd rfl c⟩
  rintro rfl
  exact hk _ _ _ h hs0 (.inl ⟨.inl rfl,rfl⟩) h0
 ·simp only
  refine ⟨by simpa using hn,?_,fun _ φ hφ=>(new φ hφ).elim id fun c=>absurd rfl c⟩
  rintro rfl
  exact hk _ _ _ h hs0 (.inl ⟨.inr rfl,rfl⟩) h0
 ·simp only [h.sub _ _ hF]
  refine ⟨trivial,trivial,by simp,by simpa using hn,ho,?_⟩
  have hφ0:σ0 φ=none:=h0 φ (by simp [famL])
  refine hk _ _ _ (h.set2 _ (.inr (by rw [hF];simp))) (.set hs0 _ hφ0) (.inr ⟨φ,if 0+es.length+xs.length≤es.length then st else st+1,by simp,by simp⟩) fun ψ hψ=>?_
  obtain rfl:ψ=φ:=by simpa [famL] using hψ
  exact hφ0
end
end Go.Proofs.YtbppopcpgcgkkaaGreatDoor.E

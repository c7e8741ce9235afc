import Derived.Test.YtggnjjalfnhiiaaGreatDoorPG13
import Derived.Shelf.Strings.IndexAnyAll
import Derived.Shelf.Strings.Cut
import Derived.Shelf.Small.Strs
import Derived.Test.YtggnjjalfnhiiaaGreatDoorProg
import Derived.Lib.OthersKept
import Derived.Laws.RangeAny
import Derived.Shelf.Small.Utf8
import Derived.Laws.Runes
import Derived.WalkMore
import Derived.Handy
import Derived.Shelf.RegionOpenPlain
import Derived.Laws.Strings3
import Derived.Test.YtggnjjalfnhiiaaGreatDoorRows
import Derived.LaidLaws
import Derived.Lib.LaidU8
import Derived.Shelf.Vars
/- The library's contracts at this program. -/
set_option linter.unusedSectionVars false
set_option linter.unusedSimpArgs false
set_option linter.unusedVariables false
namespace Go.Proofs.YtggnjjalfnhiiaaGreatDoor.E
open Go Go.RowKit
section
open Go Go.Proofs
open Go.Shelf
def Qsx:Go.Shelf.Ren:=⟨fun|137=>183|217=>218|266=>240|n=>n,fun|9=>9|5=>5|3=>3|n=>n,fun|n=>n⟩
theorem Qzy:Go.Proofs.Lays.n137 Tryz.prog Qsx:={
 mixed:=by kernel_rfl
 f137:=Tryz.func183.trans (congrArg some (by kernel_rfl))
 f217:=Tryz.func218.trans (congrArg some (by kernel_rfl))
 f266:=Tryz.func240.trans (congrArg some (by kernel_rfl))
 t3:=Tryz.underlying3
 a3:=Tryz.isAgg3
 z3:=Tryz.sizeOf3
 v3:=Tryz.zeroValue3
 t5:=Tryz.underlying5
 a5:=Tryz.isAgg5
 z5:=Tryz.sizeOf5
 v5:=Tryz.zeroValue5
 t9:=Tryz.underlying9
 a9:=Tryz.isAgg9
 z9:=Tryz.sizeOf9
 v9:=Tryz.zeroValue9}
open Go.RowKit in
theorem QiG (s:ByteArray) (c:Int) (w:World):
  Calls Tryz.prog 183 #[.string s,.int .u8 c] w fun e w'=>e= .returned (.int .i64 (Lib.indexByte s.data.toList c.toNat.toUInt8))∧w'=w:=Any.strings_IndexByte Qzy s c w
def Qsy:Go.Shelf.Ren:=⟨fun|145=>182|220=>217|219=>239|217=>218|225=>243|224=>242|267=>251|266=>240|314=>255|n=>n,fun|9=>9|4=>4|59=>243|3=>3|5=>5|46=>184|146=>316|51=>181|n=>n,fun|1=>1|n=>n⟩
theorem Qzz:Go.Proofs.Lays.n145 Tryz.prog Qsy:={
 mixed:=by kernel_rfl
 f145:=Tryz.func182.trans (congrArg some (by kernel_rfl))
 f217:=Tryz.func218.trans (congrArg some (by kernel_rfl))
 f219:=Tryz.func239.trans (congrArg some (by kernel_rfl))
 f220:=Tryz.func217.trans (congrArg some (by kernel_rfl))
 f224:=Tryz.func242.trans (congrArg some (by kernel_rfl))
 f225:=Tryz.func243.trans (congrArg some (by kernel_rfl))
 f266:=Tryz.func240.trans (congrArg some (by kernel_rfl))
 f267:=Tryz.func251.trans (congrArg some (by kernel_rfl))
 f314:=Tryz.func255.trans (congrArg some (by kernel_rfl))
 t3:=Tryz.underlying3
 a3:=Tryz.isAgg3
 z3:=Tryz.sizeOf3
 v3:=Tryz.zeroValue3
 t4:=Tryz.underlying4
 a4:=Tryz.isAgg4
 z4:=Tryz.sizeOf4
 v4:=Tryz.zeroValue4
 t5:=Tryz.underlying5
 a5:=Tryz.isAgg5
 z5:=Tryz.sizeOf5
 v5:=Tryz.zeroValue5
 t9:=Tryz.underlying9
 a9:=Tryz.isAgg9
 z9:=Tryz.sizeOf9
 v9:=Tryz.zeroValue9
 t46:=Tryz.underlying184
 a46:=Tryz.isAgg184
 z46:=Tryz.sizeOf184
 v46:=Tryz.zeroValue184
 t51:=Tryz.underlying181
 a51:=Tryz.isAgg181
 z51:=Tryz.sizeOf181
 v51:=Tryz.zeroValue181
 t59:=Tryz.underlying243
 a59:=Tryz.isAgg243
 z59:=Tryz.sizeOf243
 v59:=Tryz.zeroValue243
 t146:=Tryz.underlying316
 a146:=Tryz.isAgg316
 z146:=Tryz.sizeOf316
 v146:=Tryz.zeroValue316
 g1:=by kernel_rfl}
open Go.RowKit Go.Lib in
theorem Qpy (s sep:ByteArray) (m:Int) (w:World) (hs:s.size<4294967281) (hm:w.cell? ⟨1,0,none⟩=some (.int .i64 m)):
  Calls Tryz.prog 182 #[.string s,.string sep] w fun e w'=>e= .returned (.tuple #[.string ⟨(Lib.cut s.data.toList sep.data.toList).1.toArray⟩,.string ⟨(Lib.cut s.data.toList sep.data.toList).2.1.toArray⟩,.bool (Lib.cut s.data.toList sep.data.toList).2.2])∧∃n,w'=w.drewN n:=Any.strings_Cut Qzz s sep m w hs hm
def Qsz:Go.Shelf.Ren:=⟨fun|153=>184|152=>219|226=>220|227=>163|228=>202|137=>183|119=>241|224=>242|225=>243|217=>218|266=>240|n=>n,fun|9=>9|3=>3|4=>4|5=>5|21=>21|117=>221|116=>220|0=>0|46=>184|124=>224|n=>n,fun|n=>n⟩
theorem QsY:Go.Proofs.Lays.n153 Tryz.prog Qsz:={
 mixed:=by kernel_rfl
 f119:=Tryz.func241.trans (congrArg some (by kernel_rfl))
 f137:=Tryz.func183.trans (congrArg some (by kernel_rfl))
 f152:=Tryz.func219.trans (congrArg some (by kernel_rfl))
 f153:=Tryz.func184.trans (congrArg some (by kernel_rfl))
 f217:=Tryz.func218.trans (congrArg some (by kernel_rfl))
 f224:=Tryz.func242.trans (congrArg some (by kernel_rfl))
 f225:=Tryz.func243.trans (congrArg some (by kernel_rfl))
 f226:=Tryz.func220.trans (congrArg some (by kernel_rfl))
 f227:=Tryz.func163.trans (congrArg some (by kernel_rfl))
 f228:=Tryz.func202.trans (congrArg some (by kernel_rfl))
 f266:=Tryz.func240.trans (congrArg some (by kernel_rfl))
 t0:=Tryz.underlying0
 a0:=Tryz.isAgg0
 z0:=Tryz.sizeOf0
 v0:=Tryz.zeroValue0
 t3:=Tryz.underlying3
 a3:=Tryz.isAgg3
 z3:=Tryz.sizeOf3
 v3:=Tryz.zeroValue3
 t4:=Tryz.underlying4
 a4:=Tryz.isAgg4
 z4:=Tryz.sizeOf4
 v4:=Tryz.zeroValue4
 t5:=Tryz.underlying5
 a5:=Tryz.isAgg5
 z5:=Tryz.sizeOf5
 v5:=Tryz.zeroValue5
 t9:=Tryz.underlying9
 a9:=Tryz.isAgg9
 z9:=Tryz.sizeOf9
 v9:=Tryz.zeroValue9
 t21:=Tryz.underlying21
 a21:=Tryz.isAgg21
 z21:=Tryz.sizeOf21
 v21:=Tryz.zeroValue21
 t46:=Tryz.underlying184
 a46:=Tryz.isAgg184
 z46:=Tryz.sizeOf184
 v46:=Tryz.zeroValue184
 t116:=Tryz.underlying220
 a116:=Tryz.isAgg220
 z116:=Tryz.sizeOf220
 t117:=Tryz.underlying221
 a117:=Tryz.isAgg221
 z117:=Tryz.sizeOf221
 v117:=Tryz.zeroValue221
 t124:=Tryz.underlying224
 a124:=Tryz.isAgg224
 z124:=Tryz.sizeOf224
 v124:=Tryz.zeroValue224}
open Go.RowKit Go.Lib in
theorem Qfh (hv116:∀w,(zeroValue 220).run Tryz.prog w= .ok (.agg (Array.replicate 256 (.bool false))) w) (s chars:ByteArray) (w:World) (h2:2≤chars.size) (h8:8<s.size) (hs:s.size<4294967281) (hcs:chars.size<4294967281) (hascii:∀(j:Nat) b,chars.data.toList[j]? =some b→b.toNat<128):
  Calls Tryz.prog 184 #[.string s,.string chars] w fun e w'=>e= .returned (.int .i64 (Lib.indexAny s.data.toList chars.data.toList))∧w'=((w.alloc (.cells (Lib.setCells chars.data.toList) 220)).alloc (.cells (Lib.setCells chars.data.toList) 220)):=Any.strings_IndexAny_long QsY hv116 (by kernel_rfl) s chars w h2 h8 hs hcs hascii
end
section
open Go Go.Proofs Go.Shelf Go.RowKit Go.Lib
variable {P:Program} {ρ:Ren}
theorem Qom (w:World) (s:ByteArray) (i:Nat):Below w.heap.size w (w.iter s i):=by
 refine ⟨rfl,rfl,rfl,?_,fun b hb=>?_⟩
 ·show w.heap.size≤(w.heap.push _).size;rw[Array.size_push];omega
 ·show (w.heap.push _)[b]? =w.heap[b]?
  rw[Array.getElem?_push];split
  ·omega
  ·rfl
set_option maxHeartbeats 8000000 in
set_option maxRecDepth 1000000 in
theorem Qwy (L:Lays.n152 P ρ) (s:ByteArray) (w:World) (hascii:∀(j:Nat) b,s.data.toList[j]? =some b→b.toNat<128):
  Calls P (ρ.f 152) #[.string s,.int .i32 65533] w fun e w'=>e= .returned (.int .i64 (-1))∧Below w.heap.size w w':=by
 have HA:Aside (∀(j:Nat) b,s.data.toList[j]? =some b→b.toNat<128):=hascii;clear hascii;have t3:=L.t3;have a3:=L.a3;have z3:=L.z3;have v3:=L.v3;have t4:=L.t4;have a4:=L.a4;have z4:=L.z4;have v4:=L.v4;have t5:=L.t5;have a5:=L.a5;have z5:=L.z5;have v5:=L.v5;have t9:=L.t9;have a9:=L.a9;have z9:=L.z9;have v9:=L.v9;have t21:=L.t21;have a21:=L.a21;have z21:=L.z21;have v21:=L.v21
 go_enter L.f152,Body.n152_ntmps ρ
 go_wp2
 go_loopg [5,6] s.size (fun g _ _ wx=>∃i:Nat,i+g=s.size∧wx=w.iter s i)
 case atStart=>exact ⟨0,by omega,rfl⟩
 case round=>
  obtain ⟨i,hig,rfl⟩:=hrel;cases gk with
  |zero=>
   obtain rfl:i=s.size:=by omega
   have hnx:=run_next_end (P:=P) w s s.size
   go_wp2
   go_ret
   exact ⟨rfl,Qom _ _ _⟩
  |succ g=>
   have hi:i<s.size:=by omega
   obtain ⟨x,hx⟩:∃x:UInt8,s[i]'hi=x:=⟨_,rfl⟩;have hxl:s.data.toList[i]? =some x:=by rw[←hx];exact Lib.data_getElem? s i hi
   have hx128:x.toNat<128:=HA.out i x hxl;have hnx:=fun ty=>run_next_ascii (P:=P) w s i ty hi (by rw[hx];exact hx128)
   rw[hx] at hnx;clear hxl hx;have hne:((x.toNat:Int)==65533)=false:=beq_eq_false_iff_ne.2 (by omega)
   go_wp2
   go_roundg g
   case measure=>omega
   case rel=>exact ⟨i+1,by omega,rfl⟩
set_option maxHeartbeats 8000000 in
set_option maxRecDepth 1000000 in
theorem Qwz (L:Lays.n152 P ρ) (s:ByteArray) (r:Int) (w:World) (h1:128≤r) (h2:(r==65533)=false) (h3:Lib.validRune r=false):
  Calls P (ρ.f 152) #[.string s,.int .i32 r] w fun e w'=>e= .returned (.int .i64 (-1))∧Below w.heap.size w w':=by
 have t3:=L.t3;have a3:=L.a3;have z3:=L.z3;have v3:=L.v3;have t4:=L.t4;have a4:=L.a4;have z4:=L.z4;have v4:=L.v4;have t5:=L.t5;have a5:=L.a5;have z5:=L.z5;have v5:=L.v5;have t9:=L.t9;have a9:=L.a9;have z9:=L.z9;have v9:=L.v9;have t21:=L.t21;have a21:=L.a21;have z21:=L.z21;have v21:=L.v21;have e119:∀args w,(callFunc (ρ.f 119) args).run P w= .ok (.enter (ρ.f 119) args) w:=enters_of L.f119 (by kernel_rfl) rfl;have hlt:decide (r<128)=false:=decide_eq_false (by omega)
 go_enter L.f152,Body.n152_ntmps ρ
 go_wp2_with (go_at_fn (ρ.f 119);refine (Any.utf8_ValidRune {L with} _ _).mono ?_;rintro e w' ⟨rfl,hw⟩;rw[hw,h3])
 go_ret
 exact ⟨rfl,.refl _ _⟩
theorem QwA {r:Int} (h1:128≤r):∃(n:Nat) (y:UInt8),(Utf8.encode r).size=n+2∧n≤2∧(Utf8.encode r).data.toList[n+1]? =some y∧128≤y.toNat:=by
 have key:∀c:Nat,128≤(UInt8.ofNat (128+c % 64)).toNat:=fun c=>by rw[UInt8.toNat_ofNat'];omega
 unfold Utf8.encode;simp only;generalize hc:(if Utf8.valid r=true then r.toNat else Utf8.runeError)=c;have h0:¬c<128:=by
  rw[←hc];split
  ·omega
  ·decide
 rw[if_neg h0];split
 ·exact ⟨0,_,rfl,by omega,rfl,key c⟩
 split
 ·exact ⟨1,_,rfl,by omega,rfl,key c⟩
 ·exact ⟨2,_,rfl,by omega,rfl,key c⟩
theorem QrH {c:UInt8}:∀l:List UInt8,(∀x,x∈l→x≠c)→Lib.indexByte l c= -1:=by
 intro l
 induction l with
 |nil=>intro _;rfl
 |cons x r ih=>
  intro h;have h1:=ih fun y hy=>h y (List.mem_cons_of_mem _ hy)
  have h2:(x==c)=false:=beq_eq_false_iff_ne.2 (h x (.head _));unfold Lib.indexByte;simp[h2,h1]
set_option maxHeartbeats 8000000 in
set_option maxRecDepth 1000000 in
theorem QwB (L:Lays.n152 P ρ) (s:ByteArray) (r:Int) (w:World) (hsz:4≤s.size) (hmax:s.size≤1000) (hascii:∀(j:Nat) b,s.data.toList[j]? =some b→b.toNat<128) (h1:128≤r) (h2:(r==65533)=false) (h3:Lib.validRune r=true):
  Calls P (ρ.f 152) #[.string s,.int .i32 r] w fun e w'=>e= .returned (.int .i64 (-1))∧Below w.heap.size w w':=by
 have HA:Aside (∀(j:Nat) b,s.data.toList[j]? =some b→b.toNat<128):=hascii;clear hascii;obtain ⟨n,y,en,hn,ey,hy⟩:=QwA h1;generalize hrs:Utf8.encode r=rs at en ey;have t3:=L.t3;have a3:=L.a3;have z3:=L.z3;have v3:=L.v3;have t4:=L.t4;have a4:=L.a4;have z4:=L.z4;have v4:=L.v4;have t5:=L.t5;have a5:=L.a5;have z5:=L.z5;have v5:=L.v5;have t9:=L.t9;have a9:=L.a9;have z9:=L.z9;have v9:=L.v9;have t21:=L.t21;have a21:=L.a21;have z21:=L.z21;have v21:=L.v21;have e119:∀args w,(callFunc (ρ.f 119) args).run P w= .ok (.enter (ρ.f 119) args) w:=enters_of L.f119 (by kernel_rfl) rfl;have e137:∀args w,(callFunc (ρ.f 137) args).run P w= .ok (.enter (ρ.f 137) args) w:=enters_of L.f137 (by kernel_rfl) rfl;have hlt:decide (r<128)=false:=decide_eq_false (by omega)
 go_enter L.f152,Body.n152_ntmps ρ
 go_wp2_with (go_at_fn (ρ.f 119);refine (Any.utf8_ValidRune {L with} _ _).mono ?_;rintro e w' ⟨rfl,hw⟩;rw[hw,h3])
 subst hw;have cv:∀w,(convert (ρ.t 21) (ρ.t 9) (.int .i32 r)).run P w= .ok (.string rs) w:=fun w=>by rw[←hrs];exact run_convert_int_string w _ _ _ _ (by rw[t21];rfl) t9
 refine wp_scope_straight ?_
 go_wp2
 have e1:((n:Int)+2 - 1)=((n+1:Nat):Int):=by omega
 simp only[e1];have hi:n+1<s.size:=by omega
 obtain ⟨x,hx⟩:∃x:UInt8,s[n+1]'hi=x:=⟨_,rfl⟩;have hxl:s.data.toList[n+1]? =some x:=by rw[←hx];exact Lib.data_getElem? s (n+1) hi
 have hx128:x.toNat<128:=HA.out (n+1) x hxl;have hir:n+1<rs.size:=by omega
 have hyr:rs[n+1]'hir=y:=by
  have:=Lib.data_getElem? rs (n+1) hir;rw[ey] at this;exact (Option.some.inj this).symm
 have hlt2:decide (((n+1:Nat):Int)<(s.size:Int))=true:=decide_eq_true (by omega);have hne:((x.toNat:Int)==(y.toNat:Int))=false:=beq_eq_false_iff_ne.2 (by omega);have hback:((y.toNat:Int)).toNat.toUInt8=y:=by simp
 have hib:∀a b,Lib.indexByte (s.extract a b).data.toList ((y.toNat:Int)).toNat.toUInt8= -1:=fun a b=>by
  rw[hback];refine QrH _ fun z hz=>?_
  rw[ByteArray.data_extract,Array.toList_extract,List.extract_eq_take_drop] at hz;obtain ⟨k,hk⟩:=List.getElem?_of_mem (List.mem_of_mem_drop (List.mem_of_mem_take hz));have:=HA.out k z hk;rintro rfl;omega
 refine wp_loop_rounds 1 ?_;rw[rounds_succ]
 go_wp2
 refine wp_scope_straight ?_
 go_wp2
 have r1:∀w,(Instr.index (ρ.t 9) (.string s) (.int .i64 ((n+1:Nat):Int))).run P w= .ok (.int .u8 (x.toNat:Int)) w:=fun w=>by
  rw[run_index_string _ _ _ _ _ t9,dif_pos (by omega)];have:((n+1:Nat):Int).toNat=n+1:=by omega
  simp only[this,hx]
 have r2:∀w,(Instr.index (ρ.t 9) (.string rs) (.int .i64 ((n+1:Nat):Int))).run P w= .ok (.int .u8 (y.toNat:Int)) w:=fun w=>by
  rw[run_index_string _ _ _ _ _ t9,dif_pos (by omega)];have:((n+1:Nat):Int).toNat=n+1:=by omega
  simp only[this,hyr]
 have r3:∀w,(Instr.slice (ρ.t 9) (.string s) (some (.int .i64 (((n+1:Nat):Int)+1))) none none).run P w= .ok (.string (s.extract (n+2) s.size)) w:=fun w=>by
  rw[run_slice_string_l _ _ _ t9 _ _ (by omega) (by omega)];have:(((n+1:Nat):Int)+1).toNat=n+2:=by omega
  rw[this]
 have r3':∀w,(Instr.slice (ρ.t 9) (.string s) (some (.int .i64 ((n:Int)+1+1))) none none).run P w= .ok (.string (s.extract (n+2) s.size)) w:=fun w=>by
  have:=r3 w
  rwa [show (((n+1:Nat):Int)+1)=(n:Int)+1+1 by omega] at this
 have hw1:IntKind.i64.wrap ((n:Int)+1+1)=(n:Int)+1+1:=by
  rcases (by omega:n=0∨n=1∨n=2) with h|h|h<;>rw[h]<;>decide
 have hw2:IntKind.i64.wrap (((n+1:Nat):Int)+1)=((n+1:Nat):Int)+1:=by
  rcases (by omega:n=0∨n=1∨n=2) with h|h|h<;>rw[h]<;>decide
 have hz1:(0:Int)≤((n+1:Nat):Int)+1:=by omega
 have hz2:((n+1:Nat):Int)+1≤(s.size:Int):=by omega
 have mixed:=L.mixed
 go_region_o
 go_wp2
 go_region_with_o (refine (Any.strings_IndexByte {L with} _ _ _).mono ?_;rintro e w'' ⟨rfl,hw2⟩;rw[hw2,hib])
 go_wp2
 simp only[Exit.inBlock,Exit.then,Exit.noGoto]
 go_ret
 exact ⟨rfl,.drew (.drew (.refl _ _))⟩
theorem QwC (L:Lays.n152 P ρ) (s:ByteArray) (r:Int) (w:World) (hsz:4≤s.size) (hmax:s.size≤1000) (hascii:∀(j:Nat) b,s.data.toList[j]? =some b→b.toNat<128) (h1:128≤r):
  Calls P (ρ.f 152) #[.string s,.int .i32 r] w fun e w'=>e= .returned (.int .i64 (-1))∧Below w.heap.size w w':=by
 by_cases h:r=65533
 ·subst h;exact Qwy L s w hascii
 ·have h2:(r==65533)=false:=beq_eq_false_iff_ne.2 h;cases h3:Lib.validRune r with
  |true=>exact QwB L s r w hsz hmax hascii h1 h2 h3
  |false=>exact Qwz L s r w h1 h2 h3
end
section
open Go Go.Proofs Go.Shelf Go.RowKit Go.Lib
variable {P:Program} {ρ:Ren}
theorem get!_eq {s:ByteArray} {i:Nat} (h:i<s.size):s.get! i=s[i]:=by
 show s.data[i]! =_;rw[getElem!_pos s.data i h];rfl
theorem QtN {s:ByteArray} {i:Nat} (hi:i<s.size) (h:128≤(s[i]'hi).toNat):128≤(Utf8.decode s i).1∧1≤(Utf8.decode s i).2∧i+(Utf8.decode s i).2≤s.size∧∀j,i≤j→j<i+(Utf8.decode s i).2→∀hj:j<s.size,128≤(s[j]'hj).toNat:=by
 have c1:∀k,(decide (i+k<s.size)&&(s.get! (i+k)).toNat / 64==2)=true→i+k<s.size∧128≤(s.get! (i+k)).toNat:=fun k hk=>by
  simp only[Bool.and_eq_true,decide_eq_true_iff,beq_iff_eq] at hk;exact ⟨hk.1,by omega⟩
 have base:∀d,(∀k,k<d→i+k<s.size∧128≤(s.get! (i+k)).toNat)→∀j,i≤j→j<i+d→∀hj:j<s.size,128≤(s[j]'hj).toNat:=fun d hd j h1 h2 hj=>by
  have:=(hd (j - i) (by omega)).2;rw[show i+(j - i)=j by omega,get!_eq hj] at this;exact this
 have h0:i+0<s.size∧128≤(s.get! (i+0)).toNat:=⟨hi,by rw[Nat.add_zero,get!_eq hi];exact h⟩;have one:∀k,k<1→i+k<s.size∧128≤(s.get! (i+k)).toNat:=fun k hk=>by
  have e:k=0:=by omega
  rw[e];exact h0
 have er:128≤Utf8.runeError∧1≤1∧i+1≤s.size∧∀j,i≤j→j<i+1→∀hj:j<s.size,128≤(s[j]'hj).toNat:=⟨by decide,by omega,by omega,base 1 one⟩;unfold Utf8.decode;simp only;rw[if_neg (by have:=h0.2;omega)];split
 ·rename_i k1;rw[Bool.and_eq_true] at k1;have a1:=c1 1 k1.2;split
  ·rename_i g;refine ⟨g,by omega,by omega,base 2 fun k hk=>?_⟩;match k,hk with
   |0,_=>exact h0
   |1,_=>exact a1
  ·exact er
 split
 ·rename_i k1;rw[Bool.and_eq_true,Bool.and_eq_true] at k1;have a1:=c1 1 k1.1.2;have a2:=c1 2 k1.2;split
  ·rename_i g;rw[Bool.and_eq_true,decide_eq_true_iff] at g;refine ⟨by have:=g.1;dsimp only;omega,by omega,by omega,base 3 fun k hk=>?_⟩;match k,hk with
   |0,_=>exact h0
   |1,_=>exact a1
   |2,_=>exact a2
  ·exact er
 split
 ·rename_i k1;rw[Bool.and_eq_true,Bool.and_eq_true,Bool.and_eq_true] at k1;have a1:=c1 1 k1.1.1.2;have a2:=c1 2 k1.1.2;have a3:=c1 3 k1.2;split
  ·rename_i g;rw[Bool.and_eq_true,decide_eq_true_iff] at g;refine ⟨by have:=g.1;dsimp only;omega,by omega,by omega,base 4 fun k hk=>?_⟩;match k,hk with
   |0,_=>exact h0
   |1,_=>exact a1
   |2,_=>exact a2
   |3,_=>exact a3
  ·exact er
 ·exact er
theorem QzA (w:World) (s:ByteArray) (i:Nat):(w.iter s i).heap[w.heap.size]? =some (.stringIter s i):=by
 show (w.heap.push _)[w.heap.size]? =_;rw[Array.getElem?_push,if_pos rfl]
theorem QtO {s chars:ByteArray} {i d:Nat} (hno:Lib.NoAny s.data.toList chars.data.toList i) (hc:∀(j:Nat) b,chars.data.toList[j]? =some b→b.toNat<128) (hd:∀j,i≤j→j<i+d→∀hj:j<s.size,128≤(s[j]'hj).toNat):Lib.NoAny s.data.toList chars.data.toList (i+d):=by
 intro j b hj hb;by_cases c:j<i
 ·exact hno j b c hb
 ·have hjs:j<s.size:=by
   have:=(List.getElem?_eq_some_iff.1 hb).1;rw[Lib.size_eq];exact this
  have h1:=hd j (by omega) hj hjs;have h2:s.data.toList[j]? =some (s[j]'hjs):=Lib.data_getElem? s j hjs;rw[hb] at h2;obtain rfl:=Option.some.inj h2;cases hcon:chars.data.toList.contains (s[j]'hjs) with
  |false=>rfl
  |true=>
   have:=List.contains_iff_mem.1 hcon;obtain ⟨k,hk⟩:=List.getElem?_of_mem this;have:=hc k _ hk;omega
set_option maxHeartbeats 8000000 in
set_option maxRecDepth 1000000 in
theorem Qpz (L:Lays.n153 P ρ) (s chars:ByteArray) (w:World) (h2:4≤chars.size) (hcm:chars.size≤1000) (h8:s.size≤8) (hascii:∀(j:Nat) b,chars.data.toList[j]? =some b→b.toNat<128):
  Calls P (ρ.f 153) #[.string s,.string chars] w fun e w'=>e= .returned (.int .i64 (Lib.indexAny s.data.toList chars.data.toList))∧Below w.heap.size w w':=by
 have HA:Aside (∀(j:Nat) b,chars.data.toList[j]? =some b→b.toNat<128):=hascii;clear hascii;have hemp:chars.toList.isEmpty=false:=by
  rw[Lib.toList_data];cases h:chars.data.toList with
  |nil=>have:=Lib.size_eq chars;rw[h,List.length_nil] at this;omega
  |cons _ _=>rfl
 have hn1:((chars.size:Int)==1)=false:=beq_eq_false_iff_ne.2 (by omega);have h8z:decide ((8:Int)<(s.size:Int))=false:=decide_eq_false (by omega);have t3:=L.t3;have a3:=L.a3;have z3:=L.z3;have v3:=L.v3;have t4:=L.t4;have a4:=L.a4;have z4:=L.z4;have v4:=L.v4;have t5:=L.t5;have a5:=L.a5;have z5:=L.z5;have v5:=L.v5;have t9:=L.t9;have a9:=L.a9;have z9:=L.z9;have v9:=L.v9;have t21:=L.t21;have a21:=L.a21;have z21:=L.z21;have v21:=L.v21;have e152:∀args w,(callFunc (ρ.f 152) args).run P w= .ok (.enter (ρ.f 152) args) w:=enters_of L.f152 (by kernel_rfl) rfl;have e226:∀args w,(callFunc (ρ.f 226) args).run P w= .ok (.enter (ρ.f 226) args) w:=enters_of L.f226 (by kernel_rfl) rfl
 go_enter L.f153,Body.n153_ntmps ρ
 go_wp2_with (go_at_fn (ρ.f 226);refine (Any.strings_shouldUseASCIISet {L with} _ _).mono ?_;rintro e w' ⟨rfl,hw⟩;rw[hw,h8z])
 go_loopg [9,10] s.size (fun g _ _ wx=>∃i:Nat,i+g=s.size∧wx.heap[w.heap.size]? =some (.stringIter s i)∧Below w.heap.size w wx∧Lib.NoAny s.data.toList chars.data.toList i)
 case atStart=>exact ⟨0,by omega,QzA _ _ _,Qom _ _ _,Lib.NoAny.zero _ _⟩
 case round=>
  obtain ⟨i,hig,hk,hbel,hno⟩:=hrel;have HN:Aside (Lib.NoAny s.data.toList chars.data.toList i):=hno;clear hno;by_cases hi:i<s.size
  ·obtain ⟨x,hx⟩:∃x:UInt8,s[i]'hi=x:=⟨_,rfl⟩;have hxl:s.data.toList[i]? =some x:=by rw[←hx];exact Lib.data_getElem? s i hi
   by_cases hx128:x.toNat<128
   ·have hnx:=fun ty=>run_next_ascii_at (P:=P) wr w.heap.size s i ty hk hi (by rw[hx];exact hx128)
    rw[hx] at hnx;have Hx:Aside (s.data.toList[i]? =some x):=hxl;have hk':=iterAt_heap wr w.heap.size s i (i+1) hk;have hbel':=below_iterAt hbel (Nat.le_refl _) s (i+1);generalize wr.iterAt w.heap.size s (i+1)=wy at hnx hk' hbel';clear hxl hx;have hcon:=Lib.contains_iff_indexByte chars.data.toList x;have hback:((x.toNat:Int)).toNat.toUInt8=x:=by simp
    cases hin:chars.data.toList.contains x
    ·rw[hin] at hcon;have hlt:¬((0:Int)≤Lib.indexByte chars.data.toList x):=of_decide_eq_false hcon.symm;clear hcon
     go_wp2_with (go_at_fn (ρ.f 152);refine (Any.strings_IndexRune_ascii {L with} _ _ _ (by omega) (by omega)).mono ?_;rintro e w' ⟨rfl,hw⟩;rw[hw,hback])
     go_roundg (s.size - (i+1))
     case measure=>omega
     case rel=>exact ⟨i+1,by omega,hk',hbel',HN.out.succ Hx.out hin⟩
    ·rw[hin] at hcon;have hge:(0:Int)≤Lib.indexByte chars.data.toList x:=of_decide_eq_true hcon.symm;clear hcon
     go_wp2_with (go_at_fn (ρ.f 152);refine (Any.strings_IndexRune_ascii {L with} _ _ _ (by omega) (by omega)).mono ?_;rintro e w' ⟨rfl,hw⟩;rw[hw,hback])
     go_ret
     exact ⟨by rw[Lib.indexAny_hit HN.out Hx.out hin];rfl,hbel'⟩
   ·have hD:=QtN hi (by rw[hx];omega);have hnx:=fun ty=>run_next_any_at (P:=P) wr w.heap.size s i ty hk hi
    generalize Utf8.decode s i=D at hD hnx;obtain ⟨r,d⟩:=D;obtain ⟨d1,d2,d3,d4⟩:=hD;dsimp only at d1 d2 d3 d4 hnx;have hk':=iterAt_heap wr w.heap.size s i (i+d) hk;have hbel':=below_iterAt hbel (Nat.le_refl _) s (i+d);generalize wr.iterAt w.heap.size s (i+d)=wy at hnx hk' hbel';have hno':Aside (Lib.NoAny s.data.toList chars.data.toList (i+d)):=QtO HN.out HA.out d4;have cR:=QwC {L with} chars (r:Int) wy h2 hcm HA.out (by omega);clear d4 hxl hx hx128
    go_wp2_with (go_at_fn (ρ.f 152);refine cR.mono ?_;rintro e w' ⟨rfl,hw⟩)
    go_roundg (s.size - (i+d))
    case measure=>omega
    case rel=>
     have hlt:w.heap.size<wy.heap.size:=(Array.getElem?_eq_some_iff.1 hk').1;exact ⟨i+d,by omega,by rw[hw.block _ hlt];exact hk',hbel'.trans (hw.mono hbel'.size),hno'.out⟩
  ·obtain rfl:i=s.size:=by omega
   have hnx:=fun ty=>run_next_end_at (P:=P) wr w.heap.size s s.size ty hk hi
   go_wp2
   go_ret
   exact ⟨by rw[Lib.indexAny_none (by rw[←Lib.size_eq];exact HN.out)];rfl,hbel⟩
end
section
set_option maxRecDepth 100000
def QS (w:World):Prop:=NumW w∧∃m:Int,w.cell? ⟨1,0,none⟩=some (.int .i64 m)
def QP (w : World) : Prop := Lib.TabIs Tryz.prog w "internal/strconv.uint64pow10" .u64 Lib.pow10Tab
theorem QP.below {W w:World} {B:Nat} (h:QP W) (hb:Below B W w) (hB:W.heap.size≤B):QP w:=QfG h hb hB
section
variable [L:Lam]
theorem QtP [K:Knows QP] {κ:Kap} {σ:AH} {w:World} (hr:Rel κ σ w):QP w:=by
 obtain ⟨h,hB⟩:=K.knows κ hr.kp;exact h.below hr.bel hB
instance knowsT [K:Knows QS]:Knows QP:=⟨fun κ h=>⟨(K.knows κ h).1.1.tab,(K.knows κ h).2⟩⟩
end
variable [L:Lam] [K:Knows QS]
theorem Qxs {κ:Kap} {σ:AH} {w:World} (hr:Rel κ σ w):QS w:=by
 obtain ⟨⟨h1,m,h2⟩,hB⟩:=K.knows κ hr.kp;exact ⟨h1.below hr.bel hB,m,Jh h2 hr.bel hB⟩
variable {σ:AH} {R:AEnd→AH→Prop}
theorem Qon {s:ByteArray} (hs:s.size≤1048576) (h:R (.ret (.agg [iv (numP s).2,iv (numP s).1])) σ):acall TP QmG [str s] σ R:=by
 refine ⟨_,Tryz.func221,rfl,by decide,fun κ w vs hr hv=>?_⟩;obtain ⟨v,rfl⟩:∃v,vs=[v]:=by
  have:=hv.1;match vs,this with
  |[a],_=>exact ⟨a,rfl⟩
 have e1:v= .string s:=by have h:VR κ (str s) v:=hv.2 0 (by simp);cases h;rfl
 subst e1;refine (QtM s (by omega) w (Qxs hr).1).mono ?_;rintro e w' ⟨rfl,hw⟩;refine ⟨κ,_,σ,h,.below hr hw,?_⟩;show VR κ (.agg [iv (numP s).2,iv (numP s).1]) (.agg [Value.int .i64 (numP s).2,Value.int .i64 (numP s).1].toArray);refine .agg rfl fun i hi=>?_
 match i,hi with
 |0,_=>exact .val _
 |1,_=>exact .val _
theorem QsA (w:World) (n:Nat):Below w.heap.size w (w.drewN n):=⟨rfl,rfl,rfl,Nat.le_refl _,fun _ _=>rfl⟩
theorem QqK {l p:List UInt8} (hl:l.length≤1048576) (h:R (.ret (.tup [str (bs (Lib.cut l p).1),str (bs (Lib.cut l p).2.1),bv (Lib.cut l p).2.2])) σ):acall TP Qpe [str (bs l),str (bs p)] σ R:=by
 refine QtC (fn:=_) (v:= .tuple #[.string (bs (Lib.cut l p).1),.string (bs (Lib.cut l p).2.1),.bool (Lib.cut l p).2.2]) Tryz.func182 rfl (by decide) QmD (fun κ=>?_) h fun κ w hr=>?_
 ·show VR κ (.tup _) (.tuple [Value.string (bs (Lib.cut l p).1),.string (bs (Lib.cut l p).2.1),.bool (Lib.cut l p).2.2].toArray);refine .tup rfl fun i hi=>?_
  match i,hi with
  |0,_=>exact .val _
  |1,_=>exact .val _
  |2,_=>exact .val _
 ·obtain ⟨m,hm⟩:=(Qxs hr).2;refine (Qpy (bs l) (bs p) m w (by rw[Qm];omega) hm).mono ?_;rintro e w' ⟨rfl,n,rfl⟩;exact ⟨by simp,QsA w n⟩
theorem QjO {l:List UInt8} {c:UInt8} (h:R (.ret (iv (Lib.indexByte l c))) σ):acall TP Qio [str (bs l),u8v (c.toNat:Nat)] σ R:=by
 refine Qp6 (fn:=_) Tryz.func183 rfl (by decide) QmD h fun κ w hr=>(QiG (bs l) (c.toNat:Nat) w).mono ?_
 rintro e w' ⟨rfl,rfl⟩;exact ⟨by simp,.refl _ _⟩
theorem QzB:(Tryz.prog.info? 220).map (fun i=>(i.zero,i.size))=some (some (.agg (Array.replicate 256 (.bool false))),256):=by kernel_rfl
theorem QkP {l p:List UInt8} (hl:l.length≤1048576) (h4:4≤p.length) (hp:p.length≤1000) (ha:∀c,c∈p→c.toNat<128) (h:R (.ret (iv (Lib.indexAny l p))) σ):acall TP QjD [str (bs l),str (bs p)] σ R:=by
 have hasc:∀(j:Nat) b,(bs p).data.toList[j]? =some b→b.toNat<128:=fun j b hb=>ha b (by simpa using List.mem_of_getElem? hb)
 refine Qp6 (fn:=_) Tryz.func184 rfl (by decide) QmD h fun κ w hr=>?_
 by_cases c:8<l.length
 ·refine (Qfh (zero_of_info QzB).1 (bs l) (bs p) w (by rw[Qm];omega) (by rw[Qm];omega) (by rw[Qm];omega) (by rw[Qm];omega) hasc).mono ?_;rintro e w' ⟨rfl,rfl⟩;exact ⟨by simp,.alloc (.alloc (.refl _ _) (Nat.le_refl _) _) (by simp) _⟩
 ·refine (Qpz QsY (bs l) (bs p) w (by rw[Qm];omega) (by rw[Qm];omega) (by rw[Qm];omega) hasc).mono ?_;rintro e w' ⟨rfl,hw⟩;exact ⟨by simp,hw⟩
end
section
set_option maxRecDepth 100000
theorem QBC {P:Program} {W:World} {name:String} {k:IntKind} {zs:List Int} {g:Nat} {t e:TypeId} {n:Nat}
  (hg:P.globalNamed name=some g) (hty:(P.globals[g]?).map (·.type)=some t) (ht:P.underlying t=some (.array n e)) (he:P.underlying e=some (.int k)) (hce:P.cellsOf e=1) (hct:P.cellsOf t=n)
  (h:Lib.VarReads P W name (Lib.tabData k zs)):Lib.TabIs P W name k zs:=by
 obtain ⟨g',t',cs,fuel,p,hg',ht',hvar,hd⟩:=h;obtain rfl:=Option.some.inj (hg.symm.trans hg');obtain rfl:=Option.some.inj (hty.symm.trans ht');unfold Lib.TabIs;rw[hvar,←Lib.cells_of_tab ht he hce hct hd]
theorem QuS {P:Program} {W:World} {name nm:String} {d:DataW Unit} {g:Nat} {t:TypeId} {ms:Array (String × TypeId)}
  (hg:P.globalNamed name=some g) (hty:(P.globals[g]?).map (·.type)=some t) (ht:P.underlying t=some (.interface ms))
  (h:Lib.VarReads P W name (.iface nm d)):∃ev,W.cell? ⟨g,0,none⟩=some ev∧(ev= .nilIface∨∃te pe,ev= .iface te pe):=by
 obtain ⟨g',t',cs,fuel,p,hg',ht',hvar,hd⟩:=h;obtain rfl:=Option.some.inj (hg.symm.trans hg');obtain rfl:=Option.some.inj (hty.symm.trans ht');obtain ⟨_,u,v,e,_,_⟩:=iface_of_trod ht hd;refine ⟨.iface u v,?_,.inr ⟨u,v,rfl⟩⟩;have:=World.var?_cell hg hvar 0;rw[this];have e2:cs=#[.iface u v]:=by rw[←e]
 rw[e2];rfl
theorem QB3 {W : World} {l : List (String × DataW Unit)} (hl : laidMet Tryz.prog l W) (h1 : ("internal/strconv.uint64pow10", Rows.laid_internal_strconv_uint64pow10) ∈ l)
  (h2 : ("strconv.ErrSyntax", Rows.laid_strconv_ErrSyntax) ∈ l) (h3 : ("strconv.ErrRange", Rows.laid_strconv_ErrRange) ∈ l) (hs : W.ShapedOpen Tryz.prog) : QS W := by
 refine ⟨⟨?_,?_,?_⟩,?_⟩
 ·exact QBC (g:=0) (t:=180) (e:=134) (n:=20) (by kernel_rfl) (by kernel_rfl) Tryz.underlying180 Tryz.underlying134 (by kernel_rfl) (by kernel_rfl) (Lib.laidMet.reads hl h1)
 ·exact QuS (g:=6) (t:=63) (by kernel_rfl) (by kernel_rfl) Tryz.underlying63 (Lib.laidMet.reads hl h2)
 ·exact QuS (g:=7) (t:=63) (by kernel_rfl) (by kernel_rfl) Tryz.underlying63 (Lib.laidMet.reads hl h3)
 ·exact cell_of_shapedOpen_int (P:=Tryz.prog) (g:=1) (t:=3) (zero:=#[.int .i64 0]) hs (of_decide_eq_true (by kernel_rfl)) (by kernel_rfl) rfl (by kernel_rfl) (by kernel_rfl) Tryz.underlying3
end
section
def Qj (cs:List Cor) (i:Nat):Cor:=cs.getD i default
def QG (cs:List Cor) (x:Nat):List Nat:=(List.range cs.length).filter fun i=>decide ((Qj cs i).parent=(x:Int))
abbrev St:=List (Int × List OpD)
def putS (B:St) (i:Nat) (o:OpD):St:=B.modify i fun p=>(p.1,p.2++[o])
def setS (B:St) (i k:Nat) (a:Int):St:=B.modify i fun p=>(p.1,p.2.modify k fun o=>{o with a:=a})
def Qd (B:St) (i:Nat):Nat:=(B.getD i (0,[])).2.length
def oc0 (k:Int):OpD:=⟨k,0,0,0,0,⟨#[]⟩,[]⟩
def ocA (k a:Int):OpD:=⟨k,a,0,0,0,⟨#[]⟩,[]⟩
def ocAB (k a b:Int):OpD:=⟨k,a,b,0,0,⟨#[]⟩,[]⟩
def ocN (k:Int) (s:ByteArray):OpD:=⟨k,0,0,0,0,s,[]⟩
def ocD (k:Int) (d:List Dat):OpD:=⟨k,0,0,0,0,⟨#[]⟩,d⟩
def endS (B:St) (i:Nat) (e:Bool):St:=if e then putS B i (oc0 12) else B
def Qr (g:Nat→St→St) (h:St→St):List Nat→St→St
 |[],B=>B
 |k::r,B=>Qr g h r (h (g k B))
def mkC (cs:List Cor):Nat→Nat→Nat→Bool→St→St
 |0,_,_,_,B=>B
 |f+1,x,i,e,B=>
  let c:=Qj cs x
  let ks:=QG cs x
  if c.kind=1 then endS (putS B i (ocD 1 c.data)) i e
  else if c.kind=2 then endS (putS B i (ocAB 2 c.a c.b)) i e
  else if c.kind=3 then endS (putS B i (ocN 3 c.name)) i e
  else if c.kind=5 then endS (mkC cs f (ks.getD 0 0) B.length true (putS (B++[(c.a,[])]) i (ocA 4 (B.length:Int)))) i e
  else if c.kind=7∨c.kind=8 then endS (putS (mkC cs f (ks.getD 0 0) i false B) i (ocN (c.kind - 7+8) c.name)) i e
  else if c.kind=4 then
   let B1:=mkC cs f (ks.getD 0 0) i false B
   let B2:=mkC cs f (ks.getD 1 0) i e (putS B1 i (oc0 6))
   let B3:=if e then B2 else putS B2 i (oc0 5)
   let B4:=setS B3 i (Qd B1 i) (Qd B3 i:Int)
   let B5:=mkC cs f (ks.getD 2 0) i e B4
   if e then B5 else setS B5 i (Qd B2 i) (Qd B5 i:Int)
  else if c.kind=6 then mkC cs f (ks.getLastD 0) i e (Qr (fun k B=>mkC cs f k i false B) (fun B=>putS B i (oc0 7)) ks.dropLast B)
  else putS (Qr (fun k B=>mkC cs f k i false B) id ks B) i (ocA (if e then 11 else 10) ((ks.length:Int) - 1))
theorem J4 {X:Type} (l:List X) (i j:Nat) (f:X→X) (d:X):(l.modify i f).getD j d=if i=j∧j<l.length then f (l.getD j d) else l.getD j d:=by
 simp only[List.getD,List.getElem?_modify];by_cases h:i=j
 ·subst h;by_cases h2:i<l.length
  ·simp[h2]
  ·simp[h2]
 ·simp[h]
theorem Jc (B:St) (i:Nat) (o:OpD):(putS B i o).length=B.length:=by simp[putS]
theorem Qa0 (B:St) (i k:Nat) (a:Int):(setS B i k a).length=B.length:=by simp[setS]
theorem Qac (B:St) (i j:Nat) (o:OpD):Qd (putS B i o) j=if i=j∧j<B.length then Qd B j+1 else Qd B j:=by
 unfold Qd putS;rw[J4];split<;>simp
theorem QaO (B:St) (i j k:Nat) (a:Int):Qd (setS B i k a) j=Qd B j:=by
 unfold Qd setS;rw[J4];split<;>simp
theorem Qmj {X:Type} (l:List X) {i j:Nat} (h:i≠j) (f g:X→X):(l.modify i f).modify j g=(l.modify j g).modify i f:=by
 apply List.ext_getElem (by simp)
 intro k h1 h2;simp only[List.getElem_modify];by_cases c1:i=k<;>by_cases c2:j=k
 ·omega
 ·simp[c1,c2]
 ·simp[c1,c2]
 ·simp[c1,c2]
theorem QtQ {X:Type} (l r:List X) {i:Nat} (h:i<l.length) (f:X→X):(l++r).modify i f=l.modify i f++r:=by
 apply List.ext_getElem (by simp)
 intro k h1 h2;simp only[List.getElem_modify,List.getElem_append,List.length_modify];by_cases c:k<l.length
 ·simp[c]
 ·have:¬i=k:=by omega
  simp[c,this]
theorem Qao {B:St} {i j:Nat} (h:i≠j) (o q:OpD):putS (putS B i o) j q=putS (putS B j q) i o:=Qmj _ h _ _
theorem QpA {B:St} {i j:Nat} (h:i≠j) (o:OpD) (k:Nat) (a:Int):setS (putS B i o) j k a=putS (setS B j k a) i o:=Qmj _ h _ _
theorem QwD {B:St} {i:Nat} (h:i<B.length) (o:OpD) (r:St):putS B i o++r=putS (B++r) i o:=(QtQ _ _ h _).symm
theorem J5 {B:St} {i j:Nat} (h:i≠j) (o:OpD):Qd (putS B i o) j=Qd B j:=by rw[Qac,if_neg fun c=>h c.1]
theorem Qh2 {B:St} {i j:Nat} (h:i≠j) (o:OpD) (e:Bool):endS (putS B i o) j e=putS (endS B j e) i o:=by
 cases e
 ·rfl
 ·exact Qao h _ _
def leS (B B':St):Prop:=B.length≤B'.length∧∀i,i<B.length→Qd B i≤Qd B' i
theorem leS.refl (B:St):leS B B:=⟨Nat.le_refl _,fun _ _=>Nat.le_refl _⟩
theorem leS.trans {A B C:St} (h:leS A B) (k:leS B C):leS A C:=⟨Nat.le_trans h.1 k.1,fun i hi=>Nat.le_trans (h.2 i hi) (k.2 i (Nat.lt_of_lt_of_le hi h.1))⟩
theorem QY (B:St) (i:Nat) (o:OpD):leS B (putS B i o):=⟨by rw[Jc];exact Nat.le_refl _,fun j _=>by rw[Qac];split<;>omega⟩
theorem Qap (B:St) (i k:Nat) (a:Int):leS B (setS B i k a):=⟨by rw[Qa0];exact Nat.le_refl _,fun j _=>by rw[QaO];exact Nat.le_refl _⟩
theorem JS (B:St) (i:Nat) (e:Bool):leS B (endS B i e):=by
 cases e
 ·exact .refl B
 ·exact QY _ _ _
theorem QiH (B r:St):leS B (B++r):=⟨by simp,fun i hi=>by unfold Qd;simp only[List.getD,List.getElem?_append_left hi];exact Nat.le_refl _⟩
theorem Qad {g:Nat→St→St} {h:St→St} (hg:∀k B,leS B (g k B)) (hh:∀B,leS B (h B)):∀ks B,leS B (Qr g h ks B):=by
 intro ks
 induction ks with
 |nil=>intro B;exact .refl B
 |cons k r ih=>intro B;exact ((hg k B).trans (hh _)).trans (ih _)
theorem QO (cs:List Cor):∀f x i e B,leS B (mkC cs f x i e B):=by
 intro f
 induction f with
 |zero=>intro x i e B;exact .refl B
 |succ f ih=>
  intro x i e B;rw[mkC];dsimp only;split;· exact (QY ..).trans (JS ..)
  split;· exact (QY ..).trans (JS ..)
  split;· exact (QY ..).trans (JS ..)
  split;· exact (((QiH ..).trans (QY ..)).trans (ih ..)).trans (JS ..)
  split;· exact ((ih ..).trans (QY ..)).trans (JS ..)
  split
  ·cases e
   ·exact (((((((ih ..).trans (QY ..)).trans (ih ..)).trans (QY ..)).trans (Qap ..)).trans (ih ..))).trans (Qap ..)
   ·exact (((((ih ..).trans (QY ..)).trans (ih ..)).trans (Qap ..)).trans (ih ..))
  split;· exact (Qad (fun k B=>ih ..) (fun B=>QY ..) _ _).trans (ih ..)
  exact (Qad (fun k B=>ih ..) (fun B=> .refl B) _ _).trans (QY ..)
theorem QrI {g:Nat→St→St} {h:St→St} {i:Nat} {o:OpD} (hg:∀k B,i<B.length→g k (putS B i o)=putS (g k B) i o) (hh:∀B,h (putS B i o)=putS (h B) i o) (hl:∀k B,leS B (g k B)) (hl2:∀B,leS B (h B)):
  ∀ks B,i<B.length→Qr g h ks (putS B i o)=putS (Qr g h ks B) i o:=by
 intro ks
 induction ks with
 |nil=>intro B _;rfl
 |cons k r ih=>intro B hi;rw[Qr,Qr,hg k B hi,hh,ih _ (Nat.lt_of_lt_of_le hi ((hl k B).trans (hl2 _)).1)]
theorem QzC (cs:List Cor) {i:Nat} {o:OpD}:∀f x j e B,i≠j→i<B.length→mkC cs f x j e (putS B i o)=putS (mkC cs f x j e B) i o:=by
 intro f
 induction f with
 |zero=>intro x j e B _ _;rfl
 |succ f ih=>
  intro x j e B hij hi;have lt:∀{C:St},leS B C→i<C.length:=fun h=>Nat.lt_of_lt_of_le hi h.1
  rw[mkC,mkC];dsimp only;split;· rw[Qao hij,Qh2 hij]
  split;· rw[Qao hij,Qh2 hij]
  split;· rw[Qao hij,Qh2 hij]
  split
  ·rw[Jc,QwD hi,Qao hij,ih _ _ _ _ (by omega) (lt ((QiH ..).trans (QY ..))),Qh2 hij]
  split;· rw[ih _ _ _ _ hij hi,Qao hij,Qh2 hij]
  split
  ·have k1:i<(mkC cs f ((QG cs x).getD 0 0) j false B).length:=lt (QO ..);have k2:i<(putS (mkC cs f ((QG cs x).getD 0 0) j false B) j (oc0 6)).length:=by rw[Jc];exact k1
   have k3:i<(mkC cs f ((QG cs x).getD 1 0) j e (putS (mkC cs f ((QG cs x).getD 0 0) j false B) j (oc0 6))).length:=Nat.lt_of_lt_of_le k2 (QO ..).1;rw[ih _ _ _ _ hij hi,Qao hij,ih _ _ _ _ hij k2];cases e
   ·simp only[Bool.false_eq_true,if_false];rw[Qao hij,J5 hij,J5 hij,QpA hij,ih _ _ _ _ hij (by rw[Qa0,Jc];exact k3),J5 hij,J5 hij,QpA hij]
   ·simp only[if_true];rw[J5 hij,J5 hij,QpA hij,ih _ _ _ _ hij (by rw[Qa0];exact k3)]
  split
  ·rw[QrI (h:=fun B=>putS B j (oc0 7)) (fun k B hB=>ih _ _ _ _ hij hB) (fun B=>Qao hij _ _) (fun k B=>QO ..) (fun B=>QY ..) _ _ hi];exact ih _ _ _ _ hij (lt (Qad (fun k B=>QO ..) (fun B=>QY ..) _ _))
  rw[QrI (h:=id) (fun k B hB=>ih _ _ _ _ hij hB) (fun B=>rfl) (fun k B=>QO ..) (fun B=> .refl B) _ _ hi,Qao hij]
def fits (B:St):Prop:=B.length≤60∧∀i,i<B.length→Qd B i≤200
theorem fits.of_le {B C:St} (h:leS B C) (k:fits C):fits B:=⟨Nat.le_trans h.1 k.1,fun i hi=>Nat.le_trans (h.2 i hi) (k.2 i (Nat.lt_of_lt_of_le hi h.1))⟩
def totS (B:St):Nat:=(B.map fun p=>p.2.length+1).sum
theorem Qoo (l:List (Int × List OpD)) (f:Int × List OpD→Int × List OpD) (d:Nat) (hf:∀p,(f p).2.length≤p.2.length+d):∀i,((l.modify i f).map fun p=>p.2.length+1).sum≤(l.map fun p=>p.2.length+1).sum+d:=by
 induction l with
 |nil=>intro i;cases i<;>simp
 |cons a r ih=>
  intro i;cases i with
  |zero=>have:=hf a;simp;omega
  |succ i=>have:=ih i;simp;omega
theorem JT (B:St) (i:Nat) (o:OpD):totS (putS B i o)≤totS B+1:=Qoo _ _ 1 (fun p=>by simp) i
theorem Qli (B:St) (i k:Nat) (a:Int):totS (setS B i k a)≤totS B:=Qoo _ _ 0 (fun p=>by simp) i
theorem Qh3 (B:St) (i:Nat) (e:Bool):totS (endS B i e)≤totS B+1:=by
 cases e
 ·exact Nat.le_succ _
 ·exact JT _ _ _
theorem QrJ (B:St) (a:Int):totS (B++[(a,[])])=totS B+1:=by simp[totS]
theorem QsZ (B:St):B.length≤totS B:=by
 unfold totS
 induction B with
 |nil=>simp
 |cons p r ih=>simp;omega
theorem QwE (B:St) (i:Nat):Qd B i≤totS B:=by
 unfold Qd totS
 induction B generalizing i with
 |nil=>simp
 |cons p r ih=>
  cases i with
  |zero=>simp;omega
  |succ i=>have:=ih i;simp at this ⊢;omega
def vis (cs:List Cor):Nat→Nat→List Nat
 |0,x=>[x]
 |f+1,x=>x::(QG cs x).flatMap (vis cs f)
def visK (cs:List Cor) (f:Nat) (ks:List Nat):Nat:=(ks.map fun k=>(vis cs f k).length).sum
theorem Qs0 (cs:List Cor):∀f x,1≤(vis cs f x).length:=by intro f x;cases f<;>simp[vis]
theorem Qlj (cs:List Cor) (f x:Nat):(vis cs (f+1) x).length=1+visK cs f (QG cs x):=by
 simp[vis,visK,List.length_flatMap];omega
theorem Qng (cs:List Cor) (f:Nat) (a b:List Nat):visK cs f (a++b)=visK cs f a+visK cs f b:=by simp[visK]
def hasK (k:Int) (n:Nat):Prop:=if k=4 then n=3 else if k=5∨k=7∨k=8 then n=1 else if k=6 then 1≤n else if k=9 then 1≤n∧n≤4 else n=0
structure WfC (cs:List Cor):Prop where
 len:1≤cs.length∧cs.length≤160
 kind:∀i,i<cs.length→1≤(Qj cs i).kind∧(Qj cs i).kind≤9
 top:(Qj cs 0).parent= -1
 par:∀i,0<i→i<cs.length→0≤(Qj cs i).parent∧(Qj cs i).parent<i
 kids:∀i,i<cs.length→hasK (Qj cs i).kind (QG cs i).length
theorem QkQ {cs:List Cor} {x k:Nat}:k∈QG cs x↔k<cs.length∧(Qj cs k).parent=(x:Int):=by simp[QG]
theorem WfC.kid {cs:List Cor} (h:WfC cs) {x k:Nat} (hk:k∈QG cs x):x<k∧k<cs.length:=by
 obtain ⟨h1,h2⟩:=QkQ.1 hk;have h0:0<k:=by
  rcases Nat.eq_zero_or_pos k with c|c
  ·subst c;rw[h.top] at h2;omega
  ·exact c
 have:=h.par k h0 h1;omega
theorem Qdu {l:List Nat} (h:l≠[]):l.dropLast++[l.getLastD 0]=l:=by
 rw[List.getLastD_eq_getLast?,List.getLast?_eq_some_getLast h,Option.getD_some];exact List.dropLast_concat_getLast h
theorem Qlk {cs:List Cor} (hw:WfC cs):∀f x i e B,x<cs.length→cs.length≤f+x→totS (mkC cs f x i e B)+1≤totS B+4*(vis cs f x).length:=by
 intro f
 induction f with
 |zero=>intro x i e B h1 h2;omega
 |succ f ih=>
  intro x i e B hx hf;have hkd:=fun k (hk:k∈QG cs x)=>hw.kid hk
  have ihk:∀k,k∈QG cs x→∀i e B,totS (mkC cs f k i e B)+1≤totS B+4*(vis cs f k).length:=fun k hk i e B=>ih k i e B (hkd k hk).2 (by have:=hkd k hk;omega)
  have hk:=hw.kids x hx;have hkk:=hw.kind x hx;rw[Qlj];rw[mkC];dsimp only;generalize hks:QG cs x=ks at*;split
  ·have h1:=JT B i (ocD 1 (Qj cs x).data);have h2:=Qh3 (putS B i (ocD 1 (Qj cs x).data)) i e;omega
  split
  ·have h1:=JT B i (ocAB 2 (Qj cs x).a (Qj cs x).b);have h2:=Qh3 (putS B i (ocAB 2 (Qj cs x).a (Qj cs x).b)) i e;omega
  split
  ·have h1:=JT B i (ocN 3 (Qj cs x).name);have h2:=Qh3 (putS B i (ocN 3 (Qj cs x).name)) i e;omega
  split
  ·rename_i c5;have h1:=QrJ B (Qj cs x).a;have h2:=JT (B++[((Qj cs x).a,[])]) i (ocA 4 (B.length:Int));unfold hasK at hk;rw[if_neg (by omega),if_pos (.inl c5)] at hk;match ks,hk with
   |[k],_=>
    have h3:=ihk k (by simp) B.length true (putS (B++[((Qj cs x).a,[])]) i (ocA 4 (B.length:Int)));have h4:=Qh3 (mkC cs f k B.length true (putS (B++[((Qj cs x).a,[])]) i (ocA 4 (B.length:Int)))) i e;simp[visK] at h3 h4 ⊢;omega
  split
  ·rename_i c5;unfold hasK at hk;rw[if_neg (by omega),if_pos (by omega)] at hk;match ks,hk with
   |[k],_=>
    have h3:=ihk k (by simp) i false B;have h4:=JT (mkC cs f k i false B) i (ocN ((Qj cs x).kind - 7+8) (Qj cs x).name);have h5:=Qh3 (putS (mkC cs f k i false B) i (ocN ((Qj cs x).kind - 7+8) (Qj cs x).name)) i e;simp[visK] at h3 h4 h5 ⊢;omega
  split
  ·rename_i c4;unfold hasK at hk;rw[if_pos c4] at hk;match ks,hk with
   |[k1,k2,k3],_=>
    have h1:=ihk k1 (by simp) i false B;simp only[List.getD_cons_zero,List.getD_cons_succ];generalize mkC cs f k1 i false B=B1 at*;have h2:=JT B1 i (oc0 6);have h3:=ihk k2 (by simp) i e (putS B1 i (oc0 6));generalize mkC cs f k2 i e (putS B1 i (oc0 6))=B2 at*;have e1:visK cs f [k1,k2,k3]=(vis cs f k1).length+((vis cs f k2).length+(vis cs f k3).length):=by simp[visK]
    rw[e1];cases e
    ·simp only[Bool.false_eq_true,if_false];have h4:=JT B2 i (oc0 5);have h5:=Qli (putS B2 i (oc0 5)) i (Qd B1 i) (Qd (putS B2 i (oc0 5)) i:Int);have h6:=ihk k3 (by simp) i false (setS (putS B2 i (oc0 5)) i (Qd B1 i) (Qd (putS B2 i (oc0 5)) i:Int));generalize mkC cs f k3 i false (setS (putS B2 i (oc0 5)) i (Qd B1 i) (Qd (putS B2 i (oc0 5)) i:Int))=B5 at*;have h7:=Qli B5 i (Qd B2 i) (Qd B5 i:Int);omega
    ·simp only[if_true];have h5:=Qli B2 i (Qd B1 i) (Qd B2 i:Int);have h6:=ihk k3 (by simp) i true (setS B2 i (Qd B1 i) (Qd B2 i:Int));omega
  split
  ·rename_i c6;unfold hasK at hk;rw[if_neg (by omega),if_neg (by omega),if_pos c6] at hk;have hne:ks≠[]:=by intro c;rw[c] at hk;simp at hk
   have hl:=Qdu hne;have hmem:∀k,k∈ks.dropLast→k∈ks:=fun k hm=>by rw[←hl];exact List.mem_append_left _ hm
   have hlm:ks.getLastD 0∈ks:=by
    have:ks.getLastD 0∈ks.dropLast++[ks.getLastD 0]:=List.mem_append_right _ (List.mem_singleton.2 rfl)
    rwa [hl] at this
   have e1:visK cs f ks=visK cs f ks.dropLast+(vis cs f (ks.getLastD 0)).length:=by
    conv=>lhs;rw[←hl]
    rw[Qng];simp[visK]
   have hm:∀l:List Nat,(∀k,k∈l→k∈ks)→∀B,totS (Qr (fun k B=>mkC cs f k i false B) (fun B=>putS B i (oc0 7)) l B)≤totS B+4*visK cs f l:=by
    intro l
    induction l with
    |nil=>intro _ B;simp[Qr,visK]
    |cons k r ih2=>
     intro hl B;have g1:=ihk k (hl k (by simp)) i false B;have g2:=JT (mkC cs f k i false B) i (oc0 7);have g3:=ih2 (fun k hk=>hl k (by simp[hk])) (putS (mkC cs f k i false B) i (oc0 7));have e:visK cs f (k::r)=(vis cs f k).length+visK cs f r:=by simp[visK]
     rw[Qr,e];omega
   have h1:=hm ks.dropLast hmem B;have h2:=ihk (ks.getLastD 0) hlm i e (Qr (fun k B=>mkC cs f k i false B) (fun B=>putS B i (oc0 7)) ks.dropLast B);omega
  ·have hm:∀l:List Nat,(∀k,k∈l→k∈ks)→∀B,totS (Qr (fun k B=>mkC cs f k i false B) id l B)≤totS B+4*visK cs f l:=by
    intro l
    induction l with
    |nil=>intro _ B;simp[Qr,visK]
    |cons k r ih2=>
     intro hl B;have g1:=ihk k (hl k (by simp)) i false B;have g3:=ih2 (fun k hk=>hl k (by simp[hk])) (mkC cs f k i false B);have e:visK cs f (k::r)=(vis cs f k).length+visK cs f r:=by simp[visK]
     rw[Qr,e];simp only[id];omega
   have h1:=hm ks (fun k hk=>hk) B;have h2:=JT (Qr (fun k B=>mkC cs f k i false B) id ks B) i (ocA (if e then 11 else 10) ((ks.length:Int) - 1));omega
theorem QsB:∀(n:Nat) (l:List Nat),l.Nodup→(∀x,x∈l→x<n)→l.length≤n:=by
 intro n
 induction n with
 |zero=>intro l _ h;cases l with
  |nil=>simp
  |cons a r=>exact absurd (h a (by simp)) (by omega)
 |succ n ih=>
  intro l hn h;have h1:=ih (l.erase n) (hn.erase n) fun x hx=>by
   have h2:=h x (List.mem_of_mem_erase hx);have h3:x≠n:=fun c=>by subst c;exact (List.Nodup.not_mem_erase hn) hx
   omega
  by_cases c:n∈l
  ·rw[List.length_erase_of_mem c] at h1;omega
  ·rw[List.erase_of_not_mem c] at h1;omega
theorem QtR {a b:List Nat}:(a++b).Nodup↔a.Nodup∧b.Nodup∧∀x,x∈a→x∉b:=by
 rw[List.nodup_append];constructor
 ·rintro ⟨h1,h2,h3⟩;exact ⟨h1,h2,fun x hx hb=>h3 x hx x hb rfl⟩
 ·rintro ⟨h1,h2,h3⟩;exact ⟨h1,h2,fun x hx y hy e=>h3 x hx (e▸hy)⟩
def upC (cs:List Cor) (y:Nat):Nat:=(Qj cs y).parent.toNat
def upN (cs:List Cor):Nat→Nat→Nat
 |0,y=>y
 |n+1,y=>upC cs (upN cs n y)
theorem Qop {cs:List Cor} (hw:WfC cs):∀f x y,x<cs.length→y∈vis cs f x→y<cs.length∧x≤y∧∃n,upN cs n y=x:=by
 intro f
 induction f with
 |zero=>intro x y hx h;simp[vis] at h;subst h;exact ⟨hx,Nat.le_refl _,0,rfl⟩
 |succ f ih=>
  intro x y hx h;simp only[vis,List.mem_cons,List.mem_flatMap] at h;rcases h with rfl|⟨k,hk,hy⟩
  ·exact ⟨hx,Nat.le_refl _,0,rfl⟩
  ·obtain ⟨h1,h2⟩:=hw.kid hk;obtain ⟨g1,g2,n,hn⟩:=ih k y h2 hy;refine ⟨g1,by omega,n+1,?_⟩;rw[upN,hn,upC,(QkQ.1 hk).2];simp
theorem QpB (cs:List Cor) (y:Nat):∀a b,upN cs (a+b) y=upN cs a (upN cs b y):=by
 intro a
 induction a with
 |zero=>intro b;simp[upN]
 |succ a ih=>intro b;rw[Nat.succ_add,upN,ih,upN]
theorem QBD {cs:List Cor} (hw:WfC cs):∀n y,y<cs.length→upN cs n y≤y:=by
 intro n
 induction n with
 |zero=>intro y _;exact Nat.le_refl _
 |succ n ih=>
  intro y hy;have h1:=ih y hy;rw[upN];unfold upC;rcases Nat.eq_zero_or_pos (upN cs n y) with c|c
  ·rw[c,hw.top];simp
  ·have:=hw.par _ c (by omega);omega
theorem QuT {cs:List Cor} (hw:WfC cs):∀f x,x<cs.length→(vis cs f x).Nodup:=by
 intro f
 induction f with
 |zero=>intro x _;simp[vis]
 |succ f ih=>
  intro x hx;simp only[vis];refine List.nodup_cons.2 ⟨fun h=>?_,?_⟩
  ·obtain ⟨k,hk,hy⟩:=List.mem_flatMap.1 h;obtain ⟨h1,h2⟩:=hw.kid hk;have:=(Qop hw f k x h2 hy).2.1;omega
  ·have hp:(QG cs x).Nodup:=by unfold QG;exact List.nodup_range.filter _
   have hm:∀k,k∈QG cs x→x<k∧k<cs.length∧upC cs k=x:=fun k hk=>⟨(hw.kid hk).1,(hw.kid hk).2,by rw[upC,(QkQ.1 hk).2];simp⟩
   generalize QG cs x=ks at hp hm
   induction ks with
   |nil=>simp
   |cons k r ih2=>
    rw[List.flatMap_cons];obtain ⟨p1,p2⟩:=List.nodup_cons.1 hp;rw[QtR];refine ⟨ih k (hm k (by simp)).2.1,ih2 p2 fun q hq=>hm q (by simp[hq]),fun y hy c=>?_⟩;obtain ⟨q,hq,hyq⟩:=List.mem_flatMap.1 c;obtain ⟨a1,a2,a3⟩:=hm k (by simp);obtain ⟨b1,b2,b3⟩:=hm q (by simp[hq]);obtain ⟨_,_,n1,e1⟩:=Qop hw f k y a2 hy;obtain ⟨_,_,n2,e2⟩:=Qop hw f q y b2 hyq;have hkq:k≠q:=by rintro rfl;exact p1 hq
    have key:∀(n:Nat) (a b:Nat),a<cs.length→upC cs a=x→x<b→upN cs (n+1) a≠b:=by
     intro n a b ha hu hb c;rw[QpB cs a n 1] at c;have h1:upN cs 1 a=x:=hu;rw[h1] at c;have:=QBD hw n x hx;omega
    rcases Nat.lt_trichotomy n1 n2 with c|c|c
    ·have:upN cs (n2 - n1 - 1+1) k=q:=by rw[←e1,←QpB,show n2 - n1 - 1+1+n1=n2 by omega,e2]
     exact key _ k q a2 a3 b1 this
    ·subst c;rw[e1] at e2;exact hkq e2
    ·have:upN cs (n1 - n2 - 1+1) q=k:=by rw[←e2,←QpB,show n1 - n2 - 1+1+n2=n1 by omega,e1]
     exact key _ q k b2 b3 a1 this
theorem QkR {cs:List Cor} (hw:WfC cs) (f x:Nat) (hx:x<cs.length):(vis cs f x).length≤160:=
 Nat.le_trans (QsB cs.length _ (QuT hw f x hx) fun y hy=>(Qop hw f x y hx hy).1) hw.len.2
def AllO (P:OpD→Prop) (B:St):Prop:=∀p,p∈B→∀o,o∈p.2→P o
structure Told (cs:List Cor) (P:OpD→Prop):Prop where
 bare:∀o:OpD,o.name=⟨#[]⟩→o.data=[]→P o
 name:∀k i,P (ocN k (Qj cs i).name)
 data:∀i,P (ocD 1 (Qj cs i).data)
 turn:∀(o:OpD) (a:Int),P o→P {o with a:=a}
theorem QiI {X:Type} {l:List X} {i:Nat} {f:X→X} {y:X} (h:y∈l.modify i f):y∈l∨∃x,x∈l∧y=f x:=by
 obtain ⟨k,hk,rfl⟩:=List.mem_iff_getElem.1 h;rw[List.length_modify] at hk;rw[List.getElem_modify];split
 ·exact .inr ⟨_,List.getElem_mem hk,rfl⟩
 ·exact .inl (List.getElem_mem hk)
theorem AllO.put {P:OpD→Prop} {B:St} (h:AllO P B) {i:Nat} {o:OpD} (ho:P o):AllO P (putS B i o):=by
 intro p hp q hq;rcases QiI hp with c|⟨x,hx,rfl⟩
 ·exact h p c q hq
 ·rcases List.mem_append.1 hq with d|d
  ·exact h x hx q d
  ·obtain rfl:=List.mem_singleton.1 d;exact ho
theorem AllO.set {P:OpD→Prop} {B:St} (h:AllO P B) {i k:Nat} {a:Int} (ht:∀(o:OpD) (a:Int),P o→P {o with a:=a}):AllO P (setS B i k a):=by
 intro p hp q hq;rcases QiI hp with c|⟨x,hx,rfl⟩
 ·exact h p c q hq
 ·rcases QiI hq with d|⟨o,ho,rfl⟩
  ·exact h x hx q d
  ·exact ht o a (h x hx o ho)
theorem AllO.push {P:OpD→Prop} {B:St} (h:AllO P B) {a:Int}:AllO P (B++[(a,[])]):=by
 intro p hp q hq;rcases List.mem_append.1 hp with c|c
 ·exact h p c q hq
 ·obtain rfl:=List.mem_singleton.1 c;cases hq
theorem AllO.end {P:OpD→Prop} {B:St} (h:AllO P B) {i:Nat} {e:Bool} (ho:P (oc0 12)):AllO P (endS B i e):=by
 cases e
 ·exact h
 ·exact h.put ho
theorem AllO.many {P:OpD→Prop} {g:Nat→St→St} {h:St→St} (hg:∀k B,AllO P B→AllO P (g k B)) (hh:∀B,AllO P B→AllO P (h B)):∀ks B,AllO P B→AllO P (Qr g h ks B):=by
 intro ks
 induction ks with
 |nil=>intro B hB;exact hB
 |cons k r ih=>intro B hB;exact ih _ (hh _ (hg k B hB))
theorem Qs1 {cs:List Cor} {P:OpD→Prop} (hP:Told cs P):∀f x i e B,AllO P B→AllO P (mkC cs f x i e B):=by
 intro f
 induction f with
 |zero=>intro x i e B h;exact h
 |succ f ih=>
  intro x i e B h;have b0:∀k,P (oc0 k):=fun k=>hP.bare _ rfl rfl
  have bA:∀k a,P (ocA k a):=fun k a=>hP.bare _ rfl rfl
  rw[mkC];dsimp only;split;· exact (h.put (hP.data x)).end (b0 _)
  split;· exact (h.put (hP.bare _ rfl rfl)).end (b0 _)
  split;· exact (h.put (hP.name _ x)).end (b0 _)
  split;· exact (ih _ _ _ _ (h.push.put (bA _ _))).end (b0 _)
  split;· exact ((ih _ _ _ _ h).put (hP.name _ x)).end (b0 _)
  split
  ·cases e
   ·exact (ih _ _ _ _ (((ih _ _ _ _ ((ih _ _ _ _ h).put (b0 _))).put (b0 _)).set hP.turn)).set hP.turn
   ·exact ih _ _ _ _ ((ih _ _ _ _ ((ih _ _ _ _ h).put (b0 _))).set hP.turn)
  split;· exact ih _ _ _ _ (AllO.many (fun k B hB=>ih _ _ _ _ hB) (fun B hB=>hB.put (b0 _)) _ _ h)
  exact (AllO.many (fun k B hB=>ih _ _ _ _ hB) (fun B hB=>hB) _ _ h).put (bA _ _)
end
section
set_option maxRecDepth 100000
def opAt (B:St) (j k:Nat):OpD:=((B.getD j (0,[])).2).getD k default
def jmp (o:OpD):Prop:=o.kind=5∨o.kind=6
structure OpK (N n k:Nat) (e:Bool) (o:OpD):Prop where
 jump:jmp o→(k:Int)<o.a∧o.a≤(n:Int)∧(e=true→o.a<(n:Int))
 num:¬jmp o→0≤o.a∧(o.a≤999∨o.a≤(N:Int))
 b:0≤o.b∧o.b≤999
 c:o.c=0
 d:o.d=0
 kind:1≤o.kind∧o.kind≤12
theorem OpK.mono {N n k N' n':Nat} {e e':Bool} {o:OpD} (h:OpK N n k e o) (h1:N≤N') (h2:n≤n') (h3:e'=true→e=true∨n<n'):OpK N' n' k e' o:=by
 refine ⟨fun j=>?_,fun j=>?_,h.b,h.c,h.d,h.kind⟩
 ·obtain ⟨a,b,c⟩:=h.jump j;refine ⟨a,by omega,fun g=>?_⟩;rcases h3 g with g|g
  ·have:=c g;omega
  ·omega
 ·obtain ⟨a,b⟩:=h.num j;omega
theorem OpK.plain {N n k:Nat} {e:Bool} {o:OpD} (hk:1≤o.kind∧o.kind≤12) (h5:o.kind≠5) (h6:o.kind≠6) (ha:0≤o.a∧(o.a≤999∨o.a≤(N:Int))) (hb:0≤o.b∧o.b≤999) (hc:o.c=0) (hd:o.d=0):OpK N n k e o:=
 ⟨fun j=>j.elim (fun c=>absurd c h5) fun c=>absurd c h6,fun _=>ha,hb,hc,hd,hk⟩
theorem Qmk {B:St} {i j:Nat} (h:i≠j) (o:OpD) (k:Nat):opAt (putS B i o) j k=opAt B j k:=by
 unfold opAt putS;rw[J4,if_neg fun c=>h c.1]
theorem Qnh {B:St} {i:Nat} (h:i<B.length) (o:OpD) (k:Nat) (hk:k<Qd B i):opAt (putS B i o) i k=opAt B i k:=by
 unfold opAt putS;rw[J4,if_pos ⟨rfl,h⟩];unfold Qd at hk;dsimp only;generalize (B.getD i (0,[])).2=l at hk;simp only[List.getD,List.getElem?_append_left hk]
theorem Qgs {B:St} {i:Nat} (h:i<B.length) (o:OpD):opAt (putS B i o) i (Qd B i)=o:=by
 unfold opAt putS;rw[J4,if_pos ⟨rfl,h⟩];unfold Qd;simp[List.getD]
theorem Qc8 {B:St} {i j k m:Nat} {a:Int} (h:i≠j∨k≠m):opAt (setS B i k a) j m=opAt B j m:=by
 unfold opAt setS;rw[J4];split
 ·rename_i c;rcases h with h|h
  ·exact absurd c.1 h
  ·rw[J4,if_neg fun d=>h d.1]
 ·rfl
theorem QwF {B:St} {i k:Nat} {a:Int} (h:i<B.length) (hk:k<Qd B i):opAt (setS B i k a) i k={opAt B i k with a:=a}:=by
 unfold opAt setS;rw[J4,if_pos ⟨rfl,h⟩,J4,if_pos ⟨rfl,hk⟩]
theorem QaP {B:St} {i:Nat} (h:i<B.length) (o:OpD):Qd (putS B i o) i=Qd B i+1:=by rw[Qac,if_pos ⟨rfl,h⟩]
structure Gro (B B':St) (i:Nat) (e:Bool) (H:Nat→Prop):Prop where
 le:leS B B'
 keep:∀j k,j<B.length→k<Qd B j→opAt B' j k=opAt B j k
 oth:∀j,j<B.length→j≠i→Qd B' j=Qd B j
 own:∀k,Qd B i≤k→k<Qd B' i→¬H k→OpK B'.length (Qd B' i) k e (opAt B' i k)
 new:∀j k,B.length≤j→j<B'.length→k<Qd B' j→OpK B'.length (Qd B' j) k true (opAt B' j k)
def noH:Nat→Prop:=fun _=>False
theorem Gro.refl {B:St} {i:Nat} {e:Bool} {H:Nat→Prop}:Gro B B i e H:=⟨.refl B,fun _ _ _ _=>rfl,fun _ _ _=>rfl,fun k h1 h2=>by omega,fun j k h1 h2=>by omega⟩
theorem Gro.sub {B C:St} {i:Nat} {e:Bool} {H H':Nat→Prop} (h:Gro B C i e H) (g:∀k,H k→H' k):Gro B C i e H':=
 ⟨h.le,h.keep,h.oth,fun k h1 h2 h3=>h.own k h1 h2 fun c=>h3 (g k c),h.new⟩
theorem Gro.weak {B C:St} {i:Nat} {e:Bool} {H:Nat→Prop} (h:Gro B C i e H):Gro B C i false H:=
 ⟨h.le,h.keep,h.oth,fun k h1 h2 h3=>(h.own k h1 h2 h3).mono (Nat.le_refl _) (Nat.le_refl _) (fun c=>by cases c),h.new⟩
theorem Gro.trans {B C D:St} {i:Nat} {e1 e:Bool} {H:Nat→Prop} (hi:i<B.length) (h:Gro B C i e1 H) (g:Gro C D i e H) (he:e=true→e1=true∨Qd C i<Qd D i):Gro B D i e H:=by
 have hC:i<C.length:=Nat.lt_of_lt_of_le hi h.le.1;refine ⟨h.le.trans g.le,fun j k h1 h2=>?_,fun j h1 h2=>?_,fun k h1 h2 h3=>?_,fun j k h1 h2 h3=>?_⟩
 ·rw[g.keep j k (Nat.lt_of_lt_of_le h1 h.le.1) (Nat.lt_of_lt_of_le h2 (h.le.2 j h1)),h.keep j k h1 h2]
 ·rw[g.oth j (Nat.lt_of_lt_of_le h1 h.le.1) h2,h.oth j h1 h2]
 ·by_cases c:k<Qd C i
  ·rw[g.keep i k hC c];exact (h.own k h1 c h3).mono g.le.1 (g.le.2 i hC) he
  ·exact g.own k (by omega) h2 h3
 ·have hne:j≠i:=by omega
  by_cases c:j<C.length
  ·have e1:=g.oth j c hne;rw[e1] at h3 ⊢;rw[g.keep j k c h3];exact (h.new j k h1 c h3).mono g.le.1 (Nat.le_refl _) fun c=> .inl c
  ·exact g.new j k (by omega) h2 h3
theorem Gro.put {B:St} {i:Nat} {e:Bool} {H:Nat→Prop} {o:OpD} (hi:i<B.length) (h:H (Qd B i)∨OpK B.length (Qd B i+1) (Qd B i) e o):Gro B (putS B i o) i e H:=by
 refine ⟨QY ..,fun j k h1 h2=>?_,fun j h1 h2=>?_,fun k h1 h2 h3=>?_,fun j k h1 h2=>?_⟩
 ·by_cases c:i=j
  ·subst c;exact Qnh hi o k h2
  ·exact Qmk c o k
 ·exact J5 (fun c=>h2 c.symm) o
 ·rw[QaP hi] at h2 ⊢;obtain rfl:k=Qd B i:=by omega
  rw[Qgs hi,Jc];rcases h with h|h
  ·exact absurd h h3
  ·exact h
 ·rw[Jc] at h2;omega
theorem Gro.set {B C:St} {i h:Nat} {a:Int} {e:Bool} {H H':Nat→Prop} (hi:i<B.length) (g:Gro B C i e H) (h0:Qd B i≤h) (h1:h<Qd C i) (ho:OpK C.length (Qd C i) h e {opAt C i h with a:=a}) (hH:∀k,H k→k≠h→H' k):
  Gro B (setS C i h a) i e H':=by
 have hC:i<C.length:=Nat.lt_of_lt_of_le hi g.le.1;refine ⟨g.le.trans (Qap ..),fun j k h2 h3=>?_,fun j h2 h3=>by rw[QaO];exact g.oth j h2 h3,fun k h2 h3 h4=>?_,fun j k h2 h3 h4=>?_⟩
 ·rw[Qc8 ?_,g.keep j k h2 h3];by_cases c:i=j
  ·subst c;exact .inr (by omega)
  ·exact .inl c
 ·rw[QaO] at h3;rw[Qa0,QaO];by_cases c:k=h
  ·subst c;rw[QwF hC h1];exact ho
  ·rw[Qc8 (.inr fun d=>c d.symm)];exact g.own k h2 h3 fun d=>h4 (hH k d c)
 ·rw[Qa0] at h3;rw[QaO] at h4;rw[Qa0,QaO,Qc8 (.inl (by omega))];exact g.new j k h2 h3 h4
theorem Gro.end {B C:St} {i:Nat} {e:Bool} {H:Nat→Prop} (hi:i<B.length) (h:Gro B C i false H):Gro B (endS C i e) i e H:=by
 cases e
 ·exact h
 ·have hC:i<C.length:=Nat.lt_of_lt_of_le hi h.le.1;refine h.trans hi (.put (o:=oc0 12) hC (.inr (.plain ⟨by show (1:Int)≤12;omega,by show (12:Int)≤12;omega⟩ (by show (12:Int)≠5;omega) (by show (12:Int)≠6;omega) ⟨Int.le_refl 0,.inl (by show (0:Int)≤999;omega)⟩ ⟨Int.le_refl 0,by show (0:Int)≤999;omega⟩ rfl rfl))) fun _=> .inr ?_
  show Qd C i<Qd (putS C i (oc0 12)) i;rw[QaP hC];omega
theorem Qqf {B r:St} {j k:Nat} (h:j<B.length):opAt (B++r) j k=opAt B j k:=by
 unfold opAt;simp only[List.getD,List.getElem?_append_left h]
theorem Qgt {B r:St} {j:Nat} (h:j<B.length):Qd (B++r) j=Qd B j:=by
 unfold Qd;simp only[List.getD,List.getElem?_append_left h]
theorem Gro.lam {B Q:St} {i:Nat} {a:Int} (hi:i<B.length) (h:Gro (putS (B++[(a,[])]) i (ocA 4 (B.length:Int))) Q B.length true noH):Gro B Q i false noH:=by
 have hl:(putS (B++[(a,[])]) i (ocA 4 (B.length:Int))).length=B.length+1:=by rw[Jc];simp
 have hi2:i<(B++[(a,[])]).length:=by simp;omega
 have eq1:∀j,j<B.length→j≠i→Qd (putS (B++[(a,[])]) i (ocA 4 (B.length:Int))) j=Qd B j:=fun j h1 h2=>by rw[J5 (fun c=>h2 c.symm),Qgt h1]
 have eq2:Qd (putS (B++[(a,[])]) i (ocA 4 (B.length:Int))) i=Qd B i+1:=by rw[QaP hi2,Qgt hi]
 have le1:leS B (putS (B++[(a,[])]) i (ocA 4 (B.length:Int))):=(QiH ..).trans (QY ..);have keep1:∀j k,j<B.length→k<Qd B j→opAt (putS (B++[(a,[])]) i (ocA 4 (B.length:Int))) j k=opAt B j k:=fun j k h1 h2=>by
  by_cases c:i=j
  ·subst c;rw[Qnh hi2 _ _ (by rw[Qgt h1];exact h2),Qqf h1]
  ·rw[Qmk c,Qqf h1]
 refine ⟨le1.trans h.le,fun j k h1 h2=>?_,fun j h1 h2=>?_,fun k h1 h2 _=>?_,fun j k h1 h2 h3=>?_⟩
 ·rw[h.keep j k (by omega) (Nat.lt_of_lt_of_le h2 (le1.2 j h1)),keep1 j k h1 h2]
 ·rw[h.oth j (by omega) (by omega),eq1 j h1 h2]
 ·have e3:=h.oth i (by omega) (by omega);rw[eq2] at e3;obtain rfl:k=Qd B i:=by omega
  have e4:opAt Q i (Qd B i)=ocA 4 (B.length:Int):=by
   rw[h.keep i _ (by omega) (by omega)];have:=Qgs hi2 (ocA 4 (B.length:Int))
   rwa [Qgt hi] at this
  rw[e4];have hq:=h.le.1;refine .plain ⟨by show (1:Int)≤4;omega,by show (4:Int)≤12;omega⟩ (by show (4:Int)≠5;omega) (by show (4:Int)≠6;omega) ⟨by show (0:Int)≤(B.length:Int);omega,.inr (by show (B.length:Int)≤_;omega)⟩ ⟨Int.le_refl 0,by show (0:Int)≤999;omega⟩ rfl rfl
 ·by_cases c:j=B.length
  ·subst c;refine h.own k ?_ h3 fun c=>c
   have:Qd (putS (B++[(a,[])]) i (ocA 4 (B.length:Int))) B.length=0:=by
    rw[J5 (by omega)];unfold Qd;simp[List.getD]
   omega
  ·exact h.new j k (by omega) h2 h3
section
variable {cs:List Cor}
theorem QwG (hw:WfC cs):∀f x i e B,x<cs.length→cs.length≤f+x→i<B.length→Qd B i<Qd (mkC cs f x i e B) i:=by
 intro f
 induction f with
 |zero=>intro x i e B h1 h2;omega
 |succ f ih=>
  intro x i e B hx hf hi;have put:∀{C D:St} {o:OpD},leS B C→leS (putS C i o) D→Qd B i<Qd D i:=fun {C D o} h1 h2=>by
   have hC:i<C.length:=Nat.lt_of_lt_of_le hi h1.1;have a1:=h1.2 i hi;have a2:=h2.2 i (by rw[Jc];exact hC);rw[QaP hC] at a2;omega
  have hk:=hw.kids x hx;rw[mkC];dsimp only;split;· exact put (.refl B) (JS ..)
  split;· exact put (.refl B) (JS ..)
  split;· exact put (.refl B) (JS ..)
  split;· exact put (QiH ..) ((QO ..).trans (JS ..))
  split;· exact put (QO ..) (JS ..)
  split
  ·cases e
   ·exact put (QO ..) (((((QO ..).trans (QY ..)).trans (Qap ..)).trans (QO ..)).trans (Qap ..))
   ·exact put (QO ..) ((((QO ..)).trans (Qap ..)).trans (QO ..))
  split
  ·rename_i c6;unfold hasK at hk;rw[if_neg (by omega),if_neg (by omega),if_pos c6] at hk;have hne:QG cs x≠[]:=by intro c;rw[c] at hk;simp at hk
   have hlm:(QG cs x).getLastD 0∈QG cs x:=by
    have h1:=Qdu hne;have:(QG cs x).getLastD 0∈(QG cs x).dropLast++[(QG cs x).getLastD 0]:=List.mem_append_right _ (List.mem_singleton.2 rfl)
    rwa [h1] at this
   have hkd:=hw.kid hlm;have h1:leS B (Qr (fun k B=>mkC cs f k i false B) (fun B=>putS B i (oc0 7)) (QG cs x).dropLast B):=Qad (fun k B=>QO ..) (fun B=>QY ..) _ _;have h2:=ih ((QG cs x).getLastD 0) i e _ hkd.2 (by omega) (Nat.lt_of_lt_of_le hi h1.1);exact Nat.lt_of_le_of_lt (h1.2 i hi) h2
  ·exact put (Qad (fun k B=>QO ..) (fun B=> .refl B) _ _) (.refl _)
theorem Gro.many {i:Nat} {g:Nat→St→St} {h:St→St} {l:List Nat} (hg:∀k,k∈l→∀B,i<B.length→Gro B (g k B) i false noH) (hh:∀B,i<B.length→Gro B (h B) i false noH):
  ∀B,i<B.length→Gro B (Qr g h l B) i false noH:=by
 induction l with
 |nil=>intro B hi;exact .refl
 |cons k r ih=>
  intro B hi;have h1:=hg k (by simp) B hi;have l1:i<(g k B).length:=Nat.lt_of_lt_of_le hi h1.le.1;have h2:=hh _ l1;have l2:i<(h (g k B)).length:=Nat.lt_of_lt_of_le l1 h2.le.1;have h3:=ih (fun k hk=>hg k (List.mem_cons_of_mem _ hk)) _ l2;rw[Qr];exact (h1.trans hi h2 fun c=>by cases c).trans hi h3 fun c=>by cases c
theorem OpK.pl (k:Int) {N n m:Nat} {e:Bool} {a b:Int} {s:ByteArray} {d:List Dat} (hk:1≤k∧k≤12∧k≠5∧k≠6) (ha:0≤a∧(a≤999∨a≤(N:Int))) (hb:0≤b∧b≤999):OpK N n m e ⟨k,a,b,0,0,s,d⟩:= .plain ⟨hk.1,hk.2.1⟩ hk.2.2.1 hk.2.2.2 ha hb rfl rfl
theorem OpK.hole (k:Int) {N n m:Nat} {e:Bool} {a:Int} (hk:k=5∨k=6) (h1:(m:Int)<a) (h2:a≤(n:Int)) (h3:e=true→a<(n:Int)):OpK N n m e {oc0 k with a:=a}:=
 ⟨fun _=>⟨h1,h2,h3⟩,fun c=>absurd hk c,⟨Int.le_refl 0,by show (0:Int)≤999;omega⟩,rfl,rfl,by show 1≤k∧k≤12;omega⟩
theorem QzD (hw:WfC cs) (hn:∀i,i<cs.length→(Qj cs i).kind=2→(0≤(Qj cs i).a∧(Qj cs i).a≤999)∧0≤(Qj cs i).b∧(Qj cs i).b≤999):
  ∀f x i e B,x<cs.length→cs.length≤f+x→i<B.length→Gro B (mkC cs f x i e B) i e noH:=by
 intro f
 induction f with
 |zero=>intro x i e B h1 h2;omega
 |succ f ih=>
  intro x i e B hx hf hi;have hkd:=fun k (hk:k∈QG cs x)=>hw.kid hk
  have ihk:∀k,k∈QG cs x→∀i e B,i<B.length→Gro B (mkC cs f k i e B) i e noH:=fun k hk i e B hi=>ih k i e B (hkd k hk).2 (by have:=hkd k hk;omega) hi
  have more:∀k,k∈QG cs x→∀i e B,i<B.length→Qd B i<Qd (mkC cs f k i e B) i:=fun k hk i e B hi=>QwG hw f k i e B (hkd k hk).2 (by have:=hkd k hk;omega) hi
  have hk:=hw.kids x hx;have hkk:=hw.kind x hx;have z0:(0:Int)≤0∧(0:Int)≤999:=⟨Int.le_refl 0,by omega⟩;have zN:∀N:Nat,(0:Int)≤0∧((0:Int)≤999∨(0:Int)≤(N:Int)):=fun N=>⟨Int.le_refl 0,.inl (by omega)⟩
  rw[mkC];dsimp only;generalize hks:QG cs x=ks at*;split
  ·exact .end hi (.put hi (.inr (.pl 1 (by omega) (zN _) z0)))
  split
  ·rename_i c2;have:=hn x hx c2;exact .end hi (.put hi (.inr (.pl 2 (by omega) ⟨by omega,by omega⟩ ⟨by omega,by omega⟩)))
  split
  ·exact .end hi (.put hi (.inr (.pl 3 (by omega) (zN _) z0)))
  split
  ·rename_i c5;unfold hasK at hk;rw[if_neg (by omega),if_pos (.inl c5)] at hk;match ks,hk with
   |[k],_=>exact .end hi (.lam hi (ihk k (by simp) _ _ _ (by rw[Jc];simp)))
  split
  ·rename_i c5;unfold hasK at hk;rw[if_neg (by omega),if_pos (by omega)] at hk;match ks,hk with
   |[k],_=>
    have h1:=ihk k (by simp) i false B hi;have l1:=Nat.lt_of_lt_of_le hi h1.le.1;exact .end hi (h1.trans hi (.put l1 (.inr (.pl _ (by omega) (zN _) z0))) fun c=>by cases c)
  split
  ·rename_i c4;unfold hasK at hk;rw[if_pos c4] at hk;match ks,hk with
   |[k1,k2,k3],_=>
    have h1:=ihk k1 (by simp) i false B hi;simp only[List.getD_cons_zero,List.getD_cons_succ];generalize mkC cs f k1 i false B=B1 at*;have l1:=Nat.lt_of_lt_of_le hi h1.le.1;have h2:Gro B1 (putS B1 i (oc0 6)) i false (fun k=>k=Qd B1 i):= .put l1 (.inl rfl);have e2:=QaP l1 (oc0 6);have o2:=Qgs l1 (oc0 6);have l2:i<(putS B1 i (oc0 6)).length:=by rw[Jc];exact l1
    have h3:=ihk k2 (by simp) i e (putS B1 i (oc0 6)) l2;have lt1:=h1.le.2 i hi;generalize mkC cs f k2 i e (putS B1 i (oc0 6))=B2 at*;have l3:=Nat.lt_of_lt_of_le l2 h3.le.1;have lt3:=h3.le.2 i l2;have o3:opAt B2 i (Qd B1 i)=oc0 6:=by rw[h3.keep i _ l2 (by omega),o2]
    have g2:Gro B B2 i false (fun k=>k=Qd B1 i):=((h1.sub fun k c=>c.elim).trans hi h2 fun c=>by cases c).trans hi (h3.weak.sub fun k c=>c.elim) fun c=>by cases c
    cases e
    ·simp only[Bool.false_eq_true,if_false];have h4:Gro B2 (putS B2 i (oc0 5)) i false (fun k=>k=Qd B1 i∨k=Qd B2 i):= .put l3 (.inl (.inr rfl));have e4:=QaP l3 (oc0 5);have o4:=Qgs l3 (oc0 5);have o4':opAt (putS B2 i (oc0 5)) i (Qd B1 i)=oc0 6:=by rw[Qnh l3 _ _ (by omega),o3]
     have g4:=(g2.sub fun k c=> .inl c).trans hi h4 fun c=>by cases c
     have l4:i<(putS B2 i (oc0 5)).length:=by rw[Jc];exact l3
     generalize hP:putS B2 i (oc0 5)=P at*;have g5:Gro B (setS P i (Qd B1 i) (Qd P i:Int)) i false (fun k=>k=Qd B2 i):=g4.set hi lt1 (by omega) (by rw[o4'];exact .hole 6 (.inr rfl) (by omega) (Int.le_refl _) fun c=>by cases c) fun k c d=>c.elim (fun c=>absurd c d) id
     have o5:opAt (setS P i (Qd B1 i) (Qd P i:Int)) i (Qd B2 i)=oc0 5:=by rw[Qc8 (.inr (by omega)),o4]
     have e5:=QaO P i i (Qd B1 i) (Qd P i:Int);have l5:i<(setS P i (Qd B1 i) (Qd P i:Int)).length:=by rw[Qa0];exact l4
     have h6:=ihk k3 (by simp) i false (setS P i (Qd B1 i) (Qd P i:Int)) l5;have m6:=more k3 (by simp) i false (setS P i (Qd B1 i) (Qd P i:Int)) l5;generalize setS P i (Qd B1 i) (Qd P i:Int)=B4 at*;generalize mkC cs f k3 i false B4=B5 at*;have g6:=g5.trans hi (h6.sub fun k c=>c.elim) fun c=>by cases c
     have o6:opAt B5 i (Qd B2 i)=oc0 5:=by rw[h6.keep i _ l5 (by omega),o5]
     exact g6.set hi (by omega) (by omega) (by rw[o6];exact .hole 5 (.inl rfl) (by omega) (Int.le_refl _) fun c=>by cases c) fun k c d=>absurd c d
    ·simp only[if_true];have g5:Gro B (setS B2 i (Qd B1 i) (Qd B2 i:Int)) i false noH:=g2.set hi lt1 (by omega) (by rw[o3];exact .hole 6 (.inr rfl) (by omega) (Int.le_refl _) fun c=>by cases c) fun k c d=>absurd c d
     have l5:i<(setS B2 i (Qd B1 i) (Qd B2 i:Int)).length:=by rw[Qa0];exact l3
     have h6:=ihk k3 (by simp) i true (setS B2 i (Qd B1 i) (Qd B2 i:Int)) l5;have m6:=more k3 (by simp) i true (setS B2 i (Qd B1 i) (Qd B2 i:Int)) l5;exact g5.trans hi h6 fun _=> .inr m6
  split
  ·rename_i c6;unfold hasK at hk;rw[if_neg (by omega),if_neg (by omega),if_pos c6] at hk;have hne:ks≠[]:=by intro c;rw[c] at hk;simp at hk
   have hl:=Qdu hne;have hmem:∀k,k∈ks.dropLast→k∈ks:=fun k hm=>by rw[←hl];exact List.mem_append_left _ hm
   have hlm:ks.getLastD 0∈ks:=by
    have:ks.getLastD 0∈ks.dropLast++[ks.getLastD 0]:=List.mem_append_right _ (List.mem_singleton.2 rfl)
    rwa [hl] at this
   have g1:Gro B (Qr (fun k B=>mkC cs f k i false B) (fun B=>putS B i (oc0 7)) ks.dropLast B) i false noH:= .many (fun k hk B hi=>ihk k (hmem k hk) i false B hi) (fun B hi=> .put hi (.inr (.pl 7 (by omega) (zN _) z0))) B hi;have l1:=Nat.lt_of_lt_of_le hi g1.le.1;exact g1.trans hi (ihk _ hlm i e _ l1) fun _=> .inr (more _ hlm i e _ l1)
  ·have c9:(Qj cs x).kind=9:=by omega
   unfold hasK at hk;rw[if_neg (by omega),if_neg (by omega),if_neg (by omega),if_pos c9] at hk;have g1:Gro B (Qr (fun k B=>mkC cs f k i false B) id ks B) i false noH:= .many (fun k hk B hi=>ihk k hk i false B hi) (fun B hi=> .refl) B hi;have l1:=Nat.lt_of_lt_of_le hi g1.le.1;refine g1.trans hi (.put l1 (.inr (.pl _ (by cases e<;>simp) ⟨by omega,by omega⟩ z0))) fun _=> .inr ?_
   rw[QaP l1];omega
theorem QzE {B:St} (hl:B.length≤60) (hs:∀i,i<B.length→Qd B i≤200) (h:∀j k,j<B.length→k<Qd B j→OpK B.length (Qd B j) k true (opAt B j k)):
  ∀p,p∈B→(∀k,k<p.2.length→jmp (p.2.getD k default)→(k:Int)<(p.2.getD k default).a∧(p.2.getD k default).a<(p.2.length:Int))∧(∀o,o∈p.2→(0≤o.a∧o.a≤999)∧(0≤o.b∧o.b≤999)∧o.c=0∧o.d=0∧1≤o.kind∧o.kind≤12)∧p.2.length≤200:=by
 intro p hp;obtain ⟨j,hj,rfl⟩:=List.mem_iff_getElem.1 hp;have e:B.getD j (0,[])=B[j]:=by simp[List.getD,hj]
 have h1:=h j;have h2:=hs j hj;unfold opAt at h1;unfold Qd at h1 h2;rw[e] at h1 h2;refine ⟨fun k hk c=>?_,fun o ho=>?_,h2⟩
 ·have:=(h1 k hj hk).jump c;exact ⟨this.1,this.2.2 rfl⟩
 ·obtain ⟨k,hk,rfl⟩:=List.mem_iff_getElem.1 ho;have e2:B[j].2.getD k default=B[j].2[k]:=by simp[List.getD,hk]
  have g:=h1 k hj hk;rw[e2] at g;refine ⟨?_,g.b,g.c,g.d,g.kind⟩;by_cases c:jmp B[j].2[k]
  ·have:=g.jump c;omega
  ·have:=g.num c;omega
theorem QwH {B:St} (hB:B=mkC cs cs.length 0 0 true [(0,[])]) (hw:WfC cs) (hn:∀i,i<cs.length→(Qj cs i).kind=2→(0≤(Qj cs i).a∧(Qj cs i).a≤999)∧0≤(Qj cs i).b∧(Qj cs i).b≤999):
  ∀j k,j<B.length→k<Qd B j→OpK B.length (Qd B j) k true (opAt B j k):=by
 have hwl:=hw.len;have g:=QzD hw hn cs.length 0 0 true [(0,[])] (by omega) (by omega) (by simp);rw[←hB] at g;intro j k h1 h2;rcases Nat.eq_zero_or_pos j with c|c
 ·subst c;exact g.own k (Nat.zero_le _) h2 fun c=>c
 ·exact g.new j k (by simp;omega) h1 h2
end
end
section
variable [L:Lam] {σ τ:AH} {R:AEnd→AH→Prop}
theorem Fz.move {σ0 σ1 τ':AH} {a b:AV} (h:Fz σ0 τ a b) (h0:∀φ,σ0 φ=none→σ1 φ=none) (hm:∀φ F,σ0 φ=none→τ φ=some F→τ' φ=some F):Fz σ1 τ' a b:=by
 induction h with
 |same a=>exact .same a
 |agg hl h ih=>exact .agg hl ih
 |tup hl h ih=>exact .tup hl ih
 |own hF hz hst hl hn hs h ih=>exact .own (hm _ _ hz hF) (h0 _ hz) hst hl hn hs ih
 |ro hn hz h ih=>exact .ro hn hz ih
 |ptr hF hz hst hi hlen hc h ih=>exact .ptr (hm _ _ hz hF) (h0 _ hz) hst hi hlen hc ih
 |emp=>exact .emp
 |nil=>exact .nil
def Qn (o:OpD) (a:AV):List AV:=[iv o.kind,iv o.a,iv o.b,iv o.c,iv o.d,str o.name,a]
end
section
set_option maxRecDepth 100000
def famL:AV→List Nat
 | .own φ _ _ _=>[φ]
 |_=>[]
theorem Qfi {a:AV} {ψ:Nat}:ψ∈famL a↔Buf.fam a ψ:=by
 constructor
 ·intro h;cases a with
  |own φ st off n=>
   obtain rfl:ψ=φ:=by simpa[famL] using h
   exact ⟨st,off,n,rfl⟩
  |_=>simp[famL] at h
 ·rintro ⟨st,off,n,rfl⟩;simp[famL]
abbrev Its:=List (OpD × AV)
def itsF (its:Its):List Nat:=its.flatMap fun p=>famL p.2
def UT (v:AV) (its:Its):List Nat:=famL v++itsF its
structure BI where
 args:Int
 av:AV
 its:Its
def biF (b:BI):List Nat:=UT b.av b.its
def Jz (v:AV) (bs:List BI):List Nat:=famL v++bs.flatMap biF
section
variable [L:Lam] {σ τ τ':AH} {R:AEnd→AH→Prop}
def ItsH (τ:AH) (its:Its):Prop:=∀p,p∈its→Buf τ 4 p.2 (p.1.data.map Qc)
def OpsH (τ:AH) (v:AV) (its:Its):Prop:=Buf τ 7 v (its.map fun p=>Qn p.1 p.2)∧ItsH τ its
def BlksH (τ:AH) (v:AV) (bs:List BI):Prop:=Buf τ 2 v (bs.map fun b=>[iv b.args,b.av])∧∀b,b∈bs→OpsH τ b.av b.its
theorem Jw {sz:Nat} {a:AV} {es:List (List AV)} (h:Buf τ sz a es) (k:∀ψ,ψ∈famL a→τ' ψ=τ ψ):Buf τ' sz a es:=h.keep fun ψ hf=>k ψ (Qfi.2 hf)
theorem ItsH.keep {its:Its} (h:ItsH τ its) (k:∀ψ,ψ∈itsF its→τ' ψ=τ ψ):ItsH τ' its:=
 fun p hp=>Jw (h p hp) fun ψ hψ=>k ψ (List.mem_flatMap.2 ⟨p,hp,hψ⟩)
theorem OpsH.keep {v:AV} {its:Its} (h:OpsH τ v its) (k:∀ψ,ψ∈UT v its→τ' ψ=τ ψ):OpsH τ' v its:=
 ⟨Jw h.1 fun ψ hψ=>k ψ (List.mem_append_left _ hψ),h.2.keep fun ψ hψ=>k ψ (List.mem_append_right _ hψ)⟩
theorem BlksH.keep {v:AV} {bs:List BI} (h:BlksH τ v bs) (k:∀ψ,ψ∈Jz v bs→τ' ψ=τ ψ):BlksH τ' v bs:=
 ⟨Jw h.1 fun ψ hψ=>k ψ (List.mem_append_left _ hψ),fun b hb=>(h.2 b hb).keep fun ψ hψ=>k ψ (List.mem_append_right _ (List.mem_flatMap.2 ⟨b,hb,hψ⟩))⟩
theorem J1 {sz:Nat} {a:AV} {es:List (List AV)} (h:Buf τ sz a es) {ψ:Nat} (hm:ψ∈famL a):∃F,τ ψ=some F:=h.fam_some (Qfi.1 hm)
theorem ItsH.live {its:Its} (h:ItsH τ its) {ψ:Nat} (hm:ψ∈itsF its):∃F,τ ψ=some F:=by
 obtain ⟨p,hp,hψ⟩:=List.mem_flatMap.1 hm;exact J1 (h p hp) hψ
theorem OpsH.live {v:AV} {its:Its} (h:OpsH τ v its) {ψ:Nat} (hm:ψ∈UT v its):∃F,τ ψ=some F:=by
 rcases List.mem_append.1 hm with hm|hm
 ·exact J1 h.1 hm
 ·exact h.2.live hm
theorem BlksH.live {v:AV} {bs:List BI} (h:BlksH τ v bs) {ψ:Nat} (hm:ψ∈Jz v bs):∃F,τ ψ=some F:=by
 rcases List.mem_append.1 hm with hm|hm
 ·exact J1 h.1 hm
 ·obtain ⟨b,hb,hψ⟩:=List.mem_flatMap.1 hm;exact (h.2 b hb).live hψ
theorem JU {sz:Nat} {a:AV} {es:List (List AV)} (h:Buf τ sz a es) (hn:es≠[]):∃φ st,a= .own φ st 0 es.length∧τ φ=some ⟨st,sz,es⟩:=by
 rcases h with ⟨_,e⟩|h
 ·exact absurd e hn
 ·exact h
theorem Uq {sz:Nat} {a:AV} {es fs:List (List AV)} (h:Buf τ sz a es) (h0:∀ψ,ψ∈famL a→σ ψ=none) (hl:fs.length=es.length) (hz:∀c,c∈fs→c.length=sz)
  (hc:∀i j,i<es.length→j<sz→Fz σ τ ((es.getD i []).getD j .any) ((fs.getD i []).getD j .any)):Fz σ τ a (.ro fs):=by
 rcases h with ⟨e1,e⟩|⟨φ,st,rfl,hF⟩
 ·subst e;have:fs=[]:=List.length_eq_zero_iff.1 hl;subst this;rcases e1 with rfl|rfl
  ·exact .nil
  ·exact .emp
 ·refine .own hF (h0 φ (by simp[famL])) rfl (by simp) hl (fun i hi=>?_) (fun i j hi hj=>?_)
  ·have hi':i<fs.length:=by omega
   have e:fs.getD i []=fs[i]:=by simp[List.getD,hi']
   rw[e];exact hz _ (List.getElem_mem hi')
  ·rw[Nat.zero_add];exact hc i j hi hj
theorem Qs2 {a:AV} {ds:List Dat} (h:Buf τ 4 a (ds.map Qc)) (h0:∀ψ,ψ∈famL a→σ ψ=none):Fz σ τ a (roD ds):=
 Uq h h0 rfl (by intro c hc;obtain ⟨x,_,rfl⟩:=List.mem_map.1 hc;rfl) fun _ _ _ _=> .same _
theorem QrK {v:AV} {its:Its} (h:OpsH τ v its) (h0:∀ψ,ψ∈UT v its→σ ψ=none):Fz σ τ v (roO (its.map (·.1))):=by
 refine Uq h.1 (fun ψ hψ=>h0 ψ (List.mem_append_left _ hψ)) (by simp) (by intro c hc;obtain ⟨x,_,rfl⟩:=List.mem_map.1 hc;rfl) fun i j hi hj=>?_
 have hi':i<its.length:=by simpa using hi
 have e1:(its.map fun p=>Qn p.1 p.2).getD i []=Qn its[i].1 its[i].2:=by simp[List.getD,hi']
 have e2:((its.map (·.1)).map Qk).getD i []=Qk its[i].1:=by simp[List.getD,hi']
 rw[e1,e2];match j,hj with
 |0,_=>exact .same _
 |1,_=>exact .same _
 |2,_=>exact .same _
 |3,_=>exact .same _
 |4,_=>exact .same _
 |5,_=>exact .same _
 |6,_=>exact Qs2 (h.2 _ (List.getElem_mem hi')) fun ψ hψ=>h0 ψ (List.mem_append_right _ (List.mem_flatMap.2 ⟨_,List.getElem_mem hi',hψ⟩))
def cont (bs:List BI):List Blk:=bs.map fun b=>⟨b.args,b.its.map (·.1)⟩
theorem QzF {v:AV} {bs:List BI} (h:BlksH τ v bs) (h0:∀ψ,ψ∈Jz v bs→σ ψ=none):Fz σ τ v (roBk (cont bs)):=by
 refine Uq h.1 (fun ψ hψ=>h0 ψ (List.mem_append_left _ hψ)) (by simp[cont]) (by intro c hc;obtain ⟨x,_,rfl⟩:=List.mem_map.1 hc;rfl) fun i j hi hj=>?_
 have hi':i<bs.length:=by simpa using hi
 have e1:(bs.map fun b=>[iv b.args,b.av]).getD i []=[iv bs[i].args,bs[i].av]:=by simp[List.getD,hi']
 have e2:((cont bs).map QC).getD i []=[iv bs[i].args,roO (bs[i].its.map (·.1))]:=by simp[cont,List.getD,hi',QC]
 rw[e1,e2];match j,hj with
 |0,_=>exact .same _
 |1,_=>exact QrK (h.2 _ (List.getElem_mem hi')) fun ψ hψ=>h0 ψ (List.mem_append_right _ (List.mem_flatMap.2 ⟨_,List.getElem_mem hi',hψ⟩))
theorem J6 (a b:Its):itsF (a++b)=itsF a++itsF b:=by simp[itsF]
theorem Ub (p:OpD × AV) (r:Its):itsF (p::r)=famL p.2++itsF r:=by simp[itsF]
theorem Qo {a b:List Nat}:(a++b).Nodup↔a.Nodup∧b.Nodup∧∀x,x∈a→x∉b:=by
 rw[List.nodup_append];constructor
 ·rintro ⟨h1,h2,h3⟩;exact ⟨h1,h2,fun x hx hb=>h3 x hx x hb rfl⟩
 ·rintro ⟨h1,h2,h3⟩;exact ⟨h1,h2,fun x hx y hy e=>h3 x hx (e▸hy)⟩
theorem Qae (a:AV):(famL a).Nodup:=by cases a<;>simp[famL]
end
end
section
set_option maxRecDepth 100000
section
variable [L:Lam] {σ τ τ':AH} {R:AEnd→AH→Prop}
theorem Qbv {φ st sz off i:Nat} {pre post:List (List AV)} {r:List AV} {v:AV} {k:AH→Prop} (hp:pre.length=i) (ho:off<sz) (h1:v.one=true) (h:k (τ.set φ ⟨st,sz,pre++r.set off v::post⟩)):
  sto 1 (.ptr φ st i off) v (τ.set φ ⟨st,sz,pre++r::post⟩) k:=by
 refine Q4 (cs:=r) (AH.set_same ..) (by simp[←hp]) ho (JO h1) h1 ?_;have e:(pre++r::post).set i (r.set off v)=pre++r.set off v::post:=by subst hp;simp
 rw[AH.set_set,e];exact h
theorem Jj {sz:Nat} {a:AV} {es:List (List AV)} (h:Buf τ sz a es):lenS a=some (iv (es.length:Int)):=by
 rcases h with ⟨rfl|rfl,rfl⟩|⟨φ,st,rfl,_⟩<;>rfl
abbrev Qi (p:OpD × AV):List AV:=Qn p.1 p.2
end
end
section
set_option maxRecDepth 100000
variable [L:Lam]
abbrev Qc9 (b:BI):List AV:=[iv b.args,b.av]
def Qxt (b:BI):Blk:=⟨b.args,b.its.map (·.1)⟩
def bsF (bs:List BI):List Nat:=bs.flatMap biF
theorem UZ (a b:List BI):bsF (a++b)=bsF a++bsF b:=by simp[bsF]
theorem UR (b:BI) (r:List BI):bsF (b::r)=biF b++bsF r:=by simp[bsF]
section
variable {σ τ τ':AH} {R:AEnd→AH→Prop}
def BisH (τ:AH) (bs:List BI):Prop:=∀b,b∈bs→OpsH τ b.av b.its
end
end
section
set_option maxRecDepth 100000
variable [L:Lam] {σ τ τ':AH} {R:AEnd→AH→Prop}
structure NewO (σ τ:AH) (v:AV) (its:Its):Prop where
 own:OpsH τ v its
 nd:(UT v its).Nodup
 fr:∀ψ,ψ∈UT v its→σ ψ=none
 sub:AH.Sub σ τ
structure NewB (σ τ:AH) (v:AV) (bs:List BI):Prop where
 own:BlksH τ v bs
 nd:(Jz v bs).Nodup
 fr:∀ψ,ψ∈Jz v bs→σ ψ=none
 sub:AH.Sub σ τ
theorem NewO.one {v:AV} {its:Its} (h:NewO σ τ v its):v.one=true:=by
 rcases h.own.1 with ⟨rfl|rfl,_⟩|⟨φ,st,rfl,_⟩<;>rfl
theorem BisH.keep {bs:List BI} (h:BisH τ bs) (k:∀ψ,ψ∈bsF bs→τ' ψ=τ ψ):BisH τ' bs:=fun b hb=>(h b hb).keep fun ψ hψ=>k ψ (List.mem_flatMap.2 ⟨b,hb,hψ⟩)
theorem BisH.live {bs:List BI} (h:BisH τ bs) {ψ:Nat} (hm:ψ∈bsF bs):∃F,τ ψ=some F:=by
 obtain ⟨b,hb,hψ⟩:=List.mem_flatMap.1 hm;exact (h b hb).live hψ
theorem NewB.one {v:AV} {bs:List BI} (h:NewB σ τ v bs):v.one=true:=by
 rcases h.own.1 with ⟨rfl|rfl,_⟩|⟨φ,st,rfl,_⟩<;>rfl
theorem Qqg:NomH ah0:=fun φ F h=>by cases h
theorem QuU (σ:AH):thaw ah0 σ ah0=σ:=by
 funext φ
 unfold thaw;cases e:σ φ<;>simp[ah0]
theorem QrL (τ:AH):AH.Sub ah0 τ:=fun φ F h=>by cases h
theorem QrM {f:FuncId} {args args':List AV} {v:AV} {K:AEnd→AH→Prop} (hv:Nom v) (hl:args.length=args'.length) (hf:∀i,i<args.length→Fz ah0 τ (args.getD i .any) (args'.getD i .any))
  (h:∀R:AEnd→AH→Prop,R (.ret v) ah0→acall TP f args' ah0 R) (hK:K (.ret v) τ):acall TP f args τ K:=by
 refine (Qoi (σ0:=ah0) (args:=args) (args':=args') (Q:=fun e σ1=>e= .ret v∧σ1=ah0) (QrL τ) hl hf (h _ ⟨hv,Qqg,rfl,rfl⟩)).mono ?_;rintro e σ' ⟨σ1,⟨rfl,rfl⟩,rfl,_⟩;rw[QuU];exact hK
end
section
set_option maxRecDepth 100000
variable [L:Lam] {σ τ τ':AH} {R:AEnd→AH→Prop}
def isSl (T:Tab) (t:TypeId):Bool:=match T t with
 |some ti=>match ti.under with| .slice _=>true|_=>false
 |none=>false
theorem QuV {T:Tab} {t:TypeId} {es:List (List AV)} {k:AV→Prop} (hu:isSl T t=true) (h:∀b:Bool,(es≠[]→b=false)→k (bv b)):abin T .eql t (.ro es) nilS k:=by
 unfold isSl at hu;split at hu
 case h_2=>cases hu
 rename_i ti ht;split at hu
 case h_2=>cases hu
 rename_i e he;unfold abin aeql;simp only[ht,he];exact h
def Kp (F:List Nat) (τ τ':AH):Prop:=∀ψ,ψ∉F→τ ψ≠none→τ' ψ=τ ψ
theorem Kp.refl (F:List Nat) (τ:AH):Kp F τ τ:=fun _ _ _=>rfl
theorem Kp.of_sub {F:List Nat} (h:AH.Sub τ τ'):Kp F τ τ':=fun ψ _ hn=>by
 cases e:τ ψ with
 |none=>exact absurd e hn
 |some G=>exact h _ _ e
theorem Kp.sub {F:List Nat} (h:Kp F τ τ') (hs:AH.Sub σ τ) (hf:∀ψ,ψ∈F→σ ψ=none):AH.Sub σ τ':=fun ψ G hG=>by
 have h1:=hs _ _ hG;rw[h ψ (fun c=>by rw[hf ψ c] at hG;cases hG) (by rw[h1];simp),h1]
theorem JV {ψ:Nat} (h:∃F,τ ψ=some F):τ ψ≠none:=by obtain ⟨F,e⟩:=h;rw[e];simp
theorem Kp.ops {F:List Nat} {v:AV} {its:Its} (k:Kp F τ τ') (h:OpsH τ v its) (hd:∀ψ,ψ∈UT v its→ψ∉F):OpsH τ' v its:=h.keep fun ψ hψ=>k ψ (hd ψ hψ) (JV (h.live hψ))
theorem Kp.its {F:List Nat} {its:Its} (k:Kp F τ τ') (h:ItsH τ its) (hd:∀ψ,ψ∈itsF its→ψ∉F):ItsH τ' its:=h.keep fun ψ hψ=>k ψ (hd ψ hψ) (JV (h.live hψ))
theorem Kp.blks {F:List Nat} {v:AV} {B:List BI} (k:Kp F τ τ') (h:BlksH τ v B) (hd:∀ψ,ψ∈Jz v B→ψ∉F):BlksH τ' v B:=h.keep fun ψ hψ=>k ψ (hd ψ hψ) (JV (h.live hψ))
theorem Kp.buf {F:List Nat} {sz:Nat} {a:AV} {es:List (List AV)} (k:Kp F τ τ') (h:Buf τ sz a es) (hd:∀ψ,ψ∈famL a→ψ∉F):Buf τ' sz a es:=Jw h fun ψ hψ=>k ψ (hd ψ hψ) (JV (J1 h hψ))
theorem Ui {sz:Nat} {a x:AV} {es xs:List (List AV)} {k:AV→AH→Prop} (h:Buf τ sz a es) (hx:QL τ x=some xs) (hs:∀c,c∈xs→c.length=sz) (ho:∀c,c∈xs→∀y,y∈c→y.one=true) (hn:es.length+xs.length≤4294967296)
  (hk:∀a' τ',Buf τ' sz a' (es++xs)→Kp (famL a) τ τ'→(∀ψ,ψ∈famL a'→ψ∈famL a∨τ ψ=none)→k a' τ'):app sz a x τ k:=
 h.app hx hs ho hn fun a' τ' h1 h2 h3 _=>hk a' τ' h1 (fun ψ hψ hn=>h2 ψ (fun c=>hψ (Qfi.2 c)) hn) fun ψ hψ=>(h3 ψ (Qfi.1 hψ)).imp Qfi.2 id
theorem NewO.app {v x:AV} {its qs:Its} {k:AV→AH→Prop} (h:NewO σ τ v its) (hx:QL τ x=some (qs.map Qi)) (hq:ItsH τ qs) (hnd:(itsF its++itsF qs).Nodup) (hd:∀ψ,ψ∈itsF qs→ψ∉famL v) (hf:∀ψ,ψ∈itsF qs→σ ψ=none)
  (ho:∀p,p∈qs→p.2.one=true) (hn:its.length+qs.length≤4294967296)
  (hk:∀v' τ',NewO σ τ' v' (its++qs)→Kp (famL v) τ τ'→(∀ψ,ψ∈famL v'→ψ∈famL v∨τ ψ=none)→k v' τ'):E.app 7 v x τ k:=by
 refine Ui h.own.1 hx (by intro c hc;obtain ⟨p,_,rfl⟩:=List.mem_map.1 hc;rfl) ?_ (by simpa using hn) fun v' τ' hB hK hfam=>hk v' τ' ?_ hK hfam
 ·intro c hc y hy;obtain ⟨p,hp,rfl⟩:=List.mem_map.1 hc;simp only[Qn,List.mem_cons,List.not_mem_nil,or_false] at hy;rcases hy with rfl|rfl|rfl|rfl|rfl|rfl|rfl<;>first|rfl|exact ho p hp
 obtain ⟨n1,n2,n3⟩:=Qo.1 h.nd;have hdd:∀ψ,ψ∈itsF (its++qs)→ψ∉famL v:=by
  intro ψ hψ c;rw[J6] at hψ;rcases List.mem_append.1 hψ with hψ|hψ
  ·exact n3 ψ c hψ
  ·exact hd ψ hψ c
 have hI:ItsH τ (its++qs):=by
  intro p hp;rcases List.mem_append.1 hp with hp|hp
  ·exact h.own.2 p hp
  ·exact hq p hp
 refine ⟨⟨by rw[List.map_append];exact hB,hK.its hI hdd⟩,?_,?_,hK.sub h.sub fun ψ hψ=>h.fr ψ (List.mem_append_left _ hψ)⟩
 ·rw[UT,Qo];refine ⟨Qae _,by rw[J6];exact hnd,fun ψ hψ c=>?_⟩;rcases hfam ψ hψ with h1|h1
  ·exact hdd ψ c h1
  ·obtain ⟨F,e⟩:=hI.live c;rw[h1] at e;cases e
 ·intro ψ hψ;rcases List.mem_append.1 hψ with hψ|hψ
  ·rcases hfam ψ hψ with h1|h1
   ·exact h.fr ψ (List.mem_append_left _ h1)
   ·exact h.sub.none h1
  ·rw[J6] at hψ;rcases List.mem_append.1 hψ with hψ|hψ
   ·exact h.fr ψ (List.mem_append_right _ hψ)
   ·exact hf ψ hψ
theorem NewO.grow {v:AV} {its:Its} (h:NewO σ τ v its) (hs:AH.Sub τ τ'):NewO σ τ' v its:=
 ⟨(Kp.of_sub (F:=[]) hs).ops h.own (fun _ _ c=>by cases c),h.nd,h.fr,h.sub.trans hs⟩
theorem NewB.grow {v:AV} {B:List BI} (h:NewB σ τ v B) (hs:AH.Sub τ τ'):NewB σ τ' v B:=
 ⟨(Kp.of_sub (F:=[]) hs).blks h.own (fun _ _ c=>by cases c),h.nd,h.fr,h.sub.trans hs⟩
theorem bsl1 {sz:Nat} {z row:List AV} {x:AV} {k:AV→AH→Prop} (he:JD sz [z] [(0,x)]=some [row]) (hs:sz≤16777216) (h:∀ψ,τ ψ=none→k (.own ψ 0 0 1) (τ.set ψ ⟨0,sz,[row]⟩)):bsl sz z 1 [(0,x)] τ k:=by
 unfold bsl;have e:List.replicate 1 z=[z]:=rfl;rw[e,he];exact ⟨by omega,by rw[if_neg (by decide)];exact h⟩
theorem bsl0 {sz:Nat} {z:List AV} {k:AV→AH→Prop} (h:k .emp τ):bsl sz z 0 [] τ k:=⟨by omega,by rw[if_pos rfl];exact h⟩
theorem ael1 {ψ sz:Nat} {row:List AV}:QL (τ.set ψ ⟨0,sz,[row]⟩) (.own ψ 0 0 1)=some [row]:=by simp[QL]
theorem NewO.push {v:AV} {its:Its} {p:OpD × AV} {z:List AV} {k:AV→AH→Prop} (h:NewO σ τ v its) (he:JD 7 [z] [(0,.agg (Qi p))]=some [Qi p]) (hq:Buf τ 4 p.2 (p.1.data.map Qc)) (hd:∀ψ,ψ∈famL p.2→ψ∉UT v its) (hf:∀ψ,ψ∈famL p.2→σ ψ=none)
  (ho:p.2.one=true) (hn:its.length+1≤4294967296)
  (hk:∀v' τ',NewO σ τ' v' (its++[p])→Kp (famL v) τ τ'→(∀ψ,ψ∈famL v'→ψ∈famL v∨τ ψ=none)→k v' τ'):bsl 7 z 1 [(0,.agg (Qi p))] τ fun x τ=>E.app 7 v x τ k:=by
 refine bsl1 he (by omega) fun ψ hψ=>?_
 have hs:AH.Sub τ (τ.set ψ ⟨0,7,[Qi p]⟩):= .set (.refl τ) _ hψ;have e1:itsF [p]=famL p.2:=by simp[itsF]
 refine (h.grow hs).app (qs:=[p]) ael1 ?_ ?_ ?_ (by rw[e1];exact hf) (by intro q hq;obtain rfl:q=p:=(by simpa using hq);exact ho) hn fun v' τ' h1 h2 h3=>hk v' τ' h1 ?_ ?_
 ·intro q hq';obtain rfl:q=p:=by simpa using hq'
  exact (Kp.of_sub (F:=[]) hs).buf hq (fun _ _ c=>by cases c)
 ·rw[e1,Qo];exact ⟨(Qo.1 h.nd).2.1,Qae _,fun x hx c=>hd x c (List.mem_append_right _ hx)⟩
 ·rw[e1];exact fun ψ hψ c=>hd ψ hψ (List.mem_append_left _ c)
 ·exact fun χ hχ hn=>by rw[h2 χ hχ (by rw[AH.set_ne' (by rintro rfl;exact hn hψ)];exact hn),AH.set_ne' (by rintro rfl;exact hn hψ)]
 ·intro χ hχ;rcases h3 χ hχ with c|c
  ·exact .inl c
  ·exact .inr (hs.none c)
theorem NewO.emp (h:AH.Sub σ τ):NewO σ τ .emp []:=⟨⟨.inl ⟨.inr rfl,rfl⟩,fun p hp=>by cases hp⟩,.nil,(fun ψ c=>by cases c),h⟩
theorem NewB.emp (h:AH.Sub σ τ):NewB σ τ .emp []:=⟨⟨.inl ⟨.inr rfl,rfl⟩,fun p hp=>by cases hp⟩,.nil,(fun ψ c=>by cases c),h⟩
theorem NewB.push {v a:AV} {B:List BI} {its:Its} {n:Int} {z:List AV} {k:AV→AH→Prop} (h:NewB σ τ v B) (he:JD 2 [z] [(0,.agg [iv n,a])]=some [[iv n,a]]) (hq:OpsH τ a its) (hqn:(UT a its).Nodup) (hd:∀ψ,ψ∈UT a its→ψ∉Jz v B)
  (hf:∀ψ,ψ∈UT a its→σ ψ=none) (ho:a.one=true) (hn:B.length+1≤4294967296) (hk:∀v' τ',NewB σ τ' v' (B++[⟨n,a,its⟩])→k v' τ'):bsl 2 z 1 [(0,.agg [iv n,a])] τ fun x τ=>E.app 2 v x τ k:=by
 refine bsl1 he (by omega) fun ψ hψ=>?_
 have hs:AH.Sub τ (τ.set ψ ⟨0,2,[[iv n,a]]⟩):= .set (.refl τ) _ hψ;have h':=h.grow hs;have hq':OpsH (τ.set ψ ⟨0,2,[[iv n,a]]⟩) a its:=(Kp.of_sub (F:=[]) hs).ops hq (fun _ _ c=>by cases c);refine Ui h'.own.1 ael1 (by intro c hc;obtain rfl:c=[iv n,a]:=(by simpa using hc);rfl) ?_ (by simpa using hn) fun v' τ' hB hK hfam=>hk v' τ' ?_
 ·intro c hc y hy;obtain rfl:c=[iv n,a]:=by simpa using hc
  simp only[List.mem_cons,List.not_mem_nil,or_false] at hy;rcases hy with rfl|rfl
  ·rfl
  ·exact ho
 obtain ⟨n1,n2,n3⟩:=Qo.1 h.nd;have e1:bsF (B++[⟨n,a,its⟩])=bsF B++UT a its:=by rw[UZ];simp[bsF,biF]
 have hdd:∀ψ,ψ∈bsF (B++[⟨n,a,its⟩])→ψ∉famL v:=by
  intro ψ hψ c;rw[e1] at hψ;rcases List.mem_append.1 hψ with hψ|hψ
  ·exact n3 ψ c hψ
  ·exact hd ψ hψ (List.mem_append_left _ c)
 have hI:BisH (τ.set ψ ⟨0,2,[[iv n,a]]⟩) (B++[⟨n,a,its⟩]):=by
  intro p hp;rcases List.mem_append.1 hp with hp|hp
  ·exact h'.own.2 p hp
  ·obtain rfl:p=⟨n,a,its⟩:=by simpa using hp
   exact hq'
 refine ⟨⟨by rw[List.map_append];exact hB,hI.keep fun χ hχ=>hK χ (hdd χ hχ) (JV (hI.live hχ))⟩,?_,?_,hK.sub h'.sub fun ψ hψ=>h.fr ψ (List.mem_append_left _ hψ)⟩
 ·show (famL v'++bsF (B++[⟨n,a,its⟩])).Nodup;rw[Qo];refine ⟨Qae _,?_,fun χ hχ c=>?_⟩
  ·rw[e1,Qo];exact ⟨n2,hqn,fun x hx c=>hd x c (List.mem_append_right _ hx)⟩
  rcases hfam χ hχ with h1|h1
  ·exact hdd χ c h1
  ·obtain ⟨F,e⟩:=hI.live c;rw[h1] at e;cases e
 ·intro χ hχ;have hχ:χ∈famL v'++bsF (B++[⟨n,a,its⟩]):=hχ;rcases List.mem_append.1 hχ with hχ|hχ
  ·rcases hfam χ hχ with h1|h1
   ·exact h.fr χ (List.mem_append_left _ h1)
   ·exact h'.sub.none h1
  ·rw[e1] at hχ;rcases List.mem_append.1 hχ with hχ|hχ
   ·exact h.fr χ (List.mem_append_right _ hχ)
   ·exact hf χ hχ
theorem QzG:isSl TT QtG=true:=by kernel_rfl
theorem QpC {ds:List Dat} (hl:ds.length≤4294967296) (h:∀a τ',Buf τ' 4 a (ds.map Qc)→(∀ψ,ψ∈famL a→σ ψ=none)→AH.Sub σ τ'→R (.ret a) τ'):acall TP QfZ [roD ds] σ R:=by
 refine QlK ?_;unfold x122;dsimp only[den,dE,di,List.map,den0,den1];refine QuV QzG fun b hb=>?_
 cases b with
 |true=>
  have e:ds=[]:=by
   refine Classical.byContradiction fun c=>?_
   have:=hb (by simpa using c);cases this
  subst e;simp only[RR];exact Qa (h _ σ (.inl ⟨.inl rfl,rfl⟩) (fun ψ c=>by cases c) (.refl σ))
 |false=>
  simp only[RR];refine bsl0 ?_;refine Ui (es:=[]) (.inl ⟨.inr rfl,rfl⟩) (xs:=ds.map Qc) rfl (by intro c hc;obtain ⟨x,_,rfl⟩:=List.mem_map.1 hc;rfl) (by intro c hc y hy;obtain ⟨x,_,rfl⟩:=List.mem_map.1 hc;exact Q2 x y hy) (by simpa using hl) fun a τ' h1 h2 h3=>?_
  refine Qa (h a τ' (by simpa using h1) (fun ψ hψ=>(h3 ψ hψ).elim (fun c=>by cases c) id) ?_);exact h2.sub (.refl σ) fun ψ c=>by cases c
end
section
set_option maxRecDepth 100000
variable [L:Lam] {σ τ τ':AH} {R:AEnd→AH→Prop}
theorem Buf.av1 {sz:Nat} {a:AV} {es:List (List AV)} (h:Buf τ sz a es):a.one=true:=by
 rcases h with ⟨rfl|rfl,_⟩|⟨φ,st,rfl,_⟩<;>rfl
theorem Qs3 {n:Int} {w:AV} {sz:Nat} {es:List (List AV)} (h:Buf τ sz w es):bld [(iv 0),nilS] [(0,1),(1,1)] [(0,iv n),(1,w)]=some (.agg [iv n,w]):=by
 rcases h with ⟨rfl|rfl,_⟩|⟨φ,st,rfl,_⟩<;>rfl
theorem one7 {o:OpD} {a:AV} (h:a.one=true):∀y,y∈Qn o a→y.one=true:=by
 intro y hy;simp only[Qn,List.mem_cons,List.not_mem_nil,or_false] at hy;rcases hy with rfl|rfl|rfl|rfl|rfl|rfl|rfl<;>first|rfl|exact h
set_option maxHeartbeats 1000000 in
theorem Qbg {bs:List Blk} (hl:bs.length≤1048576) (hb:∀b,b∈bs→b.ops.length≤1048576∧∀o,o∈b.ops→o.data.length≤1048576) (h:∀v B τ,cont B=bs→NewB σ τ v B→R (.ret v) τ):acall TP QaD [roBk bs] σ R:=by
 refine Qit ?_;unfold x87;dsimp only[den,dE,di,tupL,lTup,den2,den3,den4,List.map,den0,den1];refine bsl0 ?_;simp only[QA,RR];refine Ua bs.length (fun i x τ=>∃v B,x=(v,roBk bs,iv (bs.length:Int),iv (i:Int),())∧cont B=bs.take i∧NewB σ τ v B) ⟨.emp,[],rfl,rfl,.emp (.refl σ)⟩ ?_;rintro i _ τ hi ⟨v,B,rfl,hcB,hN⟩ R' hR';by_cases hlt:i<bs.length
 ·have g:(i:Int)<(bs.length:Int):=by omega
  obtain ⟨hol,hod⟩:=hb _ (List.getElem_mem hlt);simp only[g,Qq hlt Jr,Qu (Jr _),RR];refine QnV rfl ?_;refine bsl0 ?_;simp only[RR,RT,QA];refine Ua bs[i].ops.length (fun j x τ'=>∃w its,x=(v,.rop (QC bs[i]) 0,w,roBk bs,iv (bs.length:Int),iv (i:Int),roO bs[i].ops,iv (bs[i].ops.length:Int),iv (j:Int),())∧its.map (·.1)=bs[i].ops.take j∧NewO τ τ' w its) ⟨.emp,[],rfl,rfl,.emp (.refl τ)⟩ ?_
  rintro j _ τ1 hj ⟨w,its,rfl,hits,hO⟩ R2 hR2;have hil:its.length=j:=by have:=congrArg List.length hits;simpa[Nat.min_eq_left hj] using this
  by_cases hlt2:j<bs[i].ops.length
  ·have g2:(j:Int)<(bs[i].ops.length:Int):=by omega
   have hdl:=hod _ (List.getElem_mem hlt2);simp only[g2,Qq hlt2 Q5,Qu (Q5 _),RR];intro φ hφ;refine QH (es:=[[iv 0,iv 0,iv 0,iv 0,iv 0,str ⟨#[]⟩,nilS]]) (cs:=Qk bs[i].ops[j]) (by rw[AH.set_same];rfl) (by simp) rfl rfl rfl (Qdg _) ?_;simp only[List.set_cons_zero,AH.set_set,RR];have el:lod (.ptr φ 0 0 6) (τ1.set φ ⟨0,7,[Qk bs[i].ops[j]]⟩)=some (roD bs[i].ops[j].data):=Qz (AH.set_same ..) rfl rfl;simp only[el,RR];refine QpC (by omega) fun a τ2 hA hAf hAs=>?_
   simp only[RR];have hF2:τ2 φ=some ⟨0,7,[Qk bs[i].ops[j]]⟩:=hAs _ _ (AH.set_same ..);refine Q4 hF2 rfl (by decide) (JO hA.av1) hA.av1 ?_;have hφa:φ∉famL a:=fun c=>by have:=hAf φ c;rw[AH.set_same] at this;cases this
   refine ⟨.rop (Qn bs[i].ops[j] a) 0,(τ2.set φ ⟨0,7,[Qn bs[i].ops[j] a]⟩).del φ,.del _ _,.ptr (AH.set_same ..) (AH.del_same ..) rfl (by simp) rfl rfl (fun j hj=> .same _),?_⟩;generalize hτ3:(τ2.set φ ⟨0,7,[Qn bs[i].ops[j] a]⟩).del φ=τ3;have h3:∀ψ,ψ≠φ→τ3 ψ=τ2 ψ:=fun ψ hn=>by rw[←hτ3,AH.del_ne _ hn,AH.set_ne' hn]
   have hs3:AH.Sub τ1 τ3:=fun ψ F hF=>by
    have hn:ψ≠φ:=by rintro rfl;rw[hφ] at hF;cases hF
    rw[h3 ψ hn];exact hAs _ _ (by rw[AH.set_ne' hn];exact hF)
   have hA3:Buf τ3 4 a (bs[i].ops[j].data.map Qc):=Jw hA fun ψ hψ=>h3 ψ (by rintro rfl;exact hφa hψ)
   have hAf1:∀ψ,ψ∈famL a→τ1 ψ=none:=fun ψ hψ=>(AH.set_none.1 (hAf ψ hψ)).2
   simp only[Qu (cs:=Qn bs[i].ops[j] a) (n:=7) rfl,RR];refine (hO.grow hs3).push (p:=(bs[i].ops[j],a)) rfl hA3 (fun ψ hψ c=>?_) (fun ψ hψ=>hO.sub.none (hAf1 ψ hψ)) hA.av1 (by omega) fun w' τ4 hN4 hK4 _=>?_
   ·obtain ⟨F,e⟩:=hO.own.live c;rw[hAf1 ψ hψ] at e;cases e
   simp only[Qh hlt2 (by omega),RR];exact hR2 _ _ _ hlt2 (.refl _) ⟨w',its++[(bs[i].ops[j],a)],rfl,by rw[List.take_succ_eq_append_getElem hlt2,List.map_append,hits];rfl,hN4⟩
  ·have g2:¬(j:Int)<(bs[i].ops.length:Int):=by omega
   obtain rfl:j=bs[i].ops.length:=by omega
   rw[List.take_length] at hits;have eb:=Qs3 (n:=bs[i].args) hO.own.1;simp only[g2,RR,RT,eb];have hN1:=hN.grow hO.sub;refine hN1.push (its:=its) rfl hO.own hO.nd (fun ψ hψ c=>?_) (fun ψ hψ=>hN.sub.none (hO.fr ψ hψ)) hO.one ?_ fun v' τ4 hN4=>?_
   ·obtain ⟨F,e⟩:=hN.own.live c;rw[hO.fr ψ hψ] at e;cases e
   ·have:=congrArg List.length hcB;simp[cont] at this;omega
   simp only[Qh hlt (by omega),RR];refine hR' _ _ _ hlt (.refl _) ⟨v',B++[⟨bs[i].args,w,its⟩],rfl,?_,hN4⟩;rw[List.take_succ_eq_append_getElem hlt,cont,List.map_append,←cont,hcB];simp only[List.map_cons,List.map_nil,hits]
 ·have g:¬(i:Int)<(bs.length:Int):=by omega
  obtain rfl:i=bs.length:=by omega
  rw[List.take_length] at hcB;simp only[g,RR];exact Qa (h v B τ hcB hN)
end
section
set_option maxRecDepth 100000
variable [L:Lam] {σ τ τ':AH} {R:AEnd→AH→Prop}
theorem Qs4 {sz:Nat}:Buf τ sz nilS []:= .inl ⟨.inl rfl,rfl⟩
def UK (xs:List Int) (o:OpD):OpD:=if o.kind=5∨o.kind=6 then {o with a:=atH xs o.a.toNat} else if o.kind=16 then {o with c:=atH xs o.c.toNat} else o
def QQ (xs:List Int) (p:OpD × AV):OpD × AV:=(UK xs p.1,p.2)
theorem Qoq (xs:List Int) (o:OpD):(UK xs o).data=o.data:=by unfold UK;(repeat' split)<;>rfl
theorem Qqh (xs:List Int) (its:Its):(its.map (QQ xs)).map (·.1)=(its.map (·.1)).map (UK xs):=by simp[QQ]
theorem Qqi (xs:List Int) (its:Its):itsF (its.map (QQ xs))=itsF its:=by
 induction its with
 |nil=>rfl
 |cons p r ih=>rw[List.map_cons,Ub,Ub,ih];rfl
theorem Qqj {xs:List Int} {its:Its} (h:ItsH τ its):ItsH τ (its.map (QQ xs)):=by
 intro q hq;obtain ⟨p,hp,rfl⟩:=List.mem_map.1 hq;have:=h p hp;simpa[QQ,Qoq] using this
theorem Qs5 {T:Tab} {t:TypeId} {φ st i off:Nat} {k:AV→Prop} (hu:isPt T t=true) (h:k (bv true)):abin T .neq t (.ptr φ st i off) (.val (.pointer none)) k:=by
 unfold isPt at hu;split at hu
 case h_2=>cases hu
 rename_i ti ht;split at hu
 case h_2=>cases hu
 rename_i e he;unfold abin;simp only;unfold aeql;simp only[ht,he];exact h
theorem QBE {φ st i:Nat} {out:List Int} (hF:τ φ=some ⟨st,1,ivs out⟩) (hi:i<out.length):idx 1 (.own φ st 0 out.length) (iv (i:Int)) τ=some (.ptr φ st i 0)∧lod (.ptr φ st i 0) τ=some (iv (atH out i)):=by
 constructor
 ·have:=Jg (st:=st) (off:=0) hF hi
  rwa [Nat.zero_add] at this
 ·refine Qz hF rfl ?_;simp[atH,List.getD,hi]
theorem Qor {u:AV} {xs:List Int} {j:Nat} (h:Buf τ 1 u (ivs xs)) (hj:j<xs.length):∃p,idx 1 u (iv (j:Int)) τ=some p∧lod p τ=some (iv (atH xs j)):=by
 obtain ⟨φ,st,rfl,hF⟩:=JU h (by intro c;rw[List.map_eq_nil_iff] at c;subst c;cases hj);have hl:(ivs xs).length=xs.length:=by simp
 rw[hl];exact ⟨_,QBE hF hj⟩
theorem QtS {o:OpD} {a:AV} {φ st i:Nat} {F:Fam} (hF:σ φ=some F) (hst:F.st=st) (hr:F.es.getD i []=Qn o a) (h:R (.ret (if o.kind=5∨o.kind=6 then .ptr φ st i 1 else if o.kind=16 then .ptr φ st i 3 else .val (.pointer none))) σ):acall TP Qbe [.ptr φ st i 0] σ R:=by
 refine QcH ?_;unfold x123;dsimp only[den,dE,di,tupL,lTup,den2,den3,den4,List.map,den0,den1];have l0:lod (.ptr φ st i 0) σ=some (iv o.kind):=Qz hF hst (by rw[hr];rfl);simp only[RR,l0,jn];by_cases c1:o.kind=5
 ·rw[if_pos (by omega)] at h;simp only[c1,RR];exact Qa h
 by_cases c2:o.kind=6
 ·rw[if_pos (by omega)] at h;simp only[c2,RR];exact Qa h
 rw[if_neg (by omega)] at h;by_cases c3:o.kind=16
 ·rw[if_pos c3] at h;simp only[c3,RR];exact Qa h
 rw[if_neg c3] at h;simp only[c1,c2,c3,RR];exact Qa h
theorem QpD:isPt TT Qi6=true:=by kernel_rfl
def okT (n:Nat) (o:OpD):Prop:= -1≤tgtN o∧tgtN o<n
theorem QrN {w u:AV} {W:Its} {xs:List Int} (hW:Buf τ 7 w (W.map Qi)) (hu:Buf τ 1 u (ivs xs)) (hd:∀ψ,ψ∈famL w→ψ∉famL u) (ht:∀p,p∈W→0≤p.1.a∧0≤p.1.c∧okT xs.length p.1) (hl:W.length≤4294967296)
  (h:∀τ',Buf τ' 7 w ((W.map (QQ xs)).map Qi)→(∀ψ,ψ∉famL w→τ' ψ=τ ψ)→R (.ret (.tup [])) τ'):acall TP Qi0 [w,u] τ R:=by
 refine Qn2 ?_;unfold x91;dsimp only[den,dE,di,tupL,lTup,den2,den3,den4,List.map,den0,den1];have hlen:=Jj hW;rw[show (W.map Qi).length=W.length by simp] at hlen;simp only[hlen,RR];refine QF (fun n x τ'=>∃don rest:Its,W=don++rest∧rest.length=n∧x=(w,u,iv (W.length:Int),iv (don.length:Int),())∧Buf τ' 7 w ((don.map (QQ xs)++rest).map Qi)∧∀ψ,ψ∉famL w→τ' ψ=τ ψ) W.length ⟨[],W,rfl,rfl,rfl,hW,fun _ _=>rfl⟩ ?_;rintro n x τ1 ⟨don,rest,hit,hrl,rfl,hB,hfr⟩ R' hR';cases rest with
 |nil=>
  rw[List.append_nil] at hit;subst hit;rw[List.append_nil] at hB;have g:¬(W.length:Int)<(W.length:Int):=by omega
  simp only[g,RR];exact Qa (h τ1 hB hfr)
 |cons p r=>
  have hi:don.length<W.length:=by rw[hit];simp
  have g:(don.length:Int)<(W.length:Int):=by omega
  have hu1:Buf τ1 1 u (ivs xs):=Jw hu fun ψ hψ=>hfr ψ fun c=>hd ψ c hψ
  have hle:((don.map (QQ xs)++p::r).map Qi).length=W.length:=by rw[hit];simp
  obtain ⟨φ,st,hw,hF⟩:=JU hB (by simp);rw[hle] at hw;subst hw;have hpl:((don.map (QQ xs)).map Qi).length=don.length:=by simp
  have hset:τ1=τ1.set φ ⟨st,7,(don.map (QQ xs)).map Qi++Qi p::r.map Qi⟩:=by
   rw[AH.set_self];rw[hF];simp
  have hrow:((don.map (QQ xs)++p::r).map Qi).getD don.length []=Qn p.1 p.2:=by simp[List.getD]
  obtain ⟨ha0,hc0,hto⟩:=ht p (by rw[hit];simp);have fin:∀(q:OpD × AV) (row:List AV),row=Qi q→q=QQ xs p→R' (.own φ st 0 W.length,u,iv (W.length:Int),iv ((don.length+1:Nat):Int),()) (τ1.set φ ⟨st,7,(don.map (QQ xs)).map Qi++row::r.map Qi⟩):=by
   rintro q row rfl rfl;refine hR' _ _ r.length _ (by rw[←hrl];simp) (.refl _) ⟨don++[p],r,by simp[hit],rfl,by simp;rfl,.inr ⟨φ,st,by rw[hit];simp,by rw[AH.set_same];simp⟩,fun ψ hψ=>?_⟩;rw[AH.set_ne' (by rintro rfl;exact hψ (by simp[famL]))];exact hfr ψ hψ
  have ix:=Jg (st:=st) (off:=0) hF hi;rw[Nat.zero_add] at ix;simp only[g,jn,ix,RR];refine QtS hF rfl hrow ?_;unfold okT tgtN at hto;by_cases c1:p.1.kind=5∨p.1.kind=6
  ·rw[if_pos c1] at hto ⊢;simp only[RR];refine Qs5 QpD ?_;have l1:lod (.ptr φ st don.length 1) τ1=some (iv p.1.a):=Qz hF rfl (by rw[hrow];rfl);obtain ⟨q,q1,q2⟩:=Qor (j:=p.1.a.toNat) hu1 (by omega);rw[Int.toNat_of_nonneg ha0] at q1;simp only[l1,q1,q2,RR];rw[hset];refine Qbv hpl (by omega) rfl ?_;simp only[Qh hi (by omega),RR];exact fin (QQ xs p) _ (by simp[QQ,UK,c1,Qn]) rfl
  rw[if_neg c1] at hto ⊢;by_cases c2:p.1.kind=16
  ·rw[if_pos c2] at hto ⊢;simp only[RR];refine Qs5 QpD ?_;have l1:lod (.ptr φ st don.length 3) τ1=some (iv p.1.c):=Qz hF rfl (by rw[hrow];rfl);obtain ⟨q,q1,q2⟩:=Qor (j:=p.1.c.toNat) hu1 (by omega);rw[Int.toNat_of_nonneg hc0] at q1;simp only[l1,q1,q2,RR];rw[hset];refine Qbv hpl (by omega) rfl ?_;simp only[Qh hi (by omega),RR];exact fin (QQ xs p) _ (by simp[QQ,UK,c2,Qn]) rfl
  rw[if_neg c2] at hto ⊢;simp only[RR];refine QsV QpD ?_;simp only[Qh hi (by omega),RR];rw[hset];exact fin p _ rfl (by simp[QQ,UK,c1,c2])
end
section
set_option maxRecDepth 100000
variable [L:Lam] {σ τ τ':AH} {R:AEnd→AH→Prop}
theorem QrO {sz:Nat} {z row:List AV} {x a:AV} {es:List (List AV)} {k:AV→AH→Prop} (h:Buf τ sz a es) (he:JD sz [z] [(0,x)]=some [row]) (hl:row.length=sz) (ho:∀y,y∈row→y.one=true) (hs:sz≤16777216) (hn:es.length+1≤4294967296)
  (hk:∀a' τ',Buf τ' sz a' (es++[row])→Kp (famL a) τ τ'→(∀ψ,ψ∈famL a'→ψ∈famL a∨τ ψ=none)→k a' τ'):bsl sz z 1 [(0,x)] τ fun v τ=>E.app sz a v τ k:=by
 refine bsl1 he hs fun ψ hψ=>?_
 have hs:AH.Sub τ (τ.set ψ ⟨0,sz,[row]⟩):= .set (.refl τ) _ hψ;have e1:∀c,c∈[row]→c.length=sz:=fun c hc=>by rw[List.mem_singleton.1 hc];exact hl
 have e2:∀c,c∈[row]→∀y,y∈c→y.one=true:=fun c hc=>by rw[List.mem_singleton.1 hc];exact ho
 refine Ui ((Kp.of_sub (F:=[]) hs).buf h fun _ _ c=>by cases c) ael1 e1 e2 (by simpa using hn) fun a' τ' h1 h2 h3=>hk a' τ' h1 ?_ ?_
 ·exact fun χ hχ hn=>by rw[h2 χ hχ (by rw[AH.set_ne' (by rintro rfl;exact hn hψ)];exact hn),AH.set_ne' (by rintro rfl;exact hn hψ)]
 ·exact fun χ hχ=>(h3 χ hχ).imp id hs.none
theorem NewO.kp {v:AV} {its:Its} {F:List Nat} (h:NewO σ τ v its) (k:Kp F τ τ') (hd:∀ψ,ψ∈UT v its→ψ∉F) (hf:∀ψ,ψ∈F→σ ψ=none):NewO σ τ' v its:=
 ⟨k.ops h.own hd,h.nd,h.fr,k.sub h.sub hf⟩
theorem QtT {V A y X X' C w:List Nat} (h:(V++(A++((y++X)++C))).Nodup) (hs:X'.Sublist X) (hw:w.Nodup) (hd:∀ψ,ψ∈w→ψ∉V∧ψ∉A∧ψ∉X'∧ψ∉C):(V++(A++((w++X')++C))).Nodup:=by
 have h0:(V++(A++(X'++C))).Nodup:=h.sublist ((List.Sublist.refl V).append ((List.Sublist.refl A).append ((hs.trans (List.sublist_append_right y X)).append (List.Sublist.refl C))));have hp:(V++(A++((w++X')++C))).Perm (w++(V++(A++(X'++C)))):=List.perm_iff_count.2 fun a=>by simp only[List.count_append];omega
 rw[hp.nodup_iff,Qo];refine ⟨hw,h0,fun x hx c=>?_⟩;obtain ⟨d1,d2,d3,d4⟩:=hd x hx;simp only[List.mem_append] at c;rcases c with c|c|c|c
 ·exact d1 c
 ·exact d2 c
 ·exact d3 c
 ·exact d4 c
theorem NewB.repl {v w:AV} {BA BC:List BI} {b:BI} {W:Its} {τ0:AH} (h:NewB σ τ0 v (BA++b::BC)) (hO:OpsH τ w W) (hsub:(itsF W).Sublist (itsF b.its)) (hw:∀ψ,ψ∈famL w→τ0 ψ=none) (hk:∀ψ,ψ∉famL w→τ0 ψ≠none→τ ψ=τ0 ψ)
  (h1:w.one=true):∃φ st,v= .own φ st 0 (BA.length+(BC.length+1))∧τ0 φ≠none∧(σ φ=none)∧idx 2 v (iv (BA.length:Int)) τ=some (.ptr φ st BA.length 0)∧∀k:AH→Prop,(∀τ',NewB σ τ' v (BA++⟨b.args,w,W⟩::BC)→k τ')→sto 1 (.ptr φ st BA.length 1) w τ k:=by
 obtain ⟨φ,st,hv,hF⟩:=JU h.own.1 (by simp);have hl:((BA++b::BC).map Qc9).length=BA.length+(BC.length+1):=by simp
 have hl':((BA++b::BC).map fun b=>[iv b.args,b.av]).length=BA.length+(BC.length+1):=by simp
 rw[hl'] at hv;subst hv;have hlive:∀ψ,ψ∈Jz (.own φ st 0 (BA.length+(BC.length+1))) (BA++b::BC)→τ0 ψ≠none:=fun ψ hψ=>JV (h.own.live hψ)
 have hφv:φ∈Jz (.own φ st 0 (BA.length+(BC.length+1))) (BA++b::BC):=List.mem_append_left _ (by simp[famL]);have hnd:(famL (.own φ st 0 (BA.length+(BC.length+1)))++(bsF BA++((famL b.av++itsF b.its)++bsF BC))).Nodup:=by
  have:=h.nd;rw[Jz] at this;have e:bsF (BA++b::BC)=bsF BA++((famL b.av++itsF b.its)++bsF BC):=by rw[UZ,UR];rfl
  rw[←e];exact this
 have mem:∀ψ,ψ∈Jz (.own φ st 0 (BA.length+(BC.length+1))) (BA++b::BC)↔ψ=φ∨ψ∈bsF BA∨ψ∈famL b.av∨ψ∈itsF b.its∨ψ∈bsF BC:=by
  intro ψ;have e:bsF (BA++b::BC)=bsF BA++((famL b.av++itsF b.its)++bsF BC):=by rw[UZ,UR];rfl
  have e2:Jz (.own φ st 0 (BA.length+(BC.length+1))) (BA++b::BC)=famL (.own φ st 0 (BA.length+(BC.length+1)))++bsF (BA++b::BC):=rfl;rw[e2,e];simp[famL]
 have hwn:∀ψ,ψ∈famL w→ψ∉Jz (.own φ st 0 (BA.length+(BC.length+1))) (BA++b::BC):=fun ψ hψ c=>hlive ψ c (hw ψ hψ)
 have hφw:φ∉famL w:=fun c=>hwn φ c hφv
 have hFτ:τ φ=some ⟨st,2,(BA++b::BC).map Qc9⟩:=by rw[hk φ hφw (hlive φ hφv)];exact hF
 have ix:=Jg (st:=st) (off:=0) hFτ (show BA.length<BA.length+(BC.length+1) by omega);rw[Nat.zero_add] at ix;refine ⟨φ,st,rfl,hlive φ hφv,h.fr φ hφv,ix,fun k hR=>?_⟩;have hset:τ=τ.set φ ⟨st,2,BA.map Qc9++Qc9 b::BC.map Qc9⟩:=by rw[AH.set_self];rw[hFτ];simp
 rw[hset];refine Qbv (by simp) (by omega) h1 ?_;have er:(Qc9 b).set 1 w=[iv b.args,w]:=rfl;rw[er];have h2:∀ψ,ψ≠φ→(τ.set φ ⟨st,2,BA.map Qc9++[iv b.args,w]::BC.map Qc9⟩) ψ=τ ψ:=fun ψ hψ=>AH.set_ne' hψ
 obtain ⟨_,hnd3,hnd4⟩:=Qo.1 hnd;have keep:∀q,q∈BA++b::BC→q≠b∨True→(q∈BA∨q∈BC)→OpsH (τ.set φ ⟨st,2,BA.map Qc9++[iv b.args,w]::BC.map Qc9⟩) q.av q.its:=by
  intro q hq _ hq2;refine (h.own.2 q hq).keep fun ψ hψ=>?_
  have hm:ψ∈bsF BA∨ψ∈bsF BC:=hq2.imp (fun c=>List.mem_flatMap.2 ⟨q,c,hψ⟩) fun c=>List.mem_flatMap.2 ⟨q,c,hψ⟩
  have hmb:ψ∈Jz (.own φ st 0 (BA.length+(BC.length+1))) (BA++b::BC):=(mem ψ).2 (by rcases hm with c|c<;>simp[c]);have hne:ψ≠φ:=by
   rintro rfl;refine hnd4 ψ (by simp[famL]) ?_;rcases hm with c|c<;>simp[c]
  rw[h2 ψ hne];exact hk ψ (fun c=>hwn ψ c hmb) (hlive ψ hmb)
 refine hR _ ⟨⟨.inr ⟨φ,st,by simp,by rw[AH.set_same];simp⟩,?_⟩,?_,?_,?_⟩
 ·intro q hq;rcases List.mem_append.1 hq with c|c
  ·exact keep q (List.mem_append_left _ c) (.inr trivial) (.inl c)
  rcases List.mem_cons.1 c with rfl|c
  ·refine hO.keep fun ψ hψ=>h2 ψ ?_
   rintro rfl;rcases List.mem_append.1 hψ with c|c
   ·exact hφw c
   ·exact hnd4 ψ (by simp[famL]) (by simp[hsub.subset c])
  ·exact keep q (List.mem_append_right _ (List.mem_cons_of_mem _ c)) (.inr trivial) (.inr c)
 ·have:=QtT hnd hsub (Qae w) fun ψ hψ=>⟨fun c=>?_,fun c=>?_,fun c=>?_,fun c=>?_⟩
  ·have e:Jz (.own φ st 0 (BA.length+(BC.length+1))) (BA++⟨b.args,w,W⟩::BC)=famL (.own φ st 0 (BA.length+(BC.length+1)))++(bsF BA++((famL w++itsF W)++bsF BC)):=by
    have:bsF (BA++⟨b.args,w,W⟩::BC)=bsF BA++((famL w++itsF W)++bsF BC):=by rw[UZ,UR];rfl
    rw[←this];rfl
   rw[e];exact this
  ·obtain rfl:ψ=φ:=by simpa[famL] using c
   exact hφw hψ
  ·exact hwn ψ hψ ((mem ψ).2 (by simp[c]))
  ·exact hwn ψ hψ ((mem ψ).2 (by simp[hsub.subset c]))
  ·exact hwn ψ hψ ((mem ψ).2 (by simp[c]))
 ·intro ψ hψ;have e:Jz (.own φ st 0 (BA.length+(BC.length+1))) (BA++⟨b.args,w,W⟩::BC)=famL (.own φ st 0 (BA.length+(BC.length+1)))++(bsF BA++((famL w++itsF W)++bsF BC)):=by
   have:bsF (BA++⟨b.args,w,W⟩::BC)=bsF BA++((famL w++itsF W)++bsF BC):=by rw[UZ,UR];rfl
   rw[←this];rfl
  rw[e] at hψ;simp only[List.mem_append] at hψ;rcases hψ with c|c|(c|c)|c
  ·exact h.fr ψ ((mem ψ).2 (by simp only[famL,List.mem_singleton] at c;simp[c]))
  ·exact h.fr ψ ((mem ψ).2 (by simp[c]))
  ·exact h.sub.none (hw ψ c)
  ·exact h.fr ψ ((mem ψ).2 (by simp[hsub.subset c]))
  ·exact h.fr ψ ((mem ψ).2 (by simp[c]))
 ·intro ψ G hG;have hn:ψ≠φ:=by rintro rfl;rw[h.fr ψ hφv] at hG;cases hG
  have h0:=h.sub _ _ hG;rw[h2 ψ hn,hk ψ (fun c=>by rw[hw ψ c] at h0;cases h0) (by rw[h0];simp),h0]
end
section
set_option maxRecDepth 100000
variable [L:Lam] {σ τ τ':AH} {R:AEnd→AH→Prop}
theorem QrP {sz i:Nat} {a:AV} {es:List (List AV)} (h:Buf τ sz a es) (hi:i<es.length) (hl:es[i].length=sz):∃p,idx sz a (iv (i:Int)) τ=some p∧lodA sz p τ=some (.agg es[i]):=by
 obtain ⟨φ,st,rfl,hF⟩:=JU h (by rintro rfl;cases hi);have ix:=Jg (st:=st) (off:=0) hF hi;rw[Nat.zero_add] at ix;exact ⟨_,ix,UG hF rfl (List.getElem?_eq_getElem hi) hl⟩
theorem OpsH.av1 {v:AV} {its:Its} (h:OpsH τ v its):v.one=true:=h.1.av1
theorem Qef {B:List BI} {xs ys:List Blk} {y:Blk} (h:cont B=xs++y::ys):∃BA b BC,B=BA++b::BC∧cont BA=xs∧Qxt b=y∧cont BC=ys∧BA.length=xs.length:=by
 have h':B.map Qxt=xs++y::ys:=h;obtain ⟨BA,B2,rfl,h1,h2⟩:=List.map_eq_append_iff.1 h';obtain ⟨b,BC,rfl,h3,h4⟩:=List.map_eq_cons_iff.1 h2;exact ⟨BA,b,BC,rfl,h1,h3,h4,by rw[←h1];simp⟩
end
section
set_option maxRecDepth 100000
variable [L:Lam] {σ τ τ':AH} {R:AEnd→AH→Prop}
set_option maxHeartbeats 1000000 in
theorem Qjy {bs:List Blk} (hl:bs.length≤1048576) (hb:∀b,b∈bs→b.ops.length≤1048576∧∀o,o∈b.ops→o.data.length≤1048576) (h:∀v B τ,cont B=bs→NewB σ τ v B→R (.ret v) τ):acall TP Qhd [roBk bs] σ R:=by
 refine QmO ?_;unfold x82;dsimp only[den,dE,di,tupL,lTup,den2,den3,den4,List.map,den0,den1];refine bsl0 ?_;refine Ua bs.length (fun i x τ=>∃v B,x=(roBk bs,v,iv (i:Int),())∧cont B=bs.take i∧NewB σ τ v B) ⟨.emp,[],rfl,rfl,.emp (.refl σ)⟩ ?_;rintro i _ τ hi ⟨v,B,rfl,hcB,hN⟩ R' hR';simp only[QA,RR];by_cases hlt:i<bs.length
 ·have g:(i:Int)<(bs.length:Int):=by omega
  obtain ⟨hol,hod⟩:=hb _ (List.getElem_mem hlt);have eb:bld [(iv 0),nilS] [(0,1),(1,1)] [(0,iv bs[i].args)]=some (.agg [iv bs[i].args,nilS]):=rfl;simp only[g,Qq hlt Jr,eb,RR,RT];intro φ hφ;refine QH (es:=[[iv 0,nilS]]) (cs:=[iv bs[i].args,nilS]) (by rw[AH.set_same];rfl) (by simp) rfl rfl rfl (one2 rfl rfl) ?_;simp only[List.set_cons_zero,AH.set_set];refine Ua bs[i].ops.length (fun j x τ'=>∃w its,x=(roBk bs,v,iv (i:Int),.ptr φ 0 0 0,iv (j:Int),())∧its.map (·.1)=bs[i].ops.take j∧NewO τ τ' w its∧τ' φ=some ⟨0,2,[[iv bs[i].args,w]]⟩∧φ∉UT w its)
   ⟨nilS,[],rfl,rfl,⟨⟨Qs4,fun p hp=>by cases hp⟩,.nil,(fun ψ c=>by cases c),.set (.refl τ) _ hφ⟩,AH.set_same ..,fun c=>by cases c⟩ ?_
  rintro j _ τ1 hj ⟨w,its,rfl,hits,hO,hF,hφo⟩ R2 hR2;have hil:its.length=j:=by have:=congrArg List.length hits;simpa[Nat.min_eq_left hj] using this
  simp only[Qq hlt Jr,QA,RR,RT];by_cases hlt2:j<bs[i].ops.length
  ·have g2:(j:Int)<(bs[i].ops.length:Int):=by omega
   have hdl:=hod _ (List.getElem_mem hlt2);simp only[g2,Qq hlt2 Q5,Qu (Q5 _),RR];intro χ hχ;refine QH (es:=[[iv 0,iv 0,iv 0,iv 0,iv 0,str ⟨#[]⟩,nilS]]) (cs:=Qk bs[i].ops[j]) (by rw[AH.set_same];rfl) (by simp) rfl rfl rfl (Qdg _) ?_;simp only[List.set_cons_zero,AH.set_set];refine bsl0 ?_;have el:lod (.ptr χ 0 0 6) (τ1.set χ ⟨0,7,[Qk bs[i].ops[j]]⟩)=some (roD bs[i].ops[j].data):=Qz (AH.set_same ..) rfl rfl;simp only[el,RR];refine Ui (es:=[]) (xs:=bs[i].ops[j].data.map Qc) (.inl ⟨.inr rfl,rfl⟩) rfl (by intro c hc;obtain ⟨x,_,rfl⟩:=List.mem_map.1 hc;rfl) (by intro c hc y hy;obtain ⟨x,_,rfl⟩:=List.mem_map.1 hc;exact Q2 x y hy) (by simp;omega) fun a τ2 hA hAk hAf=>?_
   rw[List.nil_append] at hA;have hAs:AH.Sub (τ1.set χ ⟨0,7,[Qk bs[i].ops[j]]⟩) τ2:=hAk.sub (.refl _) fun ψ c=>by cases c
   have hAf:∀ψ,ψ∈famL a→(τ1.set χ ⟨0,7,[Qk bs[i].ops[j]]⟩) ψ=none:=fun ψ hψ=>(hAf ψ hψ).elim (fun c=>by cases c) id
   have hF2:τ2 χ=some ⟨0,7,[Qk bs[i].ops[j]]⟩:=hAs _ _ (AH.set_same ..);refine Q4 hF2 rfl (by decide) (JO hA.av1) hA.av1 ?_;have hφa:χ∉famL a:=fun c=>by have:=hAf χ c;rw[AH.set_same] at this;cases this
   refine ⟨.rop (Qn bs[i].ops[j] a) 0,(τ2.set χ ⟨0,7,[Qn bs[i].ops[j] a]⟩).del χ,.del _ _,.ptr (AH.set_same ..) (AH.del_same ..) rfl (by simp) rfl rfl (fun j hj=> .same _),?_⟩;generalize hτ3:(τ2.set χ ⟨0,7,[Qn bs[i].ops[j] a]⟩).del χ=τ3;have h3:∀ψ,ψ≠χ→τ3 ψ=τ2 ψ:=fun ψ hn=>by rw[←hτ3,AH.del_ne _ hn,AH.set_ne' hn]
   have hs3:AH.Sub τ1 τ3:=fun ψ F hF=>by
    have hn:ψ≠χ:=by rintro rfl;rw[hχ] at hF;cases hF
    rw[h3 ψ hn];exact hAs _ _ (by rw[AH.set_ne' hn];exact hF)
   have hA3:Buf τ3 4 a (bs[i].ops[j].data.map Qc):=Jw hA fun ψ hψ=>h3 ψ (by rintro rfl;exact hφa hψ)
   have hAf1:∀ψ,ψ∈famL a→τ1 ψ=none:=fun ψ hψ=>(AH.set_none.1 (hAf ψ hψ)).2
   have hF3:τ3 φ=some ⟨0,2,[[iv bs[i].args,w]]⟩:=hs3 _ _ hF;have el2:lod (.ptr φ 0 0 1) τ3=some w:=Qz hF3 rfl rfl;simp only[el2,Qu (cs:=Qn bs[i].ops[j] a) (n:=7) rfl,RR];refine (hO.grow hs3).push (p:=(bs[i].ops[j],a)) rfl hA3 (fun ψ hψ c=>?_) (fun ψ hψ=>hO.sub.none (hAf1 ψ hψ)) hA.av1 (by omega) fun w' τ4 hN4 hK4 hf4=>?_
   ·obtain ⟨F,e⟩:=hO.own.live c;rw[hAf1 ψ hψ] at e;cases e
   have hφw:φ∉famL w:=fun c=>hφo (List.mem_append_left _ c)
   have hF4:τ4 φ=some ⟨0,2,[[iv bs[i].args,w]]⟩:=by rw[hK4 φ hφw (by rw[hF3];simp)];exact hF3
   have hφo4:φ∉UT w' (its++[(bs[i].ops[j],a)]):=by
    intro c;rcases List.mem_append.1 c with c|c
    ·rcases hf4 φ c with d|d
     ·exact hφw d
     ·rw[hF3] at d;cases d
    ·rw[J6] at c;rcases List.mem_append.1 c with c|c
     ·exact hφo (List.mem_append_right _ c)
     ·have:φ∈famL a:=by simpa[itsF] using c
      have:=hAf1 φ this;rw[hF] at this;cases this
   refine Q4 hF4 rfl (by decide) (JO hN4.one) hN4.one ?_;simp only[Qh hlt2 (by omega),RR];have hkp:Kp [φ] τ4 (τ4.set φ ⟨0,2,[[iv bs[i].args,w]].set 0 ([iv bs[i].args,w].set 1 w')⟩):=fun ψ hψ _=>AH.set_ne' (by rintro rfl;exact hψ (by simp))
   exact hR2 _ _ _ hlt2 (.refl _) ⟨w',its++[(bs[i].ops[j],a)],rfl,by rw[List.take_succ_eq_append_getElem hlt2,List.map_append,hits];rfl,
    hN4.kp hkp (fun ψ hψ c=>hφo4 (by obtain rfl:ψ=φ:=(by simpa using c);exact hψ)) (fun ψ hψ=>by obtain rfl:ψ=φ:=(by simpa using hψ);exact hφ),AH.set_same ..,hφo4⟩
  ·have g2:¬(j:Int)<(bs[i].ops.length:Int):=by omega
   obtain rfl:j=bs[i].ops.length:=by omega
   rw[List.take_length] at hits;have el3:lodA 2 (.ptr φ 0 0 0) τ1=some (.agg [iv bs[i].args,w]):=UG hF rfl rfl rfl;simp only[g2,el3,RR];have hN1:=hN.grow hO.sub;refine hN1.push (its:=its) rfl hO.own hO.nd (fun ψ hψ c=>?_) (fun ψ hψ=>hN.sub.none (hO.fr ψ hψ)) hO.one ?_ fun v' τ4 hN4=>?_
   ·obtain ⟨F,e⟩:=hN.own.live c;rw[hO.fr ψ hψ] at e;cases e
   ·have:=congrArg List.length hcB;simp[cont] at this;omega
   simp only[Qh hlt (by omega),RR];refine hR' _ _ _ hlt (.refl _) ⟨v',B++[⟨bs[i].args,w,its⟩],rfl,?_,hN4⟩;rw[List.take_succ_eq_append_getElem hlt,cont,List.map_append,←cont,hcB];simp only[List.map_cons,List.map_nil,hits]
 ·have g:¬(i:Int)<(bs.length:Int):=by omega
  obtain rfl:i=bs.length:=by omega
  rw[List.take_length] at hcB;simp only[g,RR];exact Qa (h v B τ hcB hN)
end
section
set_option maxRecDepth 100000
variable [L:Lam] {σ τ τ':AH} {R:AEnd→AH→Prop}
set_option maxHeartbeats 1000000 in
theorem QpE {w u:AV} {W:Its} {xs:List Int} (hW:Buf τ 7 w (W.map Qi)) (hu:Buf τ 1 u (ivs xs)) (hd:∀ψ,ψ∈famL w→ψ∉famL u) (ht:∀p,p∈W→0≤p.1.a∧0≤p.1.c∧okT xs.length p.1) (hl:W.length≤4294967296)
  (h:∀τ',Buf τ' 7 w ((W.map (QQ xs)).map Qi)→(∀ψ,ψ∉famL w→τ' ψ=τ ψ)→R (.ret w) τ'):acall TP QfY [w,u] τ R:=by
 refine QlJ ?_;unfold x115;dsimp only[den,dE,di,tupL,lTup,den2,den3,den4,List.map,den0,den1];have hlen:=Jj hW;rw[show (W.map Qi).length=W.length by simp] at hlen;refine QF (fun n x τ'=>∃don rest:Its,W=don++rest∧rest.length=n∧x=(w,u,iv (don.length:Int),())∧Buf τ' 7 w ((don.map (QQ xs)++rest).map Qi)∧∀ψ,ψ∉famL w→τ' ψ=τ ψ) W.length ⟨[],W,rfl,rfl,rfl,hW,fun _ _=>rfl⟩ ?_;rintro n x τ1 ⟨don,rest,hit,hrl,rfl,hB,hfr⟩ R' hR';simp only[hlen,RR];cases rest with
 |nil=>
  rw[List.append_nil] at hit;subst hit;rw[List.append_nil] at hB;have g:¬(W.length:Int)<(W.length:Int):=by omega
  simp only[g,RR];exact Qa (h τ1 hB hfr)
 |cons p r=>
  have hi:don.length<W.length:=by rw[hit];simp
  have g:(don.length:Int)<(W.length:Int):=by omega
  have hu1:Buf τ1 1 u (ivs xs):=Jw hu fun ψ hψ=>hfr ψ fun c=>hd ψ c hψ
  have hle:((don.map (QQ xs)++p::r).map Qi).length=W.length:=by rw[hit];simp
  obtain ⟨φ,st,hw,hF⟩:=JU hB (by simp);rw[hle] at hw;subst hw;have hpl:((don.map (QQ xs)).map Qi).length=don.length:=by simp
  have hset:τ1=τ1.set φ ⟨st,7,(don.map (QQ xs)).map Qi++Qi p::r.map Qi⟩:=by
   rw[AH.set_self];rw[hF];simp
  have hrow:((don.map (QQ xs)++p::r).map Qi).getD don.length []=Qn p.1 p.2:=by simp[List.getD]
  obtain ⟨ha0,hc0,hto⟩:=ht p (by rw[hit];simp);have fin:∀(q:OpD × AV) (row:List AV),row=Qi q→q=QQ xs p→R' (.own φ st 0 W.length,u,iv ((don.length+1:Nat):Int),()) (τ1.set φ ⟨st,7,(don.map (QQ xs)).map Qi++row::r.map Qi⟩):=by
   rintro q row rfl rfl;refine hR' _ _ r.length _ (by rw[←hrl];simp) (.refl _) ⟨don++[p],r,by simp[hit],rfl,by simp;rfl,.inr ⟨φ,st,by rw[hit];simp,by rw[AH.set_same];simp⟩,fun ψ hψ=>?_⟩;rw[AH.set_ne' (by rintro rfl;exact hψ (by simp[famL]))];exact hfr ψ hψ
  have ix:=Jg (st:=st) (off:=0) hF hi;rw[Nat.zero_add] at ix;have l0:lod (.ptr φ st don.length 0) τ1=some (iv p.1.kind):=Qz hF rfl (by rw[hrow];rfl);simp only[g,jn,ix,l0,RR];unfold okT tgtN at hto;by_cases c1:p.1.kind=5∨p.1.kind=6
  ·rw[if_pos c1] at hto;have l1:lod (.ptr φ st don.length 1) τ1=some (iv p.1.a):=Qz hF rfl (by rw[hrow];rfl);obtain ⟨q,q1,q2⟩:=Qor (j:=p.1.a.toNat) hu1 (by omega);rw[Int.toNat_of_nonneg ha0] at q1;have goal:∀K:AH→Prop,(K (τ1.set φ ⟨st,7,(don.map (QQ xs)).map Qi++(Qi p).set 1 (iv (atH xs p.1.a.toNat))::r.map Qi⟩))→sto 1 (.ptr φ st don.length 1) (iv (atH xs p.1.a.toNat)) τ1 K:=by
    intro K hK;rw[hset];refine Qbv hpl (by omega) rfl ?_;exact hK
   have fin1:=fin (QQ xs p) ((Qi p).set 1 (iv (atH xs p.1.a.toNat))) (by simp[QQ,UK,c1,Qn]) rfl;by_cases c5:p.1.kind=5
   ·simp only[c5,Int.reduceEq,l1,q1,q2,ix,RR];refine goal _ ?_;simp only[Qh hi (by omega),RR];exact fin1
   ·have c6:p.1.kind=6:=c1.resolve_left c5;simp only[c6,Int.reduceEq,l1,q1,q2,ix,RR];refine goal _ ?_;simp only[Qh hi (by omega),RR];exact fin1
  have n5:¬p.1.kind=5:=fun c=>c1 (.inl c)
  have n6:¬p.1.kind=6:=fun c=>c1 (.inr c)
  rw[if_neg c1] at hto;by_cases c2:p.1.kind=16
  ·rw[if_pos c2] at hto;have l1:lod (.ptr φ st don.length 3) τ1=some (iv p.1.c):=Qz hF rfl (by rw[hrow];rfl);obtain ⟨q,q1,q2⟩:=Qor (j:=p.1.c.toNat) hu1 (by omega);rw[Int.toNat_of_nonneg hc0] at q1;simp only[c2,Int.reduceEq,l1,q1,q2,ix,RR];rw[hset];refine Qbv hpl (by omega) rfl ?_;simp only[Qh hi (by omega),RR];exact fin (QQ xs p) _ (by simp[QQ,UK,c2,Qn]) rfl
  simp only[n5,n6,c2,Qh hi (by omega),RR];rw[hset];exact fin p _ rfl (by simp[QQ,UK,c1,c2])
end
section
set_option maxRecDepth 100000
variable [L:Lam] {σ τ τ':AH} {R:AEnd→AH→Prop}
def hasB (tab bit:Int):Bool:=decide ((tab / bit) % 2=1)
def twoD (tab:Int) (o p:OpD):Option OpD:=
 if o.kind=1∧p.kind=12∧hasB tab 1=true then some ⟨13,0,0,0,0,⟨#[]⟩,o.data⟩
 else if o.kind=2∧p.kind=12∧hasB tab 2=true then some ⟨14,o.a,o.b,0,0,⟨#[]⟩,[]⟩
 else if o.kind=2∧p.kind=2∧hasB tab 4=true then some ⟨15,o.a,o.b,p.a,p.b,⟨#[]⟩,[]⟩
 else if o.kind=2∧p.kind=6∧hasB tab 8=true then some ⟨16,o.a,o.b,p.a,0,⟨#[]⟩,[]⟩ else none
def twoA (p:OpD × AV):AV:=if p.1.kind=1 then p.2 else nilS
def UL (tab:Int) (T:Nat→Bool):Nat→List OpD→List OpD
 |_,[]=>[]
 |_,[p]=>[p]
 |k,p::q::r=>match T (k+1),twoD tab p q with
  |false,some o=>o::UL tab T (k+2) r
  |_,_=>p::UL tab T (k+1) (q::r)
def Q7 (tab:Int) (T:Nat→Bool):Nat→Its→Its
 |_,[]=>[]
 |_,[p]=>[p]
 |k,p::q::r=>match T (k+1),twoD tab p.1 q.1 with
  |false,some o=>(o,twoA p)::Q7 tab T (k+2) r
  |_,_=>p::Q7 tab T (k+1) (q::r)
def plF (tab:Int) (T:Nat→Bool) (z:Int→Int):Nat→Int→List OpD→List Int
 |_,_,[]=>[]
 |_,m,[_]=>[m]
 |k,m,p::q::r=>match T (k+1),twoD tab p q with
  |false,some _=>m::z m::plF tab T z (k+2) (m+1) r
  |_,_=>m::plF tab T z (k+1) (m+1) (q::r)
theorem QkS (tab:Int) (T:Nat→Bool):∀(n k:Nat) (its:Its),its.length≤n→(Q7 tab T k its).map (·.1)=UL tab T k (its.map (·.1)):=by
 intro n
 induction n with
 |zero=>intro k its h;cases its with|nil=>rfl|cons=>simp at h
 |succ n ih=>
  intro k its h;match its,h with
  |[],_=>rfl
  |[p],_=>rfl
  |p::q::r,h=>
   simp only[Q7,UL,List.map_cons];split
   ·rename_i o h1 h2;simp only[List.map_cons];rw[ih (k+2) r (by simp at h;omega)]
   ·simp only[List.map_cons];rw[ih (k+1) (q::r) (by simp at h ⊢;omega)];rfl
theorem QiJ (p:OpD × AV):(famL (twoA p)).Sublist (famL p.2):=by
 unfold twoA;split
 ·exact .refl _
 ·simp[famL]
theorem Qgu (tab:Int) (T:Nat→Bool):∀(n k:Nat) (its:Its),its.length≤n→(itsF (Q7 tab T k its)).Sublist (itsF its):=by
 intro n
 induction n with
 |zero=>intro k its h;cases its with|nil=>exact .slnil|cons=>simp at h
 |succ n ih=>
  intro k its h;match its,h with
  |[],_=>exact .slnil
  |[p],_=>exact .refl _
  |p::q::r,h=>
   simp only[Q7];split
   ·rename_i o h1 h2;rw[Ub,Ub,Ub];exact (QiJ p).append ((ih (k+2) r (by simp at h;omega)).trans (List.sublist_append_right _ _))
   ·rw[Ub,Ub];exact (List.Sublist.refl _).append (ih (k+1) (q::r) (by simp at h ⊢;omega))
theorem Qqk {tab:Int} {o p q:OpD} (h:twoD tab o p=some q):q.data=(if o.kind=1 then o.data else [])∧q.name=⟨#[]⟩:=by
 unfold twoD at h;split at h
 ·rename_i c;cases h;rw[if_pos c.1];exact ⟨rfl,rfl⟩
 split at h
 ·rename_i c;cases h;rw[if_neg (by omega)];exact ⟨rfl,rfl⟩
 split at h
 ·rename_i c;cases h;rw[if_neg (by omega)];exact ⟨rfl,rfl⟩
 split at h
 ·rename_i c;cases h;rw[if_neg (by omega)];exact ⟨rfl,rfl⟩
 ·cases h
theorem QrQ {tab:Int} {p:OpD × AV} {q o:OpD} (h:twoD tab p.1 q=some o) (hb:Buf τ 4 p.2 (p.1.data.map Qc)):Buf τ 4 (twoA p) (o.data.map Qc):=by
 rw[(Qqk h).1];unfold twoA;split
 ·exact hb
 ·exact Qs4
theorem QrR {p:OpD × AV} (h:p.2.one=true):(twoA p).one=true:=by
 unfold twoA;split
 ·exact h
 ·rfl
theorem Qs6 (tab:Int) (T:Nat→Bool) (z:Int→Int):∀(n k:Nat) (m:Int) (os:List OpD),os.length≤n→(plF tab T z k m os).length=os.length:=by
 intro n
 induction n with
 |zero=>intro k m os h;cases os with|nil=>rfl|cons=>simp at h
 |succ n ih=>
  intro k m os h;match os,h with
  |[],_=>rfl
  |[p],_=>rfl
  |p::q::r,h=>
   simp only[plF];split
   ·simp only[List.length_cons];rw[ih _ _ r (by simp at h;omega)]
   ·simp only[List.length_cons];rw[ih _ _ (q::r) (by simp at h ⊢;omega)];rfl
theorem QwI (tab:Int) (T:Nat→Bool) (z z':Int→Int):∀(n k:Nat) (m:Int) (os:List OpD),os.length≤n→∀j,(j=0∨T (k+j)=true)→atH (plF tab T z k m os) j=atH (plF tab T z' k m os) j:=by
 intro n
 induction n with
 |zero=>intro k m os h;cases os with|nil=>intro j _;rfl|cons=>simp at h
 |succ n ih=>
  intro k m os h j hj;match os,h with
  |[],_=>rfl
  |[p],_=>rfl
  |p::q::r,h=>
   simp only[plF];split
   ·rename_i o h1 h2;match j with
    |0=>rfl
    |1=>
     rcases hj with c|c
     ·cases c
     ·rw[h1] at c;cases c
    |j+2=>
     have:=ih (k+2) (m+1) r (by simp at h;omega) j (by
      rcases hj with c|c
      ·cases c
      ·right;rw[show k+2+j=k+(j+2) by omega];exact c)
     simpa[atH] using this
   ·match j with
    |0=>rfl
    |j+1=>
     have:=ih (k+1) (m+1) (q::r) (by simp at h ⊢;omega) j (by
      rcases hj with c|c
      ·cases c
      ·right;rw[show k+1+j=k+(j+1) by omega];exact c)
     simpa[atH] using this
theorem QzH {n:Nat} {tab:Int} {o p q:OpD} (h1:smO o) (h2:smO p) (ht:tgtN p<n) (h:twoD tab o p=some q):0≤q.a∧0≤q.c∧okT n q∧(0≤tgtN q→tgtN q=tgtN p):=by
 obtain ⟨a1,a2,a3,a4,a5,a6,a7,a8⟩:=h1;obtain ⟨b1,b2,b3,b4,b5,b6,b7,b8⟩:=h2;unfold tgtN at ht;unfold twoD at h;unfold okT;split at h
 ·cases h;simp[tgtN];omega
 split at h
 ·cases h;simp[tgtN];omega
 split at h
 ·cases h;simp[tgtN];omega
 split at h
 ·rename_i c;cases h;rw[if_pos (by omega)] at ht;simp[tgtN,c.2.1];omega
 ·cases h
theorem Qni (tab:Int) (T:Nat→Bool) (N:Nat):∀(n k:Nat) (os:List OpD),os.length≤n→smB os→(∀o,o∈os→tgtN o<N)→∀q,q∈UL tab T k os→0≤q.a∧0≤q.c∧okT N q∧(0≤tgtN q→∃o,o∈os∧tgtN o=tgtN q):=by
 intro n
 induction n with
 |zero=>intro k os h;cases os with|nil=>intro _ _ q hq;cases hq|cons=>simp at h
 |succ n ih=>
  intro k os h hs ht q hq;have self:∀o,o∈os→0≤o.a∧0≤o.c∧okT N o:=fun o ho=>by
   obtain ⟨a1,a2,a3,a4,a5,a6,a7,a8⟩:=hs o ho;refine ⟨a1,a5,?_,ht o ho⟩;unfold tgtN;repeat' split<;>omega
  match os,h,hs,ht,self,hq with
  |[],_,_,_,_,hq=>cases hq
  |[p],_,hs,ht,self,hq=>
   obtain rfl:q=p:=by simpa[UL] using hq
   obtain ⟨s1,s2,s3⟩:=self q (by simp);exact ⟨s1,s2,s3,fun _=>⟨q,by simp,rfl⟩⟩
  |p::p2::r,h,hs,ht,self,hq=>
   simp only[UL] at hq;split at hq
   ·rename_i o h1 h2;rcases List.mem_cons.1 hq with rfl|hq
    ·obtain ⟨t1,t2,t3,t4⟩:=QzH (n:=N) (hs p (by simp)) (hs p2 (by simp)) (ht p2 (by simp)) h2;exact ⟨t1,t2,t3,fun c=>⟨p2,by simp,(t4 c).symm⟩⟩
    ·obtain ⟨s1,s2,s3,s4⟩:=ih (k+2) r (by simp at h;omega) (fun o ho=>hs o (by simp[ho])) (fun o ho=>ht o (by simp[ho])) q hq;exact ⟨s1,s2,s3,fun c=>by obtain ⟨o,ho,e⟩:=s4 c;exact ⟨o,by simp[ho],e⟩⟩
   ·rcases List.mem_cons.1 hq with rfl|hq
    ·obtain ⟨s1,s2,s3⟩:=self q (by simp);exact ⟨s1,s2,s3,fun _=>⟨q,by simp,rfl⟩⟩
    ·obtain ⟨s1,s2,s3,s4⟩:=ih (k+1) (p2::r) (by simp at h ⊢;omega) (fun o ho=>hs o (by simp at ho ⊢;rcases ho with rfl|ho<;>simp[*])) (fun o ho=>ht o (by simp at ho ⊢;rcases ho with rfl|ho<;>simp[*])) q hq;exact ⟨s1,s2,s3,fun c=>by obtain ⟨o,ho,e⟩:=s4 c;exact ⟨o,by simp at ho ⊢;rcases ho with rfl|ho<;>simp[*],e⟩⟩
def isT (os:List OpD) (t:Nat):Bool:=os.any fun o=>decide (tgtN o=(t:Int))
def fusO (tab:Int) (os:List OpD):List OpD:=(UL tab (isT os) 0 os).map (UK (plF tab (isT os) (fun m=>m) 0 0 os))
theorem QtU {xs ys:List Int} {o:OpD} (h:0≤tgtN o→atH xs (tgtN o).toNat=atH ys (tgtN o).toNat) (h0:0≤o.a) (h2:0≤o.c):UK xs o=UK ys o:=by
 unfold tgtN at h;unfold UK;split
 ·rename_i c;rw[if_pos c] at h;rw[h h0]
 ·rename_i c;rw[if_neg c] at h;split
  ·rename_i c2;rw[if_pos c2] at h;rw[h h2]
  ·rfl
theorem QwJ (tab:Int) (z:Int→Int) {os:List OpD} (hs:smB os) (ht:∀o,o∈os→tgtN o<os.length):(UL tab (isT os) 0 os).map (UK (plF tab (isT os) z 0 0 os))=fusO tab os:=by
 refine List.map_congr_left fun q hq=>?_
 obtain ⟨h1,h2,h3,h4⟩:=Qni tab (isT os) os.length os.length 0 os (Nat.le_refl _) hs ht q hq;refine QtU (fun c=>?_) h1 h2;refine QwI tab (isT os) z _ os.length 0 0 os (Nat.le_refl _) _ (.inr ?_);obtain ⟨o,ho,e⟩:=h4 c;unfold isT;rw[List.any_eq_true];exact ⟨o,ho,decide_eq_true (by rw[e,Nat.zero_add];omega)⟩
end
section
set_option maxRecDepth 100000
variable [L:Lam] {σ τ τ':AH} {R:AEnd→AH→Prop}
theorem QwK {x y:AV} {xs ys z:List AV} {n m k0:Nat} {k:AV→AV→AV→AH→Prop} (hx:JF x=some xs) (hy:JF y=some ys) (h:∀φ,σ φ=none→k (.rop xs 0) (.rop ys 0) (.ptr φ 0 0 0) (σ.set φ ⟨0,z.length,[z]⟩)):
  abox x σ fun v3 σ=>abox y σ fun v4 σ=>new z σ fun v6 σ=>frz v3 σ fun f3 σ=>frz v4 σ fun f4 σ=>k f3 f4 v6 σ:=by
 unfold abox;rw[hx];simp only[];intro φ3 h3;rw[hy];simp only[];intro φ4 h4 φ6 h6;rw[AH.set_none] at h4 h6;rw[AH.set_none] at h6;have e:((σ.set φ3 ⟨0,xs.length,[xs]⟩).set φ4 ⟨0,ys.length,[ys]⟩).set φ6 ⟨0,z.length,[z]⟩=((σ.set φ6 ⟨0,z.length,[z]⟩).set φ4 ⟨0,ys.length,[ys]⟩).set φ3 ⟨0,xs.length,[xs]⟩:=by
  rw[AH.set_comm (σ.set φ3 ⟨0,xs.length,[xs]⟩) _ _ (Ne.symm h6.1),AH.set_comm σ _ _ (Ne.symm h6.2.1),AH.set_comm _ _ _ (Ne.symm h4.1)]
 rw[e];refine QK (AH.set_none.2 ⟨Ne.symm h4.1,AH.set_none.2 ⟨Ne.symm h6.2.1,h3⟩⟩) rfl ?_;refine QK (AH.set_none.2 ⟨Ne.symm h6.1,h4.2⟩) rfl ?_;exact h φ6 h6.2.2
theorem Qll {tab bit:Int} (h0:0≤tab) (h1:tab≤15) (hb:bit=1∨bit=2∨bit=4∨bit=8):∃v,ibin .and (iv tab) (.val (.int .i64 bit))=some (iv v)∧decide (v=0)= !hasB tab bit:=by
 have:tab=0∨tab=1∨tab=2∨tab=3∨tab=4∨tab=5∨tab=6∨tab=7∨tab=8∨tab=9∨tab=10∨tab=11∨tab=12∨tab=13∨tab=14∨tab=15:=by omega
 rcases hb with rfl|rfl|rfl|rfl<;>rcases this with rfl|rfl|rfl|rfl|rfl|rfl|rfl|rfl|rfl|rfl|rfl|rfl|rfl|rfl|rfl|rfl<;>exact ⟨_,rfl,by decide⟩
theorem fin7 {φ:Nat} {z cs:List AV} {ok:Bool} (hF:τ φ=some ⟨0,7,[z]⟩) (hz:z.length=7) (hc:cs.length=7) (h1:∀y,y∈cs→y.one=true) (h:aret (.tup [.agg cs,bv ok]) (τ.set φ ⟨0,7,[cs]⟩) R):
  sto 7 (.ptr φ 0 0 0) (.agg cs) τ fun σ=>og (lodA 7 (.ptr φ 0 0 0) σ) fun r=>aret (.tup [r,bv ok]) σ R:=by
 refine QH (es:=[z]) (cs:=cs) hF (by simp) (by simpa using hz) rfl hc h1 ?_;simp only[List.set_cons_zero];have e:=UG (σ:=τ.set φ ⟨0,7,[cs]⟩) (φ:=φ) (st:=0) (i:=0) (n:=7) (cs:=cs) (AH.set_same ..) rfl rfl hc;rw[e];exact h
theorem Qos {a:AV} {es:List (List AV)} {o:OpD} (h:Buf τ 4 a es):bld [(iv 0),(iv 0),(iv 0),(iv 0),(iv 0),(.val (.string ⟨#[]⟩)),nilS] [(0,1),(1,1),(2,1),(3,1),(4,1),(5,1),(6,1)] [(0,(iv 13)),(6,a)]=some (.agg (Qn ⟨13,0,0,0,0,⟨#[]⟩,o.data⟩ a)):=by
 rcases h with ⟨rfl|rfl,_⟩|⟨φ,st,rfl,_⟩<;>rfl
structure TwoR (tab:Int) (p q:OpD × AV) (row:List AV) (ok:Bool):Prop where
 len:row.length=7
 one:∀y,y∈row→y.one=true
 yes:∀o,twoD tab p.1 q.1=some o→ok=true∧row=Qi (o,twoA p)
 no:twoD tab p.1 q.1=none→ok=false
set_option maxHeartbeats 2000000 in
theorem QsC {p q:OpD × AV} {tab:Int} (h0:0≤tab) (h1:tab≤15) (hp:Buf σ 4 p.2 (p.1.data.map Qc)) (h:∀row ok,TwoR tab p q row ok→R (.ret (.tup [.agg row,bv ok])) σ):acall TP QjZ [.agg (Qi p),.agg (Qi q),iv tab] σ R:=by
 obtain ⟨v1,e1,g1⟩:=Qll h0 h1 (bit:=1) (by simp);obtain ⟨v2,e2,g2⟩:=Qll h0 h1 (bit:=2) (by simp);obtain ⟨v4,e4,g4⟩:=Qll h0 h1 (bit:=4) (by simp);obtain ⟨v8,e8,g8⟩:=Qll h0 h1 (bit:=8) (by simp);have ha1:=hp.av1;refine Qph ?_;unfold x90;dsimp only[den,dE,di,List.map,den0,den1];refine QwK (n:=7) (m:=7) (k0:=7) rfl rfl fun φ hφ=>?_
 have hF:=AH.set_same σ φ (⟨0,7,[[(AV.val (.int .i64 0)),(iv 0),(iv 0),(iv 0),(iv 0),(.val (.string ⟨#[]⟩)),nilS]]⟩:Fam);have fin:∀(cs:List AV) (ok:Bool),TwoR tab p q cs ok→sto 7 (.ptr φ 0 0 0) (.agg cs) (σ.set φ ⟨0,7,[[(AV.val (.int .i64 0)),(iv 0),(iv 0),(iv 0),(iv 0),(.val (.string ⟨#[]⟩)),nilS]]⟩) fun σ=>og (lodA 7 (.ptr φ 0 0 0) σ) fun r=>aret (.tup [r,bv ok]) σ R:=fun cs ok ht=>
  fin7 hF rfl ht.len ht.one (Uk (by rw[AH.set_set];exact .set (.refl σ) _ hφ) (h cs ok ht))
 have k0:∀τ,lod (.rop (Qi p) 0) τ=some (iv p.1.kind):=fun _=>rfl
 have k1:∀τ,lod (.rop (Qi p) 1) τ=some (iv p.1.a):=fun _=>rfl
 have k2:∀τ,lod (.rop (Qi p) 2) τ=some (iv p.1.b):=fun _=>rfl
 have k6:∀τ,lod (.rop (Qi p) 6) τ=some p.2:=fun _=>rfl
 have q0:∀τ,lod (.rop (Qi q) 0) τ=some (iv q.1.kind):=fun _=>rfl
 have q1:∀τ,lod (.rop (Qi q) 1) τ=some (iv q.1.a):=fun _=>rfl
 have q2:∀τ,lod (.rop (Qi q) 2) τ=some (iv q.1.b):=fun _=>rfl
 have b13:=Qos (o:=p.1) hp;have b14:bld [(iv 0),(iv 0),(iv 0),(iv 0),(iv 0),(.val (.string ⟨#[]⟩)),nilS] [(0,1),(1,1),(2,1),(3,1),(4,1),(5,1),(6,1)] [(0,(iv 14)),(1,iv p.1.a),(2,iv p.1.b)]=some (.agg (Qn ⟨14,p.1.a,p.1.b,0,0,⟨#[]⟩,[]⟩ nilS)):=rfl;have b15:bld [(iv 0),(iv 0),(iv 0),(iv 0),(iv 0),(.val (.string ⟨#[]⟩)),nilS] [(0,1),(1,1),(2,1),(3,1),(4,1),(5,1),(6,1)] [(0,(iv 15)),(1,iv p.1.a),(2,iv p.1.b),(3,iv q.1.a),(4,iv q.1.b)]=some (.agg (Qn ⟨15,p.1.a,p.1.b,q.1.a,q.1.b,⟨#[]⟩,[]⟩ nilS)):=rfl;have b16:bld [(iv 0),(iv 0),(iv 0),(iv 0),(iv 0),(.val (.string ⟨#[]⟩)),nilS] [(0,1),(1,1),(2,1),(3,1),(4,1),(5,1),(6,1)] [(0,(iv 16)),(1,iv p.1.a),(2,iv p.1.b),(3,iv q.1.a)]=some (.agg (Qn ⟨16,p.1.a,p.1.b,q.1.a,0,⟨#[]⟩,[]⟩ nilS)):=rfl;have bz:bld [(iv 0),(iv 0),(iv 0),(iv 0),(iv 0),(.val (.string ⟨#[]⟩)),nilS] [(0,1),(1,1),(2,1),(3,1),(4,1),(5,1),(6,1)] []=some (.agg (Qn ⟨0,0,0,0,0,⟨#[]⟩,[]⟩ nilS)):=rfl;have no:twoD tab p.1 q.1=none→TwoR tab p q (Qn ⟨0,0,0,0,0,⟨#[]⟩,[]⟩ nilS) false:=fun hn=>⟨rfl,one7 rfl,(fun o ho=>by rw[hn] at ho;cases ho),fun _=>rfl⟩
 have yes:∀o a,twoD tab p.1 q.1=some o→a=twoA p→a.one=true→TwoR tab p q (Qn o a) true:=fun o a ho ha ha1=>⟨rfl,one7 ha1,(fun o' ho'=>by rw[ho] at ho';cases ho';subst ha;exact ⟨rfl,rfl⟩),fun hn=>by rw[ho] at hn;cases hn⟩
 have big:∀X:Prop,(∀(c1:Bool) (d12 d2 d6:Bool),X)→X:=fun X hX=>hX true true true true
 by_cases a1:p.1.kind=1
 ·have a2:¬p.1.kind=2:=by omega
  by_cases a12:q.1.kind=12
  ·cases hb:hasB tab 1
   ·have hn:twoD tab p.1 q.1=none:=by unfold twoD;simp[a1,a12,hb]
    rw[hb] at g1;simp only[k0,q0,a1,a12,e1,g1,Int.reduceEq,bz,RR];exact fin _ _ (no hn)
   ·have hn:twoD tab p.1 q.1=some ⟨13,0,0,0,0,⟨#[]⟩,p.1.data⟩:=by unfold twoD;simp[a1,a12,hb]
    rw[hb] at g1;simp only[k0,k6,q0,a1,a12,e1,g1,Int.reduceEq,b13,RR];exact fin _ _ (yes _ _ hn (by unfold twoA;rw[if_pos a1]) ha1)
  ·have hn:twoD tab p.1 q.1=none:=by unfold twoD;simp[a1,a12]
   simp only[k0,q0,a1,a12,Int.reduceEq,bz,RR];exact fin _ _ (no hn)
 by_cases a2:p.1.kind=2
 ·have tA:nilS=twoA p:=by unfold twoA;rw[if_neg a1]
  by_cases a12:q.1.kind=12
  ·cases hb:hasB tab 2
   ·have hn:twoD tab p.1 q.1=none:=by unfold twoD;simp[a2,a12,hb]
    rw[hb] at g2;simp only[k0,q0,a2,a12,e2,g2,Int.reduceEq,bz,RR];exact fin _ _ (no hn)
   ·have hn:twoD tab p.1 q.1=some ⟨14,p.1.a,p.1.b,0,0,⟨#[]⟩,[]⟩:=by unfold twoD;simp[a2,a12,hb]
    rw[hb] at g2;simp only[k0,k1,k2,q0,a2,a12,e2,g2,Int.reduceEq,b14,RR];exact fin _ _ (yes _ _ hn tA rfl)
  by_cases a22:q.1.kind=2
  ·cases hb:hasB tab 4
   ·have hn:twoD tab p.1 q.1=none:=by unfold twoD;simp[a2,a22,hb]
    rw[hb] at g4;simp only[k0,q0,a2,a22,e4,g4,Int.reduceEq,bz,RR];exact fin _ _ (no hn)
   ·have hn:twoD tab p.1 q.1=some ⟨15,p.1.a,p.1.b,q.1.a,q.1.b,⟨#[]⟩,[]⟩:=by unfold twoD;simp[a2,a22,hb]
    rw[hb] at g4;simp only[k0,k1,k2,q0,q1,q2,a2,a22,e4,g4,Int.reduceEq,b15,RR];exact fin _ _ (yes _ _ hn tA rfl)
  by_cases a6:q.1.kind=6
  ·cases hb:hasB tab 8
   ·have hn:twoD tab p.1 q.1=none:=by unfold twoD;simp[a2,a6,hb]
    rw[hb] at g8;simp only[k0,q0,a2,a6,e8,g8,Int.reduceEq,bz,RR];exact fin _ _ (no hn)
   ·have hn:twoD tab p.1 q.1=some ⟨16,p.1.a,p.1.b,q.1.a,0,⟨#[]⟩,[]⟩:=by unfold twoD;simp[a2,a6,hb]
    rw[hb] at g8;simp only[k0,k1,k2,q0,q1,a2,a6,e8,g8,Int.reduceEq,b16,RR];exact fin _ _ (yes _ _ hn tA rfl)
  have hn:twoD tab p.1 q.1=none:=by unfold twoD;simp[a2,a12,a22,a6]
  simp only[k0,q0,a2,a12,a22,a6,Int.reduceEq,bz,RR];exact fin _ _ (no hn)
 have hn:twoD tab p.1 q.1=none:=by unfold twoD;simp[a1,a2]
 simp only[k0,a1,a2,bz,RR];exact fin _ _ (no hn)
theorem QbE {tab bit:Int} (h0:0≤tab) (h1:tab≤15) (hb:bit=1∨bit=2∨bit=4∨bit=8) (h:R (.ret (bv (hasB tab bit))) σ):acall TP Qhm [iv tab,.val (.int .i64 bit)] σ R:=by
 refine QmY ?_;unfold x152;dsimp only[den,dE,di,List.map,den0,den1];unfold hasB at h;have e1:ibin .quo (iv tab) (.val (.int .i64 bit))=some (iv (tab / bit)):=by
  rcases hb with rfl|rfl|rfl|rfl
  all_goals
   show some (iv (IntKind.i64.wrap (tab.tdiv _)))=_;rw[Int.tdiv_eq_ediv_of_nonneg h0,QbK (by omega) (by omega)]
 have hq:0≤tab / bit:=by rcases hb with rfl|rfl|rfl|rfl<;>omega
 have e2:ibin .rem (iv (tab / bit)) (iv 2)=some (iv (tab / bit % 2)):=by
  show some (iv ((tab / bit).tmod 2))=_;rw[Int.tmod_eq_emod_of_nonneg hq]
 simp only[e1,e2,RR];exact Qa h
end
section
set_option maxRecDepth 100000
variable [L:Lam] {σ τ τ':AH} {R:AEnd→AH→Prop}
set_option maxHeartbeats 2000000 in
theorem QqL {p q:OpD × AV} {tab:Int} {φ st i j:Nat} {F:Fam} (h0:0≤tab) (h1:tab≤15) (hF:σ φ=some F) (hst:F.st=st) (hi:F.es[i]? =some (Qi p)) (hj:F.es[j]? =some (Qi q)) (hp:Buf σ 4 p.2 (p.1.data.map Qc))
  (h:∀row ok,TwoR tab p q row ok→R (.ret (.tup [.agg row,bv ok])) σ):acall TP Qhe [.ptr φ st i 0,.ptr φ st j 0,iv tab] σ R:=by
 have ha1:=hp.av1;have hrp:F.es.getD i []=Qi p:=by simp[List.getD,hi]
 have hrq:F.es.getD j []=Qi q:=by simp[List.getD,hj]
 refine QmR ?_;unfold x114;dsimp only[den,dE,di,dwat,Qf,List.map,den0,den1];intro χ hχ;have hFχ:=AH.set_same σ χ (⟨0,[(AV.val (.int .i64 0)),(iv 0),(iv 0),(iv 0),(iv 0),(.val (.string ⟨#[]⟩)),nilS].length,[[(AV.val (.int .i64 0)),(iv 0),(iv 0),(iv 0),(iv 0),(.val (.string ⟨#[]⟩)),nilS]]⟩:Fam);have hs0:∀G,AH.Sub σ ((σ.set χ ⟨0,[(AV.val (.int .i64 0)),(iv 0),(iv 0),(iv 0),(iv 0),(.val (.string ⟨#[]⟩)),nilS].length,[[(AV.val (.int .i64 0)),(iv 0),(iv 0),(iv 0),(iv 0),(.val (.string ⟨#[]⟩)),nilS]]⟩).set χ G):=fun G=>by rw[AH.set_set];exact .set (.refl σ) _ hχ
 have hφ:(σ.set χ ⟨0,[(AV.val (.int .i64 0)),(iv 0),(iv 0),(iv 0),(iv 0),(.val (.string ⟨#[]⟩)),nilS].length,[[(AV.val (.int .i64 0)),(iv 0),(iv 0),(iv 0),(iv 0),(.val (.string ⟨#[]⟩)),nilS]]⟩) φ=some F:=by
  rw[AH.set_ne' (by rintro rfl;rw[hF] at hχ;cases hχ)];exact hF
 generalize σ.set χ ⟨0,[(AV.val (.int .i64 0)),(iv 0),(iv 0),(iv 0),(iv 0),(.val (.string ⟨#[]⟩)),nilS].length,[[(AV.val (.int .i64 0)),(iv 0),(iv 0),(iv 0),(iv 0),(.val (.string ⟨#[]⟩)),nilS]]⟩=τ0 at hFχ hs0 hφ ⊢;have fin:∀(cs:List AV) (ok:Bool),TwoR tab p q cs ok→sto 7 (.ptr χ 0 0 0) (.agg cs) τ0 fun σ=>og (lodA 7 (.ptr χ 0 0 0) σ) fun r=>aret (.tup [r,bv ok]) σ R:=fun cs ok ht=>
  fin7 hFχ rfl ht.len ht.one (Uk (hs0 _) (h cs ok ht))
 have lp:∀(k:Nat) (v:AV),(Qi p)[k]? =some v→lod (.ptr φ st i k) τ0=some v:=fun k v h=>Qz hφ hst (by rw[hrp];exact h)
 have lq:∀(k:Nat) (v:AV),(Qi q)[k]? =some v→lod (.ptr φ st j k) τ0=some v:=fun k v h=>Qz hφ hst (by rw[hrq];exact h)
 have k0:=lp 0 _ rfl;have k1:=lp 1 _ rfl;have k2:=lp 2 _ rfl;have k6:=lp 6 _ rfl;have q0:=lq 0 _ rfl;have q1:=lq 1 _ rfl;have q2:=lq 2 _ rfl;have b13:=Qos (o:=p.1) hp;have b14:bld [(iv 0),(iv 0),(iv 0),(iv 0),(iv 0),(.val (.string ⟨#[]⟩)),nilS] [(0,1),(1,1),(2,1),(3,1),(4,1),(5,1),(6,1)] [(0,(iv 14)),(1,iv p.1.a),(2,iv p.1.b)]=some (.agg (Qn ⟨14,p.1.a,p.1.b,0,0,⟨#[]⟩,[]⟩ nilS)):=rfl;have b15:bld [(iv 0),(iv 0),(iv 0),(iv 0),(iv 0),(.val (.string ⟨#[]⟩)),nilS] [(0,1),(1,1),(2,1),(3,1),(4,1),(5,1),(6,1)] [(0,(iv 15)),(1,iv p.1.a),(2,iv p.1.b),(3,iv q.1.a),(4,iv q.1.b)]=some (.agg (Qn ⟨15,p.1.a,p.1.b,q.1.a,q.1.b,⟨#[]⟩,[]⟩ nilS)):=rfl;have b16:bld [(iv 0),(iv 0),(iv 0),(iv 0),(iv 0),(.val (.string ⟨#[]⟩)),nilS] [(0,1),(1,1),(2,1),(3,1),(4,1),(5,1),(6,1)] [(0,(iv 16)),(1,iv p.1.a),(2,iv p.1.b),(3,iv q.1.a)]=some (.agg (Qn ⟨16,p.1.a,p.1.b,q.1.a,0,⟨#[]⟩,[]⟩ nilS)):=rfl;have bz:bld [(iv 0),(iv 0),(iv 0),(iv 0),(iv 0),(.val (.string ⟨#[]⟩)),nilS] [(0,1),(1,1),(2,1),(3,1),(4,1),(5,1),(6,1)] []=some (.agg (Qn ⟨0,0,0,0,0,⟨#[]⟩,[]⟩ nilS)):=rfl;have no:twoD tab p.1 q.1=none→TwoR tab p q (Qn ⟨0,0,0,0,0,⟨#[]⟩,[]⟩ nilS) false:=fun hn=>⟨rfl,one7 rfl,(fun o ho=>by rw[hn] at ho;cases ho),fun _=>rfl⟩
 have yes:∀o a (b:Bool),(b=true→twoD tab p.1 q.1=some o)→(b=false→twoD tab p.1 q.1=none)→a=twoA p→a.one=true→TwoR tab p q (Qn o a) b:=fun o a b ho hn ha ha1=>⟨rfl,one7 ha1,(fun o' ho'=>by
  cases b with
  |true=>rw[ho rfl] at ho';cases ho';subst ha;exact ⟨rfl,rfl⟩
  |false=>rw[hn rfl] at ho';cases ho'),fun hn2=>by
  cases b with
  |true=>rw[ho rfl] at hn2;cases hn2
  |false=>rfl⟩
 by_cases a1:p.1.kind=1
 ·have a2:¬p.1.kind=2:=by omega
  by_cases a12:q.1.kind=12
  ·simp only[k0,k6,q0,a1,a12,Int.reduceEq,b13,RR];refine QbE h0 h1 (by simp) ?_;simp only[k6,true_and,RR];exact fin _ _ (yes _ _ _ (fun hb=>by unfold twoD;simp[a1,a12,hb]) (fun hb=>by unfold twoD;simp[a1,a12,hb]) (by unfold twoA;rw[if_pos a1]) ha1)
  ·have hn:twoD tab p.1 q.1=none:=by unfold twoD;simp[a1,a12]
   simp only[k0,q0,a1,a12,Int.reduceEq,bz,RR];exact fin _ _ (no hn)
 by_cases a2:p.1.kind=2
 ·have tA:nilS=twoA p:=by unfold twoA;rw[if_neg a1]
  by_cases a12:q.1.kind=12
  ·simp only[k0,k1,k2,q0,a2,a12,Int.reduceEq,b14,RR];refine QbE h0 h1 (by simp) ?_;simp only[k1,k2,true_and,RR];exact fin _ _ (yes _ _ _ (fun hb=>by unfold twoD;simp[a2,a12,hb]) (fun hb=>by unfold twoD;simp[a2,a12,hb]) tA rfl)
  by_cases a22:q.1.kind=2
  ·simp only[k0,k1,k2,q0,q1,q2,a2,a22,Int.reduceEq,b15,RR];refine QbE h0 h1 (by simp) ?_;simp only[k1,k2,q1,q2,true_and,RR];exact fin _ _ (yes _ _ _ (fun hb=>by unfold twoD;simp[a2,a22,hb]) (fun hb=>by unfold twoD;simp[a2,a22,hb]) tA rfl)
  by_cases a6:q.1.kind=6
  ·simp only[k0,k1,k2,q0,q1,a2,a6,Int.reduceEq,b16,RR];refine QbE h0 h1 (by simp) ?_;simp only[k1,k2,q1,true_and,RR];exact fin _ _ (yes _ _ _ (fun hb=>by unfold twoD;simp[a2,a6,hb]) (fun hb=>by unfold twoD;simp[a2,a6,hb]) tA rfl)
  have hn:twoD tab p.1 q.1=none:=by unfold twoD;simp[a2,a12,a22,a6]
  simp only[k0,q0,a2,a12,a22,a6,Int.reduceEq,bz,RR];exact fin _ _ (no hn)
 have hn:twoD tab p.1 q.1=none:=by unfold twoD;simp[a1,a2]
 simp only[k0,a1,a2,bz,RR];exact fin _ _ (no hn)
theorem QlY {b:Blk} {t:Nat} (hl:b.ops.length≤200) (h:R (.ret (bv (isT b.ops t))) σ):acall TP QaF [.rop (QC b) 0,iv (t:Int)] σ R:=by
 refine Qiw ?_;unfold x113;dsimp only[den,dE,di,tupL,lTup,den2,den3,den4,List.map,den0,den1];refine UV b.ops.length (fun i=>(AV.rop (QC b) 0,iv (t:Int),iv (i:Int),())) (fun i=>∀(j:Nat) (hj:j<b.ops.length),j<i→tgtN b.ops[j]≠(t:Int)) rfl (fun j hj h=>by omega) ?_;intro i hi hH R' hR';simp only[RR,RT,QA];by_cases hlt:i<b.ops.length
 ·have g:(i:Int)<(b.ops.length:Int):=by omega
  simp only[g,Qq hlt Q5,RR,RT];refine Qoh ?_;by_cases c:tgtN b.ops[i]=(t:Int)
  ·simp only[c,RR];have:isT b.ops t=true:=by
    unfold isT;rw[List.any_eq_true];exact ⟨_,List.getElem_mem hlt,decide_eq_true c⟩
   rw[this] at h;exact Qa h
  ·simp only[c,Qh hlt (by omega),RR];refine hR' hlt (fun j hj h1=>?_) _ (.refl _);rcases Nat.lt_or_ge j i with h2|h2
   ·exact hH j hj h2
   ·obtain rfl:j=i:=by omega
    exact c
 ·have g:¬(i:Int)<(b.ops.length:Int):=by omega
  simp only[g,RR];have:isT b.ops t=false:=by
   unfold isT;rw[List.any_eq_false];intro o ho;obtain ⟨j,hj,rfl⟩:=List.getElem_of_mem ho;simpa using hH j hj (by omega)
  rw[this] at h;exact Qa h
theorem QqM {av:AV} {its:Its} {n:Int} {φ st i t:Nat} {F:Fam} {K:AEnd→AH→Prop} (hF:τ φ=some F) (hst:F.st=st) (hsz:F.sz=2) (hi:F.es[i]? =some [iv n,av]) (hH:OpsH τ av its) (hl:its.length≤200)
  (hK:K (.ret (bv (isT (its.map (·.1)) t))) τ):acall TP QaF [.ptr φ st i 0,iv (t:Int)] τ K:=by
 have hlt:i<F.es.length:=(List.getElem?_eq_some_iff.1 hi).1;have hg:F.es.getD i []=[iv n,av]:=by simp[List.getD,hi]
 refine QrM (args':=[.rop (QC ⟨n,its.map (·.1)⟩) 0,iv (t:Int)]) (.val _) rfl (fun k hk=>?_) (fun R hR=>QlY (by simpa using hl) hR) hK
 match k,hk with
 |0,_=>
  refine .ptr hF rfl hst hlt (by rw[hg,hsz];rfl) (by rw[hsz];rfl) fun j hj=>?_
  rw[hg];match j,hj with
  |0,_=>exact .same _
  |1,_=>exact QrK hH fun _ _=>rfl
 |1,_=>exact .same _
def LedH (τ:AH) (a:AV) (xs:List Int):Prop:=(a= .emp∧xs=[])∨∃φ st fs,a= .own φ st 0 xs.length∧τ φ=some ⟨st,1,ivs (xs++fs)⟩
theorem LedH.live {a:AV} {xs:List Int} (h:LedH τ a xs) {ψ:Nat} (hψ:ψ∈famL a):τ ψ≠none:=by
 rcases h with ⟨rfl,_⟩|⟨φ,st,fs,rfl,hF⟩
 ·cases hψ
 ·obtain rfl:ψ=φ:=by simpa[famL] using hψ
  rw[hF];simp
theorem LedH.kp {a:AV} {xs:List Int} {F:List Nat} (h:LedH τ a xs) (k:Kp F τ τ') (hd:∀ψ,ψ∈famL a→ψ∉F):LedH τ' a xs:=by
 rcases h with h|⟨φ,st,fs,rfl,hF⟩
 ·exact .inl h
 ·exact .inr ⟨φ,st,fs,rfl,by rw[k φ (hd φ (by simp[famL])) (by rw[hF];simp)];exact hF⟩
theorem LedH.fz {a:AV} {xs:List Int} (h:LedH τ a xs):Fz ah0 τ a (.ro (ivs xs)):=by
 rcases h with ⟨rfl,rfl⟩|⟨φ,st,fs,rfl,hF⟩
 ·exact .emp
 ·refine .own hF rfl rfl (by simp) (by simp) (fun i hi=>by simp[hi]) fun i j hi hj=>?_
  have hj:j<1:=hj;obtain rfl:j=0:=by omega
  rw[Nat.zero_add];have e1:(ivs (xs++fs)).getD i []=[iv xs[i]]:=by simp[List.getD,List.getElem?_append,hi]
  have e2:(ivs xs).getD i []=[iv xs[i]]:=by simp[List.getD,hi]
  simp only[e1,e2];exact .same _
theorem QlZ {xs:List Int} {t:Nat} (hl:xs.length≤1000000) (h:R (.ret (bv (decide ((t:Int)∈xs)))) σ):acall TP QaE [.ro (ivs xs),iv (t:Int)] σ R:=by
 refine Qiu ?_;unfold x89;dsimp only[den,dE,di,List.map,den0,den1];refine QlL ?_;unfold x126;dsimp only[den,dE,di,tupL,lTup,den2,den3,den4,List.map,den0,den1];simp only[QA (fun x:Int=>[iv x]),RR];refine UV xs.length (fun i=>(AV.ro (ivs xs),iv (t:Int),iv (xs.length:Int),iv (i:Int),())) (fun i=>∀(j:Nat) (hj:j<xs.length),j<i→xs[j]≠(t:Int)) rfl (fun j hj h=>by omega) ?_;intro i hi hH R' hR';by_cases hlt:i<xs.length
 ·have g:(i:Int)<(xs.length:Int):=by omega
  have ix:=Qq (σ:=σ) (enc:=fun x:Int=>[iv x]) (sz:=1) hlt fun _=>rfl
  have el:∀τ,lod (.rop [iv xs[i]] 0) τ=some (iv xs[i]):=fun _=>rfl
  simp only[g,ix,el,RR];by_cases c:(t:Int)=xs[i]
  ·have g2:(0:Int)≤(i:Int):=by omega
   have hm:(t:Int)∈xs:=by rw[c];exact List.getElem_mem hlt
   rw[decide_eq_true hm] at h;simp only[c,RR];refine Qa ?_;simp only[g2,RR];exact Qa h
  ·simp only[c,Qh hlt (by omega),RR];refine hR' hlt (fun j hj h1=>?_) _ (.refl _);rcases Nat.lt_or_ge j i with h2|h2
   ·exact hH j hj h2
   ·obtain rfl:j=i:=by omega
    exact fun e=>c e.symm
 ·have g:¬(i:Int)<(xs.length:Int):=by omega
  have hm:¬(t:Int)∈xs:=fun hm=>by
   obtain ⟨j,hj,e⟩:=List.getElem_of_mem hm;exact hH j hj (by omega) e
  rw[decide_eq_false hm] at h;have g2:¬(0:Int)≤ -1:=by omega
  simp only[g,RR];refine Qa ?_;simp only[g2,RR];exact Qa h
theorem QwL (os:List OpD) (t:Nat):decide ((t:Int)∈tgtL os)=isT os t:=by
 rw[Bool.eq_iff_iff,decide_eq_true_iff,Qwp];unfold isT;rw[List.any_eq_true];constructor
 ·rintro ⟨_,o,ho,e⟩;exact ⟨o,ho,decide_eq_true e⟩
 ·rintro ⟨o,ho,e⟩;exact ⟨by omega,o,ho,of_decide_eq_true e⟩
theorem QqN {led:AV} {os:List OpD} {t:Nat} {K:AEnd→AH→Prop} (h:LedH τ led (tgtL os)) (hl:os.length≤200) (hK:K (.ret (bv (isT os t))) τ):acall TP QaE [led,iv (t:Int)] τ K:=by
 have hlen:=Qwq os;refine QrM (args':=[.ro (ivs (tgtL os)),iv (t:Int)]) (v:=bv (isT os t)) (.val _) rfl (fun k hk=>?_) (fun R hR=>QlZ (by omega) (by rw[QwL];exact hR)) hK;match k,hk with
 |0,_=>exact h.fz
 |1,_=>exact .same _
theorem QwM {φ st:Nat} {xs:List Int}:NomH (ah0.set φ ⟨st,1,ivs xs⟩):=by
 intro ψ F hF i j hi hj;by_cases e:ψ=φ
 ·subst e;rw[AH.set_same] at hF;cases hF;have hj:j<1:=hj;obtain rfl:j=0:=by omega
  have hi':i<xs.length:=by simpa using hi
  have e:((ivs xs).getD i []).getD 0 .any=iv (xs[i]):=by simp only[List.getD,List.getElem?_map,List.getElem?_eq_getElem hi'];rfl
  simp only;rw[e];exact .val _
 ·rw[AH.set_ne' e] at hF;cases hF
theorem QkT {av:AV} {its:Its} {n:Int} {K:AEnd→AH→Prop} (hH:OpsH τ av its) (hs:smB (its.map (·.1))) (hl:its.length≤200)
  (hK:∀led τ',LedH τ' led (tgtL (its.map (·.1)))→AH.Sub τ τ'→(∀ψ,ψ∈famL led→τ ψ=none)→K (.ret led) τ'):acall TP Qco [.agg [iv n,av]] τ K:=by
 refine (Qoi (σ0:=ah0) (args:=[.agg [iv n,av]]) (args':=[.agg (QC ⟨n,its.map (·.1)⟩)]) (Q:=fun e σ1=>∃led,LedH σ1 led (tgtL (its.map (·.1)))∧e= .ret led) (QrL τ) rfl (fun k hk=>?_)
  (QkN (b:=⟨n,its.map (·.1)⟩) hs (by simpa using hl) (fun h0=>⟨.emp,Qqg,.emp,.inl ⟨rfl,h0⟩,rfl⟩) (fun φ st fs _=>⟨.own ..,QwM,_,.inr ⟨φ,st,fs,rfl,AH.set_same ..⟩,rfl⟩))).mono ?_
 ·obtain rfl:k=0:=by simp at hk;omega
  exact Fz.agg2 (.same _) (QrK hH fun _ _=>rfl)
 ·rintro e σ' ⟨σ1,⟨led,hL,rfl⟩,rfl,hd⟩;have hn:∀ψ,ψ∈famL led→τ ψ=none:=fun ψ hψ=>by
   cases e2:τ ψ with
   |none=>rfl
   |some G=>exact absurd (hd ψ G e2 rfl) (hL.live hψ)
  refine hK led _ ?_ (fun ψ F hF=>Qqd hF rfl) hn;rcases hL with h|⟨φ,st,fs,rfl,hF⟩
  ·exact .inl h
  ·exact .inr ⟨φ,st,fs,rfl,by rw[Qcz (.inl (hn φ (by simp[famL])))];exact hF⟩
end
section
set_option maxRecDepth 100000
variable [L:Lam] {σ τ τ':AH} {R:AEnd→AH→Prop}
def FOk (bs:List Blk):Prop:=bs.length≤60∧∀b,b∈bs→smB b.ops∧b.ops.length≤200∧∀o,o∈b.ops→tgtN o<b.ops.length
def fusB (tab:Int) (b:Blk):Blk:=⟨b.args,fusO tab b.ops⟩
theorem Qxu (a b:AV):aext (.tup [a,b]) 0=some a:=id rfl
theorem Qxv (a b:AV):aext (.tup [a,b]) 1=some b:=id rfl
theorem QzI {cs:List AV} {o:Nat} {k:AV→AH→Prop} (h:k (.rop cs o) τ):frz (.rop cs o) τ k:=⟨_,τ,.refl τ,.same _,h⟩
theorem QcV {tab:Int} {T:Nat→Bool} {k:Nat} {p:OpD × AV} {r:Its} (h:r=[]∨T (k+1)=true∨∃q r',r=q::r'∧twoD tab p.1 q.1=none):Q7 tab T k (p::r)=p::Q7 tab T (k+1) r:=by
 cases r with
 |nil=>rfl
 |cons q r=>
  simp only[Q7];split
  ·rename_i o h1 h2;rcases h with h|h|⟨q',r',e,h⟩
   ·cases h
   ·rw[h1] at h;cases h
   ·cases e;rw[h2] at h;cases h
  ·rfl
theorem Qot {tab:Int} {T:Nat→Bool} {z:Int→Int} {k:Nat} {m:Int} {p:OpD} {r:List OpD} (h:r=[]∨T (k+1)=true∨∃q r',r=q::r'∧twoD tab p q=none):plF tab T z k m (p::r)=m::plF tab T z (k+1) (m+1) r:=by
 cases r with
 |nil=>rfl
 |cons q r=>
  simp only[plF];split
  ·rename_i o h1 h2;rcases h with h|h|⟨q',r',e,h⟩
   ·cases h
   ·rw[h1] at h;cases h
   ·cases e;rw[h2] at h;cases h
  ·rfl
theorem QrS {tab:Int} {T:Nat→Bool} {k:Nat} {p q:OpD × AV} {o:OpD} {r:Its} (h1:T (k+1)=false) (h2:twoD tab p.1 q.1=some o):Q7 tab T k (p::q::r)=(o,twoA p)::Q7 tab T (k+2) r:=by
 simp only[Q7,h1,h2]
theorem QuW {tab:Int} {T:Nat→Bool} {z:Int→Int} {k:Nat} {m:Int} {p q o:OpD} {r:List OpD} (h1:T (k+1)=false) (h2:twoD tab p q=some o):plF tab T z k m (p::q::r)=m::z m::plF tab T z (k+2) (m+1) r:=by
 simp only[plF,h1,h2]
theorem QuX {u:AV} {xs:List Int} {k χ:Nat} {m:Int} {N:Nat} {A:Fam} (hχ:τ χ=none) (h:Buf τ 1 u (ivs (xs++0::List.replicate N 0))) (hk:xs.length=k)
  :∃p,idx 1 u (iv (k:Int)) (τ.set χ A)=some p∧∀K:AH→Prop,(∀τu,Buf τu 1 u (ivs (xs++m::List.replicate N 0))→(∀ψ,ψ∉famL u→τu ψ=τ ψ)→τu χ=none→K (τu.set χ A))→sto 1 p (iv m) (τ.set χ A) K:=by
 obtain ⟨φ,st,rfl,hF⟩:=JU h (by simp);have hne:φ≠χ:=by rintro rfl;rw[hF] at hχ;cases hχ
 have hl:(ivs (xs++0::List.replicate N 0)).length=k+(N+1):=by simp[hk]
 have hF2:(τ.set χ A) φ=some ⟨st,1,ivs (xs++0::List.replicate N 0)⟩:=by rw[AH.set_ne' hne];exact hF
 have ix:=Jg (st:=st) (off:=0) hF2 (show k<(ivs (xs++0::List.replicate N 0)).length by rw[hl];omega);rw[Nat.zero_add] at ix;refine ⟨_,ix,fun K hK=>?_⟩;have hset:τ.set χ A=(τ.set χ A).set φ ⟨st,1,ivs xs++[iv 0]::ivs (List.replicate N 0)⟩:=(AH.set_self (by rw[hF2];simp)).symm;rw[hset];refine Qbv (by simpa using hk) (by omega) rfl ?_;have er:[iv 0].set 0 (iv m)=[iv m]:=rfl;rw[er,AH.set_comm _ _ _ (Ne.symm hne)];refine hK _ (.inr ⟨φ,st,by simp,by rw[AH.set_same];simp⟩) (fun ψ hψ=>AH.set_ne' (by rintro rfl;exact hψ (by simp[famL]))) ?_;rw[AH.set_ne' (Ne.symm hne)];exact hχ
set_option maxHeartbeats 4000000 in
theorem QqO {bs:List Blk} {tab:Int} (hb:bC 1048576 bs) (h0:0≤tab) (h1:tab≤15) (hF:FOk bs) (h:∀v B τ,cont B=bs.map (fusB tab)→NewB σ τ v B→R (.ret v) τ):acall TP QiY [roBk bs,iv tab] σ R:=by
 have hl:=hF.1;refine Qn0 ?_;unfold x64;dsimp only[den,dE,di,tupL,lTup,den2,den3,den4,dwat,Qf,List.map,den0,den1];refine Qbg hb.1 (fun b hm=>⟨(hb.2 b hm).1,fun o ho=>((hb.2 b hm).2 o ho).2.1⟩) fun v B0 τ0 hc0 hN0=>?_
 have hlv:=Jj hN0.own.1;have hB0:(B0.map fun b=>[iv b.args,b.av]).length=bs.length:=by have:=congrArg List.length hc0;simpa[cont] using this
 rw[hB0] at hlv;simp only[hlv,RR];refine Ua bs.length (fun i x τ=>∃B,x=(iv tab,v,v,iv (bs.length:Int),iv (i:Int),())∧cont B=(bs.take i).map (fusB tab)++bs.drop i∧NewB σ τ v B) ⟨B0,rfl,by simpa using hc0,hN0⟩ ?_;rintro i _ τ hi ⟨B,rfl,hcB,hN⟩ R' hR';by_cases hlt:i<bs.length
 case neg=>
  have g:¬(i:Int)<(bs.length:Int):=by omega
  obtain rfl:i=bs.length:=by omega
  rw[List.take_length,List.drop_length,List.append_nil] at hcB;simp only[g,RR];exact Qa (h v B τ hcB hN)
 have g:(i:Int)<(bs.length:Int):=by omega
 obtain ⟨hsmb,hol,htg⟩:=hF.2 _ (List.getElem_mem hlt);rw[List.drop_eq_getElem_cons hlt] at hcB;obtain ⟨BA,b,BC,rfl,hcA,hcb,hcC,hAl⟩:=Qef hcB;have hAl:BA.length=i:=by rw[hAl];simp;omega
 have hba:b.args=bs[i].args:=congrArg Blk.args hcb;have hbo:b.its.map (·.1)=bs[i].ops:=congrArg Blk.ops hcb
 have hbl:b.its.length=bs[i].ops.length:=by rw[←hbo];simp
 have hbH:OpsH τ b.av b.its:=hN.own.2 b (by simp);have hrow:(((BA++b::BC).map fun b=>[iv b.args,b.av])[i]'(by simp;omega))=[iv b.args,b.av]:=by
  subst hAl;simp
 obtain ⟨pt,q1,q2⟩:=QrP (i:=i) hN.own.1 (by simp;omega) (by rw[hrow];rfl);rw[hrow] at q2;simp only[g,q1,q2,RR];intro φ7 h7;refine QH (es:=[[iv 0,nilS]]) (cs:=[iv b.args,b.av]) (by rw[AH.set_same];rfl) (by simp) rfl rfl rfl (one2 rfl hbH.av1) ?_;simp only[List.set_cons_zero,AH.set_set];have hitl:∀ψ,ψ∈itsF b.its→τ ψ≠none:=fun ψ hψ=>JV (hbH.2.live hψ)
 have hitf:∀ψ,ψ∈itsF b.its→σ ψ=none:=fun ψ hψ=>hN.fr ψ (by
  refine List.mem_append_right _ (List.mem_flatMap.2 ⟨b,by simp,List.mem_append_right _ hψ⟩))
 have hitn:(itsF b.its).Nodup:=by
  have:=hN.nd;have e:Jz v (BA++b::BC)=famL v++(bsF BA++((famL b.av++itsF b.its)++bsF BC)):=by
   have:bsF (BA++b::BC)=bsF BA++((famL b.av++itsF b.its)++bsF BC):=by rw[UZ,UR];rfl
   rw[←this];rfl
  rw[e] at this;exact (Qo.1 (Qo.1 (Qo.1 (Qo.1 this).2.1).2.1).1).2.1
 have l1:∀τ,lod (.rop [iv b.args,b.av] 1) τ=some b.av:=fun _=>rfl
 have lA:∀τ,lodA 2 (.rop [iv b.args,b.av] 0) τ=some (.agg [iv b.args,b.av]):=fun _=>rfl
 have hlb:=Jj hbH.1;rw[show (b.its.map fun p=>Qn p.1 p.2).length=b.its.length by simp] at hlb;refine Qd9 (fun x τ'=>∃led u,x=(iv tab,v,iv (i:Int),.rop [iv b.args,b.av] 0,led,.emp,u,v,iv (bs.length:Int),iv (i:Int),())∧LedH τ' led (tgtL (b.its.map (·.1)))∧Buf τ' 1 u (ivs (List.replicate b.its.length 0))∧AH.Sub τ τ'∧
   (∀ψ,ψ∈famL led→τ ψ=none)∧(∀ψ,ψ∈famL u→τ ψ=none)∧∀ψ,ψ∈famL u→ψ∉famL led) ?_ ?_
 case refine_2=>
  intro k hk;refine QK h7 rfl ?_;have e0:bslR 7 [(iv 0),(iv 0),(iv 0),(iv 0),(iv 0),(.val (.string ⟨#[]⟩)),nilS] 0 []=some AV.emp:=rfl;have er:∀n:Nat,ivs (List.replicate n 0)=List.replicate n [iv 0]:=fun n=>by simp[ivs]
  refine ⟨?_,?_⟩
  ·simp only[lA,e0,l1,hlb,RR];refine QkT hbH (by rw[hbo];exact hsmb) (by omega) fun led τ1 hL hs1 hf1=>?_
   simp only[l1,lA,true_and,and_true,RR];refine Qxp (by omega) (by omega) (by omega) fun φu hu=>?_
   simp only[Int.toNat_natCast,lA,true_and,and_true];have hs2:AH.Sub τ1 (τ1.set φu ⟨0,1,List.replicate b.its.length [iv 0]⟩):= .set (.refl τ1) _ hu;refine hk _ _ ⟨led,_,rfl,hL.kp (Kp.of_sub (F:=[]) hs2) (fun _ _ c=>by cases c),.inr ⟨φu,0,by simp,by rw[AH.set_same,er]⟩,hs1.trans hs2,hf1,fun ψ hψ=>?_,fun ψ hψ c=>?_⟩
   ·obtain rfl:ψ=φu:=by simpa[famL] using hψ
    exact hs1.none hu
   ·obtain rfl:ψ=φu:=by simpa[famL] using hψ
    exact hL.live c hu
  ·simp only[lA,e0,l1,hlb,RR];refine Qxp (by omega) (by omega) (by omega) fun φu hu=>?_
   simp only[Int.toNat_natCast,lA,true_and,and_true];have hs2:AH.Sub τ (τ.set φu ⟨0,1,List.replicate b.its.length [iv 0]⟩):= .set (.refl τ) _ hu;have hbH2:OpsH (τ.set φu ⟨0,1,List.replicate b.its.length [iv 0]⟩) b.av b.its:=(Kp.of_sub (F:=[]) hs2).ops hbH fun _ _ c=>by cases c
   refine QkT hbH2 (by rw[hbo];exact hsmb) (by omega) fun led τ1 hL hs1 hf1=>?_
   simp only[l1,true_and,and_true,RR];refine hk _ _ ⟨led,_,rfl,hL,.inr ⟨φu,0,by simp,by rw[hs1 _ _ (AH.set_same ..),er]⟩,hs2.trans hs1,fun ψ hψ=>hs2.none (hf1 ψ hψ),fun ψ hψ=>?_,fun ψ hψ c=>?_⟩
   ·obtain rfl:ψ=φu:=by simpa[famL] using hψ
    exact hu
   ·obtain rfl:ψ=φu:=by simpa[famL] using hψ
    have:=hf1 ψ c;rw[AH.set_same] at this;cases this
 rintro _ τs ⟨led,u,rfl,hL,hU,hsub0,hLf,huf,huL⟩;have hB0H:OpsH τs b.av b.its:=(Kp.of_sub (F:=[]) hsub0).ops hbH fun _ _ c=>by cases c
 have wuse:∀ψ,ψ∈famL u→τs ψ≠none:=fun ψ hψ=>JV (J1 hU hψ)
 refine QF (fun n x τ'=>∃(pre rest W:Its) (xs:List Int) (w:AV),b.its=pre++rest∧rest.length=n∧x=(iv tab,v,iv (i:Int),.rop [iv b.args,b.av] 0,led,w,u,iv (pre.length:Int),v,iv (bs.length:Int),iv (i:Int),())∧
   NewO σ τ' w W∧W++Q7 tab (isT bs[i].ops) pre.length rest=Q7 tab (isT bs[i].ops) 0 b.its∧W.length≤pre.length∧xs++plF tab (isT bs[i].ops) (fun _=>0) pre.length (W.length:Int) (rest.map (·.1))=plF tab (isT bs[i].ops) (fun _=>0) 0 0 bs[i].ops∧xs.length=pre.length∧
   Buf τ' 1 u (ivs (xs++List.replicate rest.length 0))∧LedH τ' led (tgtL bs[i].ops)∧AH.Sub τ τ'∧(∀ψ,ψ∈famL w→τ ψ=none)∧(∀ψ,ψ∈famL w→ψ∉famL u)∧∀ψ,ψ∈famL w→ψ∉famL led) b.its.length
  ⟨[],b.its,[],[],.emp,rfl,rfl,rfl,.emp (hN.sub.trans hsub0),rfl,Nat.le_refl _,by rw[hbo];rfl,rfl,by simpa using hU,by rw[←hbo];exact hL,hsub0,(fun ψ c=>by cases c),(fun ψ c=>by cases c),fun ψ c=>by cases c⟩ ?_
 rintro n x τ1 ⟨pre,rest,W,xs,w,hit,hrl,rfl,hO,hfu,hWl,hpl,hxl,hU1,hL1,hsub,hwf,hwu,hwl⟩ R2 hR2;have hn:b.its.length=pre.length+rest.length:=by rw[hit];simp
 have hlw:=Jj hO.own.1;rw[List.length_map] at hlw;have hbH1:OpsH τ1 b.av b.its:=(Kp.of_sub (F:=[]) hsub).ops hbH fun _ _ c=>by cases c
 simp only[l1,hlb,RR];cases rest with
 |nil=>
  have g2:¬(pre.length:Int)<(b.its.length:Int):=by rw[hn];simp
  simp only[g2,RR];have hW:W=Q7 tab (isT bs[i].ops) 0 b.its:=by rw[←hfu];simp[Q7]
  have hX:xs=plF tab (isT bs[i].ops) (fun _=>0) 0 0 bs[i].ops:=by rw[←hpl];simp[plF]
  have hU2:Buf τ1 1 u (ivs xs):=by simpa using hU1
  have hWs:W.map (·.1)=UL tab (isT bs[i].ops) 0 bs[i].ops:=by rw[hW,QkS tab _ b.its.length 0 b.its (Nat.le_refl _),hbo]
  have hxl2:xs.length=bs[i].ops.length:=by rw[hX];exact Qs6 tab _ _ bs[i].ops.length 0 0 _ (Nat.le_refl _)
  refine QrN hO.own.1 hU2 hwu (fun p hpm=>?_) (by omega) fun τ4 hB4 hK4=>?_
  ·have hm:p.1∈UL tab (isT bs[i].ops) 0 bs[i].ops:=by rw[←hWs];exact List.mem_map.2 ⟨p,hpm,rfl⟩
   obtain ⟨s1,s2,s3,_⟩:=Qni tab (isT bs[i].ops) bs[i].ops.length bs[i].ops.length 0 _ (Nat.le_refl _) hsmb htg _ hm;rw[hxl2];exact ⟨s1,s2,s3⟩
  obtain ⟨_,_,hn3⟩:=Qo.1 hO.nd;have hI4:ItsH τ4 (W.map (QQ xs)):=Qqj (hO.own.2.keep fun ψ hψ=>hK4 ψ fun c=>hn3 ψ c hψ);obtain ⟨φ,st,hv,_,_,ix,hst⟩:=NewB.repl (τ:=τ4) (w:=w) (W:=W.map (QQ xs)) hN ⟨hB4,hI4⟩ (by rw[Qqi,hW];exact Qgu tab _ b.its.length 0 b.its (Nat.le_refl _)) hwf (fun ψ h1 h2=>by
   rw[hK4 ψ h1];cases e:τ ψ with
   |none=>exact absurd e h2
   |some F=>exact hsub _ _ e) hO.own.av1
  rw[hAl] at ix hst;simp only[ix,RR];refine hst _ fun τ5 hN5=>?_
  simp only[Qh hlt (by omega),RR];refine hR' _ _ _ hlt (.refl _) ⟨_,rfl,?_,hN5⟩;have:cont (BA++⟨b.args,w,W.map (QQ xs)⟩::BC)=cont BA++⟨b.args,(W.map (QQ xs)).map (·.1)⟩::cont BC:=by simp[cont]
  rw[this,hcA,hcC,Qqh,hWs,hX,QwJ tab _ hsmb htg,hba,List.take_succ_eq_append_getElem hlt,List.map_append,List.append_assoc];try rfl
 |cons p r=>
  have g2:(pre.length:Int)<(b.its.length:Int):=by rw[hn];simp;omega
  have hpk:pre.length<b.its.length:=by omega
  have hpat:b.its[pre.length]=p:=by simp[hit]
  have hrow2:((b.its.map fun p=>Qn p.1 p.2)[pre.length]'(by simpa using hpk))=Qi p:=by simp[hpat]
  obtain ⟨pt2,q3,q4⟩:=QrP (i:=pre.length) hbH1.1 (by simpa using hpk) (by rw[hrow2];rfl);rw[hrow2] at q4;have hpm:p∈b.its:=by rw[hit];simp
  have hpD:Buf τ 4 p.2 (p.1.data.map Qc):=hbH.2 p hpm;have hp1:p.2.one=true:=hpD.av1;have hpF:∀ψ,ψ∈famL p.2→ψ∈itsF b.its:=fun ψ hψ=>List.mem_flatMap.2 ⟨p,hpm,hψ⟩
  simp only[g2,q3,q4,RR];intro χ hχ;refine QH (es:=[[iv 0,iv 0,iv 0,iv 0,iv 0,str ⟨#[]⟩,nilS]]) (cs:=Qi p) (by rw[AH.set_same];rfl) (by simp) rfl rfl rfl (one7 hp1) ?_;simp only[List.set_cons_zero,AH.set_set,hlw,RR];obtain ⟨pu,ixu,hstu⟩:=QuX (τ:=τ1) (χ:=χ) (A:=⟨0,7,[Qi p]⟩) (m:=(W.length:Int)) hχ (by simpa[List.replicate_succ] using hU1) hxl;simp only[ixu,RR];refine hstu _ fun τu hUu hKu hχu=>?_
  have hKpu:Kp (famL u) τ1 τu:=fun ψ h _=>hKu ψ h
  have hsubu:AH.Sub τ τu:=hKpu.sub hsub huf;have hWsub:(itsF (W++Q7 tab (isT bs[i].ops) pre.length (p::r))).Sublist (itsF b.its):=by rw[hfu];exact Qgu tab _ b.its.length 0 b.its (Nat.le_refl _)
  have hWin:∀ψ,ψ∈itsF W→ψ∈itsF b.its:=fun ψ hψ=>hWsub.subset (by rw[J6];exact List.mem_append_left _ hψ)
  have hWnd:(itsF W++itsF (Q7 tab (isT bs[i].ops) pre.length (p::r))).Nodup:=by rw[←J6];exact hitn.sublist hWsub
  have hOu:NewO σ τu w W:=hO.kp hKpu (fun ψ hψ c=>by
   rcases List.mem_append.1 hψ with d|d
   ·exact hwu ψ d c
   ·exact hitl ψ (hWin ψ d) (huf ψ c)) fun ψ hψ=>hN.sub.none (huf ψ hψ)
  have hLu:LedH τu led (tgtL bs[i].ops):=hL1.kp hKpu fun ψ h c=>huL ψ c h
  have hbHu:OpsH τu b.av b.its:=(Kp.of_sub (F:=[]) hsubu).ops hbH fun _ _ c=>by cases c
  have hpDu:Buf τu 4 p.2 (p.1.data.map Qc):=hbHu.2 p hpm;have e7:∀(row:List AV) τ,row.length=7→lodA 7 (.rop row 0) τ=some (.agg row):=fun row τ hr=>Qu hr
  have e7:∀(p:OpD × AV) τ,lodA 7 (.rop (Qi p) 0) τ=some (.agg (Qi p)):=fun _ _=>rfl
  have push:∀(p':OpD × AV) (K:AV→AH→Prop),Buf τu 4 p'.2 (p'.1.data.map Qc)→(∀ψ,ψ∈famL p'.2→ψ∈famL p.2)→(∀ψ,ψ∈famL p'.2→ψ∉itsF W)→p'.2.one=true→
    (∀w' τ4,NewO σ τ4 w' (W++[p'])→Kp (famL w) τu τ4→(∀ψ,ψ∈famL w'→ψ∈famL w∨τu ψ=none)→K w' τ4)→bsl 7 [(iv 0),(iv 0),(iv 0),(iv 0),(iv 0),(.val (.string ⟨#[]⟩)),nilS] 1 [(0,.agg (Qi p'))] τu fun x σ=>E.app 7 w x σ K:=by
   intro p' K f1 f2 f3 f4 f5;refine hOu.push rfl f1 (fun ψ hψ c=>?_) (fun ψ hψ=>hitf ψ (hpF ψ (f2 ψ hψ))) f4 (by omega) f5;rcases List.mem_append.1 c with c|c
   ·exact hitl ψ (hpF ψ (f2 ψ hψ)) (hwf ψ c)
   ·exact f3 ψ hψ c
  have next:∀(p':OpD × AV) (pre' rest':Its) (xs':List Int) (w':AV) (τ4:AH),NewO σ τ4 w' (W++[p'])→Kp (famL w) τu τ4→(∀ψ,ψ∈famL w'→ψ∈famL w∨τu ψ=none)→b.its=pre'++rest'→rest'.length<n→(W++[p'])++Q7 tab (isT bs[i].ops) pre'.length rest'=Q7 tab (isT bs[i].ops) 0 b.its→
    xs'++plF tab (isT bs[i].ops) (fun _=>0) pre'.length ((W.length:Int)+1) (rest'.map (·.1))=plF tab (isT bs[i].ops) (fun _=>0) 0 0 bs[i].ops→xs'.length=pre'.length→W.length+1≤pre'.length→Buf τu 1 u (ivs (xs'++List.replicate rest'.length 0))→∀{k:Nat},k=pre'.length→
    R2 (iv tab,v,iv (i:Int),.rop [iv b.args,b.av] 0,led,w',u,iv (k:Int),v,iv (bs.length:Int),iv (i:Int),()) τ4:=by
   intro p' pre' rest' xs' w' τ4 f1 f2 f3 f4 f5 f6 f7 f8 f9 f10 k hk;subst hk;refine hR2 _ _ rest'.length τ4 f5 (.refl _) ⟨pre',rest',W++[p'],xs',w',f4,rfl,rfl,f1,f6,by simpa using f9,by rw[←f7];simp,f8,f2.buf f10 (fun ψ h c=>hwu ψ c h),hLu.kp f2 (fun ψ h c=>hwl ψ c h),f2.sub hsubu hwf,fun ψ hψ=>?_,fun ψ hψ c=>?_,fun ψ hψ c=>?_⟩
   ·rcases f3 ψ hψ with d|d
    ·exact hwf ψ d
    ·exact hsubu.none d
   ·rcases f3 ψ hψ with d|d
    ·exact hwu ψ d c
    ·exact JV (J1 hUu c) d
   ·rcases f3 ψ hψ with d|d
    ·exact hwl ψ d c
    ·exact hLu.live c d
  have hpW:(r=[]∨isT bs[i].ops (pre.length+1)=true∨∃q r',r=q::r'∧twoD tab p.1 q.1=none)→∀ψ,ψ∈famL p.2→ψ∉itsF W:=fun hne ψ hψ c=>by
   rw[QcV hne,Ub] at hWnd;exact (Qo.1 hWnd).2.2 ψ c (List.mem_append_left _ hψ)
  have hneD:(r=[]∨isT bs[i].ops (pre.length+1)=true∨∃q r',r=q::r'∧twoD tab p.1 q.1=none)→(r.map (·.1)=[]∨isT bs[i].ops (pre.length+1)=true∨∃q r',r.map (·.1)=q::r'∧twoD tab p.1 q=none):=by
   rintro (h|h|⟨q,r',rfl,h⟩)
   ·exact .inl (by rw[h];rfl)
   ·exact .inr (.inl h)
   ·exact .inr (.inr ⟨q.1,r'.map (·.1),rfl,h⟩)
  have up1:=Qh hpk (show b.its.length≤9223372036854775807 by omega);cases r with
  |nil=>
   have hne:([]:Its)=[]∨isT bs[i].ops (pre.length+1)=true∨∃q r',([]:Its)=q::r'∧twoD tab p.1 q.1=none:= .inl rfl;have g3:¬((pre.length+1:Nat):Int)<(b.its.length:Int):=by rw[hn];simp
   simp only[jn,up1,l1,hlb,g3,RR];refine QK hχu rfl ?_;simp only[e7,RR];refine push p _ hpDu (fun ψ hψ=>hψ) (hpW hne) hp1 fun w' τ4 a1 a2 a3=>?_
   try simp only[Qh hpk (by omega),RR]
   exact next p (pre++[p]) [] (xs++[(W.length:Int)]) w' τ4 a1 a2 a3 (by simp[hit]) (by rw[←hrl];simp) (by rw[←hfu,QcV hne];simp) (by rw[←hpl,List.map_cons,Qot (hneD hne)];simp) (by simp[hxl]) (by simp;omega) (by simpa using hUu) (by simp)
  |cons q r'=>
   have hpk1:pre.length+1<b.its.length:=by rw[hn];simp
   have g3:((pre.length+1:Nat):Int)<(b.its.length:Int):=by omega
   simp only[jn,up1,l1,hlb,g3,RR];have hLc:LedH (τu.set χ ⟨0,7,[Qi p]⟩) led (tgtL bs[i].ops):=hLu.kp (Kp.of_sub (F:=[]) (.set (.refl τu) _ hχu)) fun _ _ c=>by cases c
   refine QqN hLc hol ?_;cases hT:isT bs[i].ops (pre.length+1)
   case true=>
    have hne:(q::r')=[]∨isT bs[i].ops (pre.length+1)=true∨∃q2 r2,(q::r')=q2::r2∧twoD tab p.1 q2.1=none:= .inr (.inl hT);generalize hrr:q::r'=r at*;simp only[RR];refine QK hχu rfl ?_;simp only[e7,RR];refine push p _ hpDu (fun ψ hψ=>hψ) (hpW hne) hp1 fun w' τ4 a1 a2 a3=>?_
    try simp only[Qh hpk (by omega),RR]
    exact next p (pre++[p]) r (xs++[(W.length:Int)]) w' τ4 a1 a2 a3 (by simp[hit]) (by rw[←hrl];simp) (by rw[←hfu,QcV hne];simp) (by rw[←hpl,List.map_cons,Qot (hneD hne)];simp) (by simp[hxl]) (by simp;omega) (by simpa using hUu) (by simp)
   case false=>
    have hbHx:OpsH (τu.set χ ⟨0,7,[Qi p]⟩) b.av b.its:=(Kp.of_sub (F:=[]) (.set (.refl τu) _ hχu)).ops hbHu fun _ _ c=>by cases c
    have hqat:b.its[pre.length+1]=q:=by simp[hit]
    have hrow3:((b.its.map fun p=>Qn p.1 p.2)[pre.length+1]'(by simpa using hpk1))=Qi q:=by simp[hqat]
    obtain ⟨pt3,q5,q6⟩:=QrP (i:=pre.length+1) hbHx.1 (by simpa using hpk1) (by rw[hrow3];rfl);rw[hrow3] at q6;have eχ:lodA 7 (.ptr χ 0 0 0) (τu.set χ ⟨0,7,[Qi p]⟩)=some (.agg (Qi p)):=UG (AH.set_same ..) rfl rfl rfl;simp only[eχ,l1,up1,q5,q6,RR];refine QsC h0 h1 (hbHx.2 p hpm) fun row ok hTw=>?_
    simp only[true_and,Qxu,Qxv,RR];refine Ji rfl hTw.len rfl hTw.one ?_;cases hD:twoD tab p.1 q.1 with
    |none=>
     have hne:(q::r')=[]∨isT bs[i].ops (pre.length+1)=true∨∃q2 r2,(q::r')=q2::r2∧twoD tab p.1 q2.1=none:= .inr (.inr ⟨q,r',rfl,hD⟩);rw[hTw.no hD];generalize hrr:q::r'=r at*;simp only[RR];refine QK hχu rfl ?_;simp only[e7,RR];refine push p _ hpDu (fun ψ hψ=>hψ) (hpW hne) hp1 fun w' τ4 a1 a2 a3=>?_
     try simp only[Qh hpk (by omega),RR]
     exact next p (pre++[p]) r (xs++[(W.length:Int)]) w' τ4 a1 a2 a3 (by simp[hit]) (by rw[←hrl];simp) (by rw[←hfu,QcV hne];simp) (by rw[←hpl,List.map_cons,Qot (hneD hne)];simp) (by simp[hxl]) (by simp;omega) (by simpa using hUu) (by simp)
    |some o=>
     obtain ⟨t1,t2⟩:=hTw.yes o hD;subst t1 t2;have hA1:(twoA p).one=true:=QrR hp1;simp only[e7 (o,twoA p),RR];refine QH (es:=[Qi p]) (cs:=Qi (o,twoA p)) (AH.set_same ..) (by simp) rfl rfl rfl (one7 hA1) ?_;simp only[List.set_cons_zero,AH.set_set];refine QK hχu rfl ?_;try simp only[up1,RR]
     refine QzI ?_;simp only[e7 (o,twoA p),RR];have hfe:=QrS (r:=r') hT hD;refine push (o,twoA p) _ (QrQ hD hpDu) (fun ψ hψ=>(QiJ p).subset hψ) (fun ψ hψ c=>?_) hA1 fun w' τ4 a1 a2 a3=>?_
     ·rw[hfe,Ub] at hWnd;exact (Qo.1 hWnd).2.2 ψ c (List.mem_append_left _ hψ)
     have up2:=Qh hpk1 (show b.its.length≤9223372036854775807 by omega);try simp only[up2,RR]
     refine next (o,twoA p) (pre++[p,q]) r' (xs++[(W.length:Int),0]) w' τ4 a1 a2 a3 (by simp[hit]) (by rw[←hrl];simp;omega) (by rw[←hfu,hfe];simp) ?_ (by simp[hxl]) (by simp;omega) (by simpa[List.replicate_succ] using hUu) (by simp)
     rw[←hpl,List.map_cons,List.map_cons,QuW hT hD];simp
end
end Go.Proofs.YtggnjjalfnhiiaaGreatDoor.E

import Derived.Test.YtbppopcpgcgkkaaGreatDoorPD12
import Derived.Lib.ParseIntBTie
import Derived.WalkKit
import Derived.BigCall
import Derived.Deep.DeepFit
import Derived.Lib.AppendIntMem
import Derived.Shelf.Strings.IndexAnyAll
import Derived.Shelf.Strings.Cut
import Derived.Shelf.Small.Strs
import Derived.Test.YtbppopcpgcgkkaaGreatDoorProg
import Derived.Lib.OthersKept
import Derived.Laws.RangeAny
import Derived.Shelf.Small.Utf8
import Derived.Laws.Runes
import Derived.WalkMore
import Derived.Handy
import Derived.Shelf.RegionOpenPlain
import Derived.Laws.Strings3
import Derived.Test.YtbppopcpgcgkkaaGreatDoorRows
import Derived.LaidLaws
import Derived.Lib.LaidU8
import Derived.Shelf.Vars
/- ParseNum, walked. -/
set_option linter.unusedSectionVars false
set_option linter.unusedSimpArgs false
set_option linter.unusedVariables false
namespace Go.Proofs.YtbppopcpgcgkkaaGreatDoor.E
open Go Go.RowKit
set_option maxRecDepth 100000
theorem calls_bel {P:Program} {f:FuncId} {args:List AV} {vs:List Value} {v:Value} {W:World} (h:@acall lam0 P f args ah0 (fun e _=>e= .ret (.val v))) (hv:VRs (kap0 W) args vs):
  Calls P f vs.toArray W fun e w'=>e= .returned v∧Below W.heap.size W w':=by
 letI:Lam:=lam0
 obtain ⟨fn,h1,h2,h3,h4⟩:=h
 refine (h4 (kap0 W) W vs (rel0 W) hv).mono ?_
 rintro e w' ⟨κ',ae,σ',rfl,hs,hE⟩
 have hb:=hs.rel.bel
 rw [hs.ext.B,hs.ext.W] at hb
 cases e with
 |returned v=>cases hE;exact ⟨rfl,hb⟩
 |_=>exact hE.elim
def codeB (lo hi v:Int):Int:=if inB lo hi v then 0 else 3
theorem w_NumFault (n:Int) (w:World):Calls TP fn_impl_NumFault #[.int .i64 n] w fun e w'=>e= .returned (.int .i64 (codeB (-1000000000) 1000000000 n))∧Below w.heap.size w w':=by
 letI:Lam:=lam0
 refine calls_bel (args:=[iv n]) (vs:=[.int .i64 n]) ?_ (.cons (.val _) (.nil _))
 refine s_impl_NumFault_ok ?_
 unfold s_impl_NumFault codeB
 refine c_impl_in ?_
 cases c:inB (-1000000000) 1000000000 n<;>simp only [RR]<;>exact ret_here rfl
theorem w_dec (n : Int) (h0 : -9223372036854775808 ≤ n) (h1 : n ≤ 9223372036854775807) (w : World) (ht : Lib.TabIs Tryz.prog w "internal/strconv.uint64pow10" .u64 Lib.pow10Tab) :
  Calls Tryz.prog 53 #[.int .i64 n] w fun e w'=>e= .returned (.string (itB n))∧Below w.heap.size w w':=by
 go_enter Tryz.func53,Tryz.ntmps53
 go_wp2_with (go_at_call 103;refine (sh_strconv_FormatInt_10 n h0 h1 _ ht).mono ?_;rintro e w' ⟨rfl,k,os,rfl⟩)
 go_ret
 exact ⟨rfl,Lib.below_grow _ _ (Nat.le_refl _) _ _⟩
structure NumW (w:World):Prop where
 tab : Lib.TabIs Tryz.prog w "internal/strconv.uint64pow10" .u64 Lib.pow10Tab
 e1:∃ev,w.cell? ⟨laysC174_ren.g 15,0,none⟩=some ev∧(ev= .nilIface∨∃te pe,ev= .iface te pe)
 e2:∃ev,w.cell? ⟨laysC174_ren.g 16,0,none⟩=some ev∧(ev= .nilIface∨∃te pe,ev= .iface te pe)
theorem NumW.below {B:Nat} {w w':World} (h:NumW w) (hb:Below B w w') (hB:w.heap.size≤B):NumW w':=by
 obtain ⟨a,⟨v1,b1,c1⟩,⟨v2,b2,c2⟩⟩:=h
 exact ⟨tab_below a hb hB,⟨v1,cell_below b1 hb hB,c1⟩,⟨v2,cell_below b2 hb hB,c2⟩⟩
theorem below_res {w w1:World} {t:TypeId} {x y:Value} (hb:Below (w.alloc (.cells #[x,y] t)).heap.size (w.alloc (.cells #[x,y] t)) w1):
  w1.heap[w.heap.size]? =some (.cells #[x,y] t):=by
 rw [hb.block _ (by show w.heap.size<(w.heap.push _).size;rw [Array.size_push];omega)]
 exact heap_alloc_new w _
theorem set_res {w1:World} {b:Nat} {t:TypeId} {x y p q:Value} (h:w1.heap[b]? =some (.cells #[x,y] t)):
  ((w1.setCell ⟨b,0,none⟩ p).setCell ⟨b,1,none⟩ q).heap[b]? =some (.cells #[p,q] t):=by
 unfold World.setCell
 simp only [Array.getElem?_modify,h,if_true,Option.map_some]
 rfl
theorem res_facts {w w1 w2:World} {t:TypeId} {x y:Value} (h1:Below (w.alloc (.cells #[x,y] t)).heap.size (w.alloc (.cells #[x,y] t)) w1) (h2:Below w1.heap.size w1 w2):
  Below (w.alloc (.cells #[x,y] t)).heap.size (w.alloc (.cells #[x,y] t)) w2∧w2.heap[w.heap.size]? =some (.cells #[x,y] t)∧w2.cell? ⟨w.heap.size,0,none⟩=some x∧w2.cell? ⟨w.heap.size,1,none⟩=some y∧
   w2.frozen? ⟨w.heap.size,0,none⟩=false∧w2.frozen? ⟨w.heap.size,1,none⟩=false:=by
 have hb:=h1.trans (h2.mono h1.size)
 have hr:=below_res hb
 exact ⟨hb,hr,by simp [World.cell?,hr],by simp [World.cell?,hr],by simp [World.frozen?,hr],by simp [World.frozen?,hr]⟩
theorem w_ParseNum_syntax (s:ByteArray) (hs:s.size≤281474976710656) (w:World) (hw:NumW w) (h:Lib.parseIntB 64 s.data.toList=Go.Lib.NumEnd.syntax):
  Calls Tryz.prog 132 #[.string s] w fun e w'=>e= .returned (.agg #[.int .i64 5,.int .i64 0])∧Below w.heap.size w w':=by
 obtain ⟨ev,hv,hev⟩:=hw.e1
 have hg:laysC174_ren.g 15<w.heap.size:=World.block_lt_of_cell? (h:=hv)
 go_enter Tryz.func132,Tryz.ntmps132
 go_wp2_with (go_at_call 156;refine (sh_strconv_ParseInt_10_at64_syntax s hs h ev _ ?_ hev).mono ?_)
 ·exact cell_below hv (.alloc (.refl w.heap.size w) (Nat.le_refl _) _) (Nat.le_refl _)
 rintro e w1 ⟨N,rfl, -, -,hb⟩
 have hr:=below_res hb
 have hc0:w1.cell? ⟨w.heap.size,0,none⟩=some (.int .i64 0):=by simp [World.cell?,hr]
 have hc1:w1.cell? ⟨w.heap.size,1,none⟩=some (.int .i64 0):=by simp [World.cell?,hr]
 have hf0:w1.frozen? ⟨w.heap.size,0,none⟩=false:=by simp [World.frozen?,hr]
 have hf1:w1.frozen? ⟨w.heap.size,1,none⟩=false:=by simp [World.frozen?,hr]
 go_wp2
 (try simp only [Exit.inBlock,Exit.then])
 refine bodyPost_ret (results_cell_row Tryz.results132 _ _ w.heap.size 190 _ (0,0) _ rfl (set_res hr) Tryz.underlying190 rfl rfl) rfl ?_
 exact ⟨rfl,.setCell (.setCell ((Below.alloc (.refl w.heap.size w) (Nat.le_refl _) _).trans (hb.mono (by simp))) (Nat.le_refl _) _) (Nat.le_refl _) _⟩
theorem w_ParseNum_range (s:ByteArray) (hs:s.size≤281474976710656) (w:World) (hw:NumW w) (h:Lib.parseIntB 64 s.data.toList= .range):
  Calls Tryz.prog 132 #[.string s] w fun e w'=>e= .returned (.agg #[.int .i64 5,.int .i64 0])∧Below w.heap.size w w':=by
 obtain ⟨ev,hv,hev⟩:=hw.e2
 have hg:laysC174_ren.g 16<w.heap.size:=World.block_lt_of_cell? (h:=hv)
 go_enter Tryz.func132,Tryz.ntmps132
 go_wp2_with (go_at_call 156;refine (sh_strconv_ParseInt_10_at64_range s hs h ev _ ?_ hev).mono ?_)
 ·exact cell_below hv (.alloc (.refl w.heap.size w) (Nat.le_refl _) _) (Nat.le_refl _)
 rintro e w1 ⟨N,rfl, -, -,hb⟩
 have hr:=below_res hb
 have hc0:w1.cell? ⟨w.heap.size,0,none⟩=some (.int .i64 0):=by simp [World.cell?,hr]
 have hc1:w1.cell? ⟨w.heap.size,1,none⟩=some (.int .i64 0):=by simp [World.cell?,hr]
 have hf0:w1.frozen? ⟨w.heap.size,0,none⟩=false:=by simp [World.frozen?,hr]
 have hf1:w1.frozen? ⟨w.heap.size,1,none⟩=false:=by simp [World.frozen?,hr]
 go_wp2
 (try simp only [Exit.inBlock,Exit.then])
 refine bodyPost_ret (results_cell_row Tryz.results132 _ _ w.heap.size 190 _ (0,0) _ rfl (set_res hr) Tryz.underlying190 rfl rfl) rfl ?_
 exact ⟨rfl,.setCell (.setCell ((Below.alloc (.refl w.heap.size w) (Nat.le_refl _) _).trans (hb.mono (by simp))) (Nat.le_refl _) _) (Nat.le_refl _) _⟩
theorem w_ParseNum_far (s:ByteArray) (hs:s.size≤281474976710656) (w:World) (hw:NumW w) (v:Int) (h:Lib.parseIntB 64 s.data.toList= .ok v) (hi:inB (-1000000000) 1000000000 v=false):
  Calls Tryz.prog 132 #[.string s] w fun e w'=>e= .returned (.agg #[.int .i64 5,.int .i64 0])∧Below w.heap.size w w':=by
 have hv:=Lib.parseIntB_bounds h
 have cN:∀w,Calls Tryz.prog 157 #[.int .i64 v] w fun e w'=>e= .returned (.int .i64 3)∧Below w.heap.size w w':=fun w=>by
  have:=w_NumFault v w
  unfold codeB at this
  rw [hi] at this
  exact this
 go_enter Tryz.func132,Tryz.ntmps132
 go_wp2_with (go_at_call 156;refine (sh_strconv_ParseInt_10_at64_ok s (by omega) v h _).mono ?_;rintro e w1 ⟨rfl,hW⟩)
 have hb1:Below (w.alloc (.cells #[.int .i64 0,.int .i64 0] 190)).heap.size (w.alloc (.cells #[.int .i64 0,.int .i64 0] 190)) w1:=by
  rcases hW with rfl|⟨t,rfl⟩
  ·exact Below.refl _ _
  ·exact Lib.bytesWorld_below _ _ _
 clear hW
 go_wp2_with (go_at_call 157;refine (cN _).mono ?_;rintro e w2 ⟨rfl,hb2⟩;obtain ⟨hb2,hr,hc0,hc1,hf0,hf1⟩:=res_facts hb1 hb2)
 go_wp2
 (try simp only [Exit.inBlock,Exit.then])
 refine bodyPost_ret (results_cell_row Tryz.results132 _ _ w.heap.size 190 _ (0,0) _ rfl (set_res hr) Tryz.underlying190 rfl rfl) rfl ?_
 exact ⟨rfl,.setCell (.setCell ((Below.alloc (.refl w.heap.size w) (Nat.le_refl _) _).trans (hb2.mono (by simp))) (Nat.le_refl _) _) (Nat.le_refl _) _⟩
theorem w_ParseNum_bad (s:ByteArray) (hs:s.size≤281474976710656) (w:World) (hw:NumW w) (v:Int) (h:Lib.parseIntB 64 s.data.toList= .ok v) (hi:inB (-1000000000) 1000000000 v=true) (hd:¬itB v=s):
  Calls Tryz.prog 132 #[.string s] w fun e w'=>e= .returned (.agg #[.int .i64 5,.int .i64 0])∧Below w.heap.size w w':=by
 have hv:=Lib.parseIntB_bounds h
 have cN:∀w,Calls Tryz.prog 157 #[.int .i64 v] w fun e w'=>e= .returned (.int .i64 0)∧Below w.heap.size w w':=fun w=>by
  have:=w_NumFault v w
  unfold codeB at this
  rw [hi] at this
  exact this
 have hl:((itB v).toList==s.toList)=false:=by rw [@toList_beq lam0];simp [hd]
 go_enter Tryz.func132,Tryz.ntmps132
 go_wp2_with (go_at_call 156;refine (sh_strconv_ParseInt_10_at64_ok s (by omega) v h _).mono ?_;rintro e w1 ⟨rfl,hW⟩)
 have hb1:Below (w.alloc (.cells #[.int .i64 0,.int .i64 0] 190)).heap.size (w.alloc (.cells #[.int .i64 0,.int .i64 0] 190)) w1:=by
  rcases hW with rfl|⟨t,rfl⟩
  ·exact Below.refl _ _
  ·exact Lib.bytesWorld_below _ _ _
 clear hW
 go_wp2_with (go_at_call 157;refine (cN _).mono ?_;rintro e w2 ⟨rfl,hb2⟩;obtain ⟨hb2,hr,hc0,hc1,hf0,hf1⟩:=res_facts hb1 hb2)
 have ht : Lib.TabIs Tryz.prog w2 "internal/strconv.uint64pow10" .u64 Lib.pow10Tab := tab_below hw.tab ((Below.alloc (.refl w.heap.size w) (Nat.le_refl _) _).trans (hb2.mono (by simp))) (Nat.le_refl _)
 have i1:=(@inB_iff lam0 _ _ _).1 hi
 go_wp2_with (go_at_call 53;refine (w_dec v (by omega) (by omega) w2 ht).mono ?_;rintro e w3 ⟨rfl,hb3⟩;obtain ⟨hb3,hr,hc0,hc1,hf0,hf1⟩:=res_facts hb2 hb3)
 go_wp2
 all_goals first
  |(exfalso;simp_all;done)
  |skip
 (try simp only [Exit.inBlock,Exit.then])
 refine bodyPost_ret (results_cell_row Tryz.results132 _ _ w.heap.size 190 _ (0,0) _ rfl (set_res hr) Tryz.underlying190 rfl rfl) rfl ?_
 exact ⟨rfl,.setCell (.setCell ((Below.alloc (.refl w.heap.size w) (Nat.le_refl _) _).trans (hb3.mono (by simp))) (Nat.le_refl _) _) (Nat.le_refl _) _⟩
theorem w_ParseNum_good (s:ByteArray) (hs:s.size≤281474976710656) (w:World) (hw:NumW w) (v:Int) (h:Lib.parseIntB 64 s.data.toList= .ok v) (hi:inB (-1000000000) 1000000000 v=true) (hd:itB v=s):
  Calls Tryz.prog 132 #[.string s] w fun e w'=>e= .returned (.agg #[.int .i64 0,.int .i64 v])∧Below w.heap.size w w':=by
 have hv:=Lib.parseIntB_bounds h
 have cN:∀w,Calls Tryz.prog 157 #[.int .i64 v] w fun e w'=>e= .returned (.int .i64 0)∧Below w.heap.size w w':=fun w=>by
  have:=w_NumFault v w
  unfold codeB at this
  rw [hi] at this
  exact this
 have hl:((itB v).toList==s.toList)=true:=by rw [@toList_beq lam0];simp [hd]
 go_enter Tryz.func132,Tryz.ntmps132
 go_wp2_with (go_at_call 156;refine (sh_strconv_ParseInt_10_at64_ok s (by omega) v h _).mono ?_;rintro e w1 ⟨rfl,hW⟩)
 have hb1:Below (w.alloc (.cells #[.int .i64 0,.int .i64 0] 190)).heap.size (w.alloc (.cells #[.int .i64 0,.int .i64 0] 190)) w1:=by
  rcases hW with rfl|⟨t,rfl⟩
  ·exact Below.refl _ _
  ·exact Lib.bytesWorld_below _ _ _
 clear hW
 go_wp2_with (go_at_call 157;refine (cN _).mono ?_;rintro e w2 ⟨rfl,hb2⟩;obtain ⟨hb2,hr,hc0,hc1,hf0,hf1⟩:=res_facts hb1 hb2)
 have ht : Lib.TabIs Tryz.prog w2 "internal/strconv.uint64pow10" .u64 Lib.pow10Tab := tab_below hw.tab ((Below.alloc (.refl w.heap.size w) (Nat.le_refl _) _).trans (hb2.mono (by simp))) (Nat.le_refl _)
 have i1:=(@inB_iff lam0 _ _ _).1 hi
 go_wp2_with (go_at_call 53;refine (w_dec v (by omega) (by omega) w2 ht).mono ?_;rintro e w3 ⟨rfl,hb3⟩;obtain ⟨hb3,hr,hc0,hc1,hf0,hf1⟩:=res_facts hb2 hb3)
 go_wp2
 all_goals first
  |(exfalso;simp_all;done)
  |skip
 (try simp only [Exit.inBlock,Exit.then])
 refine bodyPost_ret (results_cell_row Tryz.results132 _ _ w.heap.size 190 _ (0,0) _ rfl (set_res hr) Tryz.underlying190 rfl rfl) rfl ?_
 exact ⟨rfl,.setCell (.setCell ((Below.alloc (.refl w.heap.size w) (Nat.le_refl _) _).trans (hb3.mono (by simp))) (Nat.le_refl _) _) (Nat.le_refl _) _⟩
theorem w_ParseNum (s:ByteArray) (hs:s.size≤281474976710656) (w:World) (hw:NumW w):
  Calls Tryz.prog 132 #[.string s] w fun e w'=>e= .returned (.agg #[.int .i64 (numP s).2,.int .i64 (numP s).1])∧Below w.heap.size w w':=by
 unfold numP
 cases h:Lib.parseIntB 64 s.data.toList with
 |range=>exact w_ParseNum_range s hs w hw h
 |ok v=>
  cases hi:inB (-1000000000) 1000000000 v with
  |false=>
   have:=w_ParseNum_far s hs w hw v h hi
   simpa [hi] using this
  |true=>
   by_cases hd:itB v=s
   ·have:=w_ParseNum_good s hs w hw v h hi hd
    simpa [hi,hd] using this
   ·have:=w_ParseNum_bad s hs w hw v h hi hd
    simpa [hi,hd] using this
 |_=>exact w_ParseNum_syntax s hs w hw h
end Go.Proofs.YtbppopcpgcgkkaaGreatDoor.E
/- The library's contracts at this program. -/
namespace Go.Proofs.YtbppopcpgcgkkaaGreatDoor.E
open Go Go.Proofs
open Go.Shelf
def lays137_ren:Go.Shelf.Ren:=⟨fun|137=>85|217=>127|266=>152|n=>n,fun|9=>9|5=>5|3=>3|n=>n,fun|n=>n⟩
theorem lays137:Go.Proofs.Lays.n137 Tryz.prog lays137_ren:={
 mixed:=by kernel_rfl
 f137:=Tryz.func85.trans (congrArg some (by kernel_rfl))
 f217:=Tryz.func127.trans (congrArg some (by kernel_rfl))
 f266:=Tryz.func152.trans (congrArg some (by kernel_rfl))
 t3:=Tryz.underlying3
 a3:=Tryz.isAgg3
 z3:=Tryz.sizeOf3
 v3:=Tryz.zeroValue3
 t5:=Tryz.underlying5
 a5:=Tryz.isAgg5
 z5:=Tryz.sizeOf5
 v5:=Tryz.zeroValue5
 t9:=Tryz.underlying9
 a9:=Tryz.isAgg9
 z9:=Tryz.sizeOf9
 v9:=Tryz.zeroValue9}
open Go.RowKit in
theorem sh_strings_IndexByte (s:ByteArray) (c:Int) (w:World):
  Calls Tryz.prog 85 #[.string s,.int .u8 c] w fun e w'=>e= .returned (.int .i64 (Lib.indexByte s.data.toList c.toNat.toUInt8))∧w'=w:=Any.strings_IndexByte lays137 s c w
def lays145_ren:Go.Shelf.Ren:=⟨fun|145=>84|220=>126|219=>151|217=>127|225=>155|224=>154|267=>171|266=>152|314=>186|n=>n,fun|9=>9|4=>4|59=>136|3=>3|5=>5|46=>210|146=>240|51=>237|n=>n,fun|1=>0|n=>n⟩
theorem lays145:Go.Proofs.Lays.n145 Tryz.prog lays145_ren:={
 mixed:=by kernel_rfl
 f145:=Tryz.func84.trans (congrArg some (by kernel_rfl))
 f217:=Tryz.func127.trans (congrArg some (by kernel_rfl))
 f219:=Tryz.func151.trans (congrArg some (by kernel_rfl))
 f220:=Tryz.func126.trans (congrArg some (by kernel_rfl))
 f224:=Tryz.func154.trans (congrArg some (by kernel_rfl))
 f225:=Tryz.func155.trans (congrArg some (by kernel_rfl))
 f266:=Tryz.func152.trans (congrArg some (by kernel_rfl))
 f267:=Tryz.func171.trans (congrArg some (by kernel_rfl))
 f314:=Tryz.func186.trans (congrArg some (by kernel_rfl))
 t3:=Tryz.underlying3
 a3:=Tryz.isAgg3
 z3:=Tryz.sizeOf3
 v3:=Tryz.zeroValue3
 t4:=Tryz.underlying4
 a4:=Tryz.isAgg4
 z4:=Tryz.sizeOf4
 v4:=Tryz.zeroValue4
 t5:=Tryz.underlying5
 a5:=Tryz.isAgg5
 z5:=Tryz.sizeOf5
 v5:=Tryz.zeroValue5
 t9:=Tryz.underlying9
 a9:=Tryz.isAgg9
 z9:=Tryz.sizeOf9
 v9:=Tryz.zeroValue9
 t46:=Tryz.underlying210
 a46:=Tryz.isAgg210
 z46:=Tryz.sizeOf210
 v46:=Tryz.zeroValue210
 t51:=Tryz.underlying237
 a51:=Tryz.isAgg237
 z51:=Tryz.sizeOf237
 v51:=Tryz.zeroValue237
 t59:=Tryz.underlying136
 a59:=Tryz.isAgg136
 z59:=Tryz.sizeOf136
 v59:=Tryz.zeroValue136
 t146:=Tryz.underlying240
 a146:=Tryz.isAgg240
 z146:=Tryz.sizeOf240
 v146:=Tryz.zeroValue240
 g1:=by kernel_rfl}
open Go.RowKit Go.Lib in
theorem sh_strings_Cut (s sep:ByteArray) (m:Int) (w:World) (hs:s.size<4294967281) (hm:w.cell? ⟨0,0,none⟩=some (.int .i64 m)):
  Calls Tryz.prog 84 #[.string s,.string sep] w fun e w'=>e= .returned (.tuple #[.string ⟨(Lib.cut s.data.toList sep.data.toList).1.toArray⟩,.string ⟨(Lib.cut s.data.toList sep.data.toList).2.1.toArray⟩,.bool (Lib.cut s.data.toList sep.data.toList).2.2])∧∃n,w'=w.drewN n:=Any.strings_Cut lays145 s sep m w hs hm
def lays153_ren:Go.Shelf.Ren:=⟨fun|153=>86|152=>128|226=>129|227=>130|228=>131|137=>85|119=>153|224=>154|225=>155|217=>127|266=>152|n=>n,fun|9=>9|3=>3|4=>4|5=>5|21=>21|117=>187|116=>186|0=>0|46=>210|124=>211|n=>n,fun|n=>n⟩
theorem lays153:Go.Proofs.Lays.n153 Tryz.prog lays153_ren:={
 mixed:=by kernel_rfl
 f119:=Tryz.func153.trans (congrArg some (by kernel_rfl))
 f137:=Tryz.func85.trans (congrArg some (by kernel_rfl))
 f152:=Tryz.func128.trans (congrArg some (by kernel_rfl))
 f153:=Tryz.func86.trans (congrArg some (by kernel_rfl))
 f217:=Tryz.func127.trans (congrArg some (by kernel_rfl))
 f224:=Tryz.func154.trans (congrArg some (by kernel_rfl))
 f225:=Tryz.func155.trans (congrArg some (by kernel_rfl))
 f226:=Tryz.func129.trans (congrArg some (by kernel_rfl))
 f227:=Tryz.func130.trans (congrArg some (by kernel_rfl))
 f228:=Tryz.func131.trans (congrArg some (by kernel_rfl))
 f266:=Tryz.func152.trans (congrArg some (by kernel_rfl))
 t0:=Tryz.underlying0
 a0:=Tryz.isAgg0
 z0:=Tryz.sizeOf0
 v0:=Tryz.zeroValue0
 t3:=Tryz.underlying3
 a3:=Tryz.isAgg3
 z3:=Tryz.sizeOf3
 v3:=Tryz.zeroValue3
 t4:=Tryz.underlying4
 a4:=Tryz.isAgg4
 z4:=Tryz.sizeOf4
 v4:=Tryz.zeroValue4
 t5:=Tryz.underlying5
 a5:=Tryz.isAgg5
 z5:=Tryz.sizeOf5
 v5:=Tryz.zeroValue5
 t9:=Tryz.underlying9
 a9:=Tryz.isAgg9
 z9:=Tryz.sizeOf9
 v9:=Tryz.zeroValue9
 t21:=Tryz.underlying21
 a21:=Tryz.isAgg21
 z21:=Tryz.sizeOf21
 v21:=Tryz.zeroValue21
 t46:=Tryz.underlying210
 a46:=Tryz.isAgg210
 z46:=Tryz.sizeOf210
 v46:=Tryz.zeroValue210
 t116:=Tryz.underlying186
 a116:=Tryz.isAgg186
 z116:=Tryz.sizeOf186
 t117:=Tryz.underlying187
 a117:=Tryz.isAgg187
 z117:=Tryz.sizeOf187
 v117:=Tryz.zeroValue187
 t124:=Tryz.underlying211
 a124:=Tryz.isAgg211
 z124:=Tryz.sizeOf211
 v124:=Tryz.zeroValue211}
open Go.RowKit Go.Lib in
theorem sh_strings_IndexAny_long (hv116:∀w,(zeroValue 186).run Tryz.prog w= .ok (.agg (Array.replicate 256 (.bool false))) w) (s chars:ByteArray) (w:World) (h2:2≤chars.size) (h8:8<s.size) (hs:s.size<4294967281) (hcs:chars.size<4294967281) (hascii:∀(j:Nat) b,chars.data.toList[j]? =some b→b.toNat<128):
  Calls Tryz.prog 86 #[.string s,.string chars] w fun e w'=>e= .returned (.int .i64 (Lib.indexAny s.data.toList chars.data.toList))∧w'=((w.alloc (.cells (Lib.setCells chars.data.toList) 186)).alloc (.cells (Lib.setCells chars.data.toList) 186)):=Any.strings_IndexAny_long lays153 hv116 (by kernel_rfl) s chars w h2 h8 hs hcs hascii
end Go.Proofs.YtbppopcpgcgkkaaGreatDoor.E
/- strings.IndexRune at a rune that is none of ASCII, in a text that is. -/
namespace Go.Proofs.YtbppopcpgcgkkaaGreatDoor.E
open Go Go.Proofs Go.Shelf Go.RowKit Go.Lib
variable {P:Program} {ρ:Ren}
theorem below_iter (w:World) (s:ByteArray) (i:Nat):Below w.heap.size w (w.iter s i):=by
 refine ⟨rfl,rfl,rfl,?_,fun b hb=>?_⟩
 ·show w.heap.size≤(w.heap.push _).size
  rw [Array.size_push];omega
 ·show (w.heap.push _)[b]? =w.heap[b]?
  rw [Array.getElem?_push]
  split
  ·omega
  ·rfl
set_option maxHeartbeats 8000000 in
set_option maxRecDepth 1000000 in
theorem rune_err (L:Lays.n152 P ρ) (s:ByteArray) (w:World) (hascii:∀(j:Nat) b,s.data.toList[j]? =some b→b.toNat<128):
  Calls P (ρ.f 152) #[.string s,.int .i32 65533] w fun e w'=>e= .returned (.int .i64 (-1))∧Below w.heap.size w w':=by
 have HA:Aside (∀(j:Nat) b,s.data.toList[j]? =some b→b.toNat<128):=hascii
 clear hascii
 have t3:=L.t3;have a3:=L.a3;have z3:=L.z3;have v3:=L.v3
 have t4:=L.t4;have a4:=L.a4;have z4:=L.z4;have v4:=L.v4
 have t5:=L.t5;have a5:=L.a5;have z5:=L.z5;have v5:=L.v5
 have t9:=L.t9;have a9:=L.a9;have z9:=L.z9;have v9:=L.v9
 have t21:=L.t21;have a21:=L.a21;have z21:=L.z21;have v21:=L.v21
 go_enter L.f152,Body.n152_ntmps ρ
 go_wp2
 go_loopg [5,6] s.size (fun g _ _ wx=>∃i:Nat,i+g=s.size∧wx=w.iter s i)
 case atStart=>exact ⟨0,by omega,rfl⟩
 case round=>
  obtain ⟨i,hig,rfl⟩:=hrel
  cases gk with
  |zero=>
   obtain rfl:i=s.size:=by omega
   have hnx:=run_next_end (P:=P) w s s.size
   go_wp2
   go_ret
   exact ⟨rfl,below_iter _ _ _⟩
  |succ g=>
   have hi:i<s.size:=by omega
   obtain ⟨x,hx⟩:∃x:UInt8,s[i]'hi=x:=⟨_,rfl⟩
   have hxl:s.data.toList[i]? =some x:=by rw [←hx];exact Lib.data_getElem? s i hi
   have hx128:x.toNat<128:=HA.out i x hxl
   have hnx:=fun ty=>run_next_ascii (P:=P) w s i ty hi (by rw [hx];exact hx128)
   rw [hx] at hnx
   clear hxl hx
   have hne:((x.toNat:Int)==65533)=false:=beq_eq_false_iff_ne.2 (by omega)
   go_wp2
   go_roundg g
   case measure=>omega
   case rel=>exact ⟨i+1,by omega,rfl⟩
set_option maxHeartbeats 8000000 in
set_option maxRecDepth 1000000 in
theorem rune_bad (L:Lays.n152 P ρ) (s:ByteArray) (r:Int) (w:World) (h1:128≤r) (h2:(r==65533)=false) (h3:Lib.validRune r=false):
  Calls P (ρ.f 152) #[.string s,.int .i32 r] w fun e w'=>e= .returned (.int .i64 (-1))∧Below w.heap.size w w':=by
 have t3:=L.t3;have a3:=L.a3;have z3:=L.z3;have v3:=L.v3
 have t4:=L.t4;have a4:=L.a4;have z4:=L.z4;have v4:=L.v4
 have t5:=L.t5;have a5:=L.a5;have z5:=L.z5;have v5:=L.v5
 have t9:=L.t9;have a9:=L.a9;have z9:=L.z9;have v9:=L.v9
 have t21:=L.t21;have a21:=L.a21;have z21:=L.z21;have v21:=L.v21
 have e119:∀args w,(callFunc (ρ.f 119) args).run P w= .ok (.enter (ρ.f 119) args) w:=enters_of L.f119 (by kernel_rfl) rfl
 have hlt:decide (r<128)=false:=decide_eq_false (by omega)
 go_enter L.f152,Body.n152_ntmps ρ
 go_wp2_with (go_at_fn (ρ.f 119);refine (Any.utf8_ValidRune {L with} _ _).mono ?_;rintro e w' ⟨rfl,hw⟩;rw [hw,h3])
 go_ret
 exact ⟨rfl,.refl _ _⟩
theorem enc_last {r:Int} (h1:128≤r):∃(n:Nat) (y:UInt8),(Utf8.encode r).size=n+2∧n≤2∧(Utf8.encode r).data.toList[n+1]? =some y∧128≤y.toNat:=by
 have key:∀c:Nat,128≤(UInt8.ofNat (128+c % 64)).toNat:=fun c=>by rw [UInt8.toNat_ofNat'];omega
 unfold Utf8.encode
 simp only
 generalize hc:(if Utf8.valid r=true then r.toNat else Utf8.runeError)=c
 have h0:¬c<128:=by
  rw [←hc];split
  ·omega
  ·decide
 rw [if_neg h0]
 split
 ·exact ⟨0,_,rfl,by omega,rfl,key c⟩
 split
 ·exact ⟨1,_,rfl,by omega,rfl,key c⟩
 ·exact ⟨2,_,rfl,by omega,rfl,key c⟩
theorem indexByte_no {c:UInt8}:∀l:List UInt8,(∀x,x∈l→x≠c)→Lib.indexByte l c= -1:=by
 intro l
 induction l with
 |nil=>intro _;rfl
 |cons x r ih=>
  intro h
  have h1:=ih fun y hy=>h y (List.mem_cons_of_mem _ hy)
  have h2:(x==c)=false:=beq_eq_false_iff_ne.2 (h x (.head _))
  unfold Lib.indexByte
  simp [h2,h1]
set_option maxHeartbeats 8000000 in
set_option maxRecDepth 1000000 in
theorem rune_far (L:Lays.n152 P ρ) (s:ByteArray) (r:Int) (w:World) (hsz:4≤s.size) (hmax:s.size≤1000) (hascii:∀(j:Nat) b,s.data.toList[j]? =some b→b.toNat<128) (h1:128≤r) (h2:(r==65533)=false) (h3:Lib.validRune r=true):
  Calls P (ρ.f 152) #[.string s,.int .i32 r] w fun e w'=>e= .returned (.int .i64 (-1))∧Below w.heap.size w w':=by
 have HA:Aside (∀(j:Nat) b,s.data.toList[j]? =some b→b.toNat<128):=hascii
 clear hascii
 obtain ⟨n,y,en,hn,ey,hy⟩:=enc_last h1
 generalize hrs:Utf8.encode r=rs at en ey
 have t3:=L.t3;have a3:=L.a3;have z3:=L.z3;have v3:=L.v3
 have t4:=L.t4;have a4:=L.a4;have z4:=L.z4;have v4:=L.v4
 have t5:=L.t5;have a5:=L.a5;have z5:=L.z5;have v5:=L.v5
 have t9:=L.t9;have a9:=L.a9;have z9:=L.z9;have v9:=L.v9
 have t21:=L.t21;have a21:=L.a21;have z21:=L.z21;have v21:=L.v21
 have e119:∀args w,(callFunc (ρ.f 119) args).run P w= .ok (.enter (ρ.f 119) args) w:=enters_of L.f119 (by kernel_rfl) rfl
 have e137:∀args w,(callFunc (ρ.f 137) args).run P w= .ok (.enter (ρ.f 137) args) w:=enters_of L.f137 (by kernel_rfl) rfl
 have hlt:decide (r<128)=false:=decide_eq_false (by omega)
 go_enter L.f152,Body.n152_ntmps ρ
 go_wp2_with (go_at_fn (ρ.f 119);refine (Any.utf8_ValidRune {L with} _ _).mono ?_;rintro e w' ⟨rfl,hw⟩;rw [hw,h3])
 subst hw
 have cv:∀w,(convert (ρ.t 21) (ρ.t 9) (.int .i32 r)).run P w= .ok (.string rs) w:=fun w=>by rw [←hrs];exact run_convert_int_string w _ _ _ _ (by rw [t21];rfl) t9
 refine wp_scope_straight ?_
 go_wp2
 have e1:((n:Int)+2 - 1)=((n+1:Nat):Int):=by omega
 simp only [e1]
 have hi:n+1<s.size:=by omega
 obtain ⟨x,hx⟩:∃x:UInt8,s[n+1]'hi=x:=⟨_,rfl⟩
 have hxl:s.data.toList[n+1]? =some x:=by rw [←hx];exact Lib.data_getElem? s (n+1) hi
 have hx128:x.toNat<128:=HA.out (n+1) x hxl
 have hir:n+1<rs.size:=by omega
 have hyr:rs[n+1]'hir=y:=by
  have:=Lib.data_getElem? rs (n+1) hir
  rw [ey] at this
  exact (Option.some.inj this).symm
 have hlt2:decide (((n+1:Nat):Int)<(s.size:Int))=true:=decide_eq_true (by omega)
 have hne:((x.toNat:Int)==(y.toNat:Int))=false:=beq_eq_false_iff_ne.2 (by omega)
 have hback:((y.toNat:Int)).toNat.toUInt8=y:=by simp
 have hib:∀a b,Lib.indexByte (s.extract a b).data.toList ((y.toNat:Int)).toNat.toUInt8= -1:=fun a b=>by
  rw [hback]
  refine indexByte_no _ fun z hz=>?_
  rw [ByteArray.data_extract,Array.toList_extract,List.extract_eq_take_drop] at hz
  obtain ⟨k,hk⟩:=List.getElem?_of_mem (List.mem_of_mem_drop (List.mem_of_mem_take hz))
  have:=HA.out k z hk
  rintro rfl
  omega
 refine wp_loop_rounds 1 ?_
 rw [rounds_succ]
 go_wp2
 refine wp_scope_straight ?_
 go_wp2
 have r1:∀w,(Instr.index (ρ.t 9) (.string s) (.int .i64 ((n+1:Nat):Int))).run P w= .ok (.int .u8 (x.toNat:Int)) w:=fun w=>by
  rw [run_index_string _ _ _ _ _ t9,dif_pos (by omega)]
  have:((n+1:Nat):Int).toNat=n+1:=by omega
  simp only [this,hx]
 have r2:∀w,(Instr.index (ρ.t 9) (.string rs) (.int .i64 ((n+1:Nat):Int))).run P w= .ok (.int .u8 (y.toNat:Int)) w:=fun w=>by
  rw [run_index_string _ _ _ _ _ t9,dif_pos (by omega)]
  have:((n+1:Nat):Int).toNat=n+1:=by omega
  simp only [this,hyr]
 have r3:∀w,(Instr.slice (ρ.t 9) (.string s) (some (.int .i64 (((n+1:Nat):Int)+1))) none none).run P w= .ok (.string (s.extract (n+2) s.size)) w:=fun w=>by
  rw [run_slice_string_l _ _ _ t9 _ _ (by omega) (by omega)]
  have:(((n+1:Nat):Int)+1).toNat=n+2:=by omega
  rw [this]
 have r3':∀w,(Instr.slice (ρ.t 9) (.string s) (some (.int .i64 ((n:Int)+1+1))) none none).run P w= .ok (.string (s.extract (n+2) s.size)) w:=fun w=>by
  have:=r3 w
  rwa [show (((n+1:Nat):Int)+1)=(n:Int)+1+1 by omega] at this
 have hw1:IntKind.i64.wrap ((n:Int)+1+1)=(n:Int)+1+1:=by
  rcases (by omega:n=0∨n=1∨n=2) with h|h|h<;>rw [h]<;>decide
 have hw2:IntKind.i64.wrap (((n+1:Nat):Int)+1)=((n+1:Nat):Int)+1:=by
  rcases (by omega:n=0∨n=1∨n=2) with h|h|h<;>rw [h]<;>decide
 have hz1:(0:Int)≤((n+1:Nat):Int)+1:=by omega
 have hz2:((n+1:Nat):Int)+1≤(s.size:Int):=by omega
 have mixed:=L.mixed
 go_region_o
 go_wp2
 go_region_with_o (refine (Any.strings_IndexByte {L with} _ _ _).mono ?_;rintro e w'' ⟨rfl,hw2⟩;rw [hw2,hib])
 go_wp2
 simp only [Exit.inBlock,Exit.then,Exit.noGoto]
 go_ret
 exact ⟨rfl,.drew (.drew (.refl _ _))⟩
theorem rune_all (L:Lays.n152 P ρ) (s:ByteArray) (r:Int) (w:World) (hsz:4≤s.size) (hmax:s.size≤1000) (hascii:∀(j:Nat) b,s.data.toList[j]? =some b→b.toNat<128) (h1:128≤r):
  Calls P (ρ.f 152) #[.string s,.int .i32 r] w fun e w'=>e= .returned (.int .i64 (-1))∧Below w.heap.size w w':=by
 by_cases h:r=65533
 ·subst h;exact rune_err L s w hascii
 ·have h2:(r==65533)=false:=beq_eq_false_iff_ne.2 h
  cases h3:Lib.validRune r with
  |true=>exact rune_far L s r w hsz hmax hascii h1 h2 h3
  |false=>exact rune_bad L s r w h1 h2 h3
end Go.Proofs.YtbppopcpgcgkkaaGreatDoor.E
/- strings.IndexAny: ASCII bytes in any text. -/
namespace Go.Proofs.YtbppopcpgcgkkaaGreatDoor.E
open Go Go.Proofs Go.Shelf Go.RowKit Go.Lib
variable {P:Program} {ρ:Ren}
theorem get!_eq {s:ByteArray} {i:Nat} (h:i<s.size):s.get! i=s[i]:=by
 show s.data[i]! =_
 rw [getElem!_pos s.data i h];rfl
theorem decode_far {s:ByteArray} {i:Nat} (hi:i<s.size) (h:128≤(s[i]'hi).toNat):128≤(Utf8.decode s i).1∧1≤(Utf8.decode s i).2∧i+(Utf8.decode s i).2≤s.size∧∀j,i≤j→j<i+(Utf8.decode s i).2→∀hj:j<s.size,128≤(s[j]'hj).toNat:=by
 have c1:∀k,(decide (i+k<s.size)&&(s.get! (i+k)).toNat / 64==2)=true→i+k<s.size∧128≤(s.get! (i+k)).toNat:=fun k hk=>by
  simp only [Bool.and_eq_true,decide_eq_true_iff,beq_iff_eq] at hk
  exact ⟨hk.1,by omega⟩
 have base:∀d,(∀k,k<d→i+k<s.size∧128≤(s.get! (i+k)).toNat)→∀j,i≤j→j<i+d→∀hj:j<s.size,128≤(s[j]'hj).toNat:=fun d hd j h1 h2 hj=>by
  have:=(hd (j - i) (by omega)).2
  rw [show i+(j - i)=j by omega,get!_eq hj] at this
  exact this
 have h0:i+0<s.size∧128≤(s.get! (i+0)).toNat:=⟨hi,by rw [Nat.add_zero,get!_eq hi];exact h⟩
 have one:∀k,k<1→i+k<s.size∧128≤(s.get! (i+k)).toNat:=fun k hk=>by
  have e:k=0:=by omega
  rw [e];exact h0
 have er:128≤Utf8.runeError∧1≤1∧i+1≤s.size∧∀j,i≤j→j<i+1→∀hj:j<s.size,128≤(s[j]'hj).toNat:=⟨by decide,by omega,by omega,base 1 one⟩
 unfold Utf8.decode
 simp only
 rw [if_neg (by have:=h0.2;omega)]
 split
 ·rename_i k1
  rw [Bool.and_eq_true] at k1
  have a1:=c1 1 k1.2
  split
  ·rename_i g
   refine ⟨g,by omega,by omega,base 2 fun k hk=>?_⟩
   match k,hk with
   |0,_=>exact h0
   |1,_=>exact a1
  ·exact er
 split
 ·rename_i k1
  rw [Bool.and_eq_true,Bool.and_eq_true] at k1
  have a1:=c1 1 k1.1.2
  have a2:=c1 2 k1.2
  split
  ·rename_i g
   rw [Bool.and_eq_true,decide_eq_true_iff] at g
   refine ⟨by have:=g.1;dsimp only;omega,by omega,by omega,base 3 fun k hk=>?_⟩
   match k,hk with
   |0,_=>exact h0
   |1,_=>exact a1
   |2,_=>exact a2
  ·exact er
 split
 ·rename_i k1
  rw [Bool.and_eq_true,Bool.and_eq_true,Bool.and_eq_true] at k1
  have a1:=c1 1 k1.1.1.2
  have a2:=c1 2 k1.1.2
  have a3:=c1 3 k1.2
  split
  ·rename_i g
   rw [Bool.and_eq_true,decide_eq_true_iff] at g
   refine ⟨by have:=g.1;dsimp only;omega,by omega,by omega,base 4 fun k hk=>?_⟩
   match k,hk with
   |0,_=>exact h0
   |1,_=>exact a1
   |2,_=>exact a2
   |3,_=>exact a3
  ·exact er
 ·exact er
theorem iter_at (w:World) (s:ByteArray) (i:Nat):(w.iter s i).heap[w.heap.size]? =some (.stringIter s i):=by
 show (w.heap.push _)[w.heap.size]? =_
 rw [Array.getElem?_push,if_pos rfl]
theorem noAny_more {s chars:ByteArray} {i d:Nat} (hno:Lib.NoAny s.data.toList chars.data.toList i) (hc:∀(j:Nat) b,chars.data.toList[j]? =some b→b.toNat<128) (hd:∀j,i≤j→j<i+d→∀hj:j<s.size,128≤(s[j]'hj).toNat):Lib.NoAny s.data.toList chars.data.toList (i+d):=by
 intro j b hj hb
 by_cases c:j<i
 ·exact hno j b c hb
 ·have hjs:j<s.size:=by
   have:=(List.getElem?_eq_some_iff.1 hb).1
   rw [Lib.size_eq];exact this
  have h1:=hd j (by omega) hj hjs
  have h2:s.data.toList[j]? =some (s[j]'hjs):=Lib.data_getElem? s j hjs
  rw [hb] at h2
  obtain rfl:=Option.some.inj h2
  cases hcon:chars.data.toList.contains (s[j]'hjs) with
  |false=>rfl
  |true=>
   have:=List.contains_iff_mem.1 hcon
   obtain ⟨k,hk⟩:=List.getElem?_of_mem this
   have:=hc k _ hk
   omega
set_option maxHeartbeats 8000000 in
set_option maxRecDepth 1000000 in
theorem indexAny_short (L:Lays.n153 P ρ) (s chars:ByteArray) (w:World) (h2:4≤chars.size) (hcm:chars.size≤1000) (h8:s.size≤8) (hascii:∀(j:Nat) b,chars.data.toList[j]? =some b→b.toNat<128):
  Calls P (ρ.f 153) #[.string s,.string chars] w fun e w'=>e= .returned (.int .i64 (Lib.indexAny s.data.toList chars.data.toList))∧Below w.heap.size w w':=by
 have HA:Aside (∀(j:Nat) b,chars.data.toList[j]? =some b→b.toNat<128):=hascii
 clear hascii
 have hemp:chars.toList.isEmpty=false:=by
  rw [Lib.toList_data]
  cases h:chars.data.toList with
  |nil=>have:=Lib.size_eq chars;rw [h,List.length_nil] at this;omega
  |cons _ _=>rfl
 have hn1:((chars.size:Int)==1)=false:=beq_eq_false_iff_ne.2 (by omega)
 have h8z:decide ((8:Int)<(s.size:Int))=false:=decide_eq_false (by omega)
 have t3:=L.t3;have a3:=L.a3;have z3:=L.z3;have v3:=L.v3
 have t4:=L.t4;have a4:=L.a4;have z4:=L.z4;have v4:=L.v4
 have t5:=L.t5;have a5:=L.a5;have z5:=L.z5;have v5:=L.v5
 have t9:=L.t9;have a9:=L.a9;have z9:=L.z9;have v9:=L.v9
 have t21:=L.t21;have a21:=L.a21;have z21:=L.z21;have v21:=L.v21
 have e152:∀args w,(callFunc (ρ.f 152) args).run P w= .ok (.enter (ρ.f 152) args) w:=enters_of L.f152 (by kernel_rfl) rfl
 have e226:∀args w,(callFunc (ρ.f 226) args).run P w= .ok (.enter (ρ.f 226) args) w:=enters_of L.f226 (by kernel_rfl) rfl
 go_enter L.f153,Body.n153_ntmps ρ
 go_wp2_with (go_at_fn (ρ.f 226);refine (Any.strings_shouldUseASCIISet {L with} _ _).mono ?_;rintro e w' ⟨rfl,hw⟩;rw [hw,h8z])
 go_loopg [9,10] s.size (fun g _ _ wx=>∃i:Nat,i+g=s.size∧wx.heap[w.heap.size]? =some (.stringIter s i)∧Below w.heap.size w wx∧Lib.NoAny s.data.toList chars.data.toList i)
 case atStart=>exact ⟨0,by omega,iter_at _ _ _,below_iter _ _ _,Lib.NoAny.zero _ _⟩
 case round=>
  obtain ⟨i,hig,hk,hbel,hno⟩:=hrel
  have HN:Aside (Lib.NoAny s.data.toList chars.data.toList i):=hno
  clear hno
  by_cases hi:i<s.size
  ·obtain ⟨x,hx⟩:∃x:UInt8,s[i]'hi=x:=⟨_,rfl⟩
   have hxl:s.data.toList[i]? =some x:=by rw [←hx];exact Lib.data_getElem? s i hi
   by_cases hx128:x.toNat<128
   ·have hnx:=fun ty=>run_next_ascii_at (P:=P) wr w.heap.size s i ty hk hi (by rw [hx];exact hx128)
    rw [hx] at hnx
    have Hx:Aside (s.data.toList[i]? =some x):=hxl
    have hk':=iterAt_heap wr w.heap.size s i (i+1) hk
    have hbel':=below_iterAt hbel (Nat.le_refl _) s (i+1)
    generalize wr.iterAt w.heap.size s (i+1)=wy at hnx hk' hbel'
    clear hxl hx
    have hcon:=Lib.contains_iff_indexByte chars.data.toList x
    have hback:((x.toNat:Int)).toNat.toUInt8=x:=by simp
    cases hin:chars.data.toList.contains x
    ·rw [hin] at hcon
     have hlt:¬((0:Int)≤Lib.indexByte chars.data.toList x):=of_decide_eq_false hcon.symm
     clear hcon
     go_wp2_with (go_at_fn (ρ.f 152);refine (Any.strings_IndexRune_ascii {L with} _ _ _ (by omega) (by omega)).mono ?_;rintro e w' ⟨rfl,hw⟩;rw [hw,hback])
     go_roundg (s.size - (i+1))
     case measure=>omega
     case rel=>exact ⟨i+1,by omega,hk',hbel',HN.out.succ Hx.out hin⟩
    ·rw [hin] at hcon
     have hge:(0:Int)≤Lib.indexByte chars.data.toList x:=of_decide_eq_true hcon.symm
     clear hcon
     go_wp2_with (go_at_fn (ρ.f 152);refine (Any.strings_IndexRune_ascii {L with} _ _ _ (by omega) (by omega)).mono ?_;rintro e w' ⟨rfl,hw⟩;rw [hw,hback])
     go_ret
     exact ⟨by rw [Lib.indexAny_hit HN.out Hx.out hin];rfl,hbel'⟩
   ·have hD:=decode_far hi (by rw [hx];omega)
    have hnx:=fun ty=>run_next_any_at (P:=P) wr w.heap.size s i ty hk hi
    generalize Utf8.decode s i=D at hD hnx
    obtain ⟨r,d⟩:=D
    obtain ⟨d1,d2,d3,d4⟩:=hD
    dsimp only at d1 d2 d3 d4 hnx
    have hk':=iterAt_heap wr w.heap.size s i (i+d) hk
    have hbel':=below_iterAt hbel (Nat.le_refl _) s (i+d)
    generalize wr.iterAt w.heap.size s (i+d)=wy at hnx hk' hbel'
    have hno':Aside (Lib.NoAny s.data.toList chars.data.toList (i+d)):=noAny_more HN.out HA.out d4
    have cR:=rune_all {L with} chars (r:Int) wy h2 hcm HA.out (by omega)
    clear d4 hxl hx hx128
    go_wp2_with (go_at_fn (ρ.f 152);refine cR.mono ?_;rintro e w' ⟨rfl,hw⟩)
    go_roundg (s.size - (i+d))
    case measure=>omega
    case rel=>
     have hlt:w.heap.size<wy.heap.size:=(Array.getElem?_eq_some_iff.1 hk').1
     exact ⟨i+d,by omega,by rw [hw.block _ hlt];exact hk',hbel'.trans (hw.mono hbel'.size),hno'.out⟩
  ·obtain rfl:i=s.size:=by omega
   have hnx:=fun ty=>run_next_end_at (P:=P) wr w.heap.size s s.size ty hk hi
   go_wp2
   go_ret
   exact ⟨by rw [Lib.indexAny_none (by rw [←Lib.size_eq];exact HN.out)];rfl,hbel⟩
end Go.Proofs.YtbppopcpgcgkkaaGreatDoor.E
/- ParseNum, strings.Cut, IndexByte and IndexAny as calls in abstract values. -/
namespace Go.Proofs.YtbppopcpgcgkkaaGreatDoor.E
open Go Go.RowKit
set_option maxRecDepth 100000
def QS (w:World):Prop:=NumW w∧∃m:Int,w.cell? ⟨0,0,none⟩=some (.int .i64 m)
variable [L:Lam] [K:Knows QS]
theorem QS_at {κ:Kap} {σ:AH} {w:World} (hr:Rel κ σ w):QS w:=by
 obtain ⟨⟨h1,m,h2⟩,hB⟩:=K.knows κ hr.kp
 exact ⟨h1.below hr.bel hB,m,cell_below h2 hr.bel hB⟩
variable {σ:AH} {R:AEnd→AH→Prop}
theorem c_impl_ParseNum {s:ByteArray} (hs:s.size≤1048576) (h:R (.ret (.agg [iv (numP s).2,iv (numP s).1])) σ):acall TP fn_impl_ParseNum [str s] σ R:=by
 refine ⟨_,Tryz.func132,rfl,by decide,fun κ w vs hr hv=>?_⟩
 obtain ⟨v,rfl⟩:∃v,vs=[v]:=by
  have:=hv.1
  match vs,this with
  |[a],_=>exact ⟨a,rfl⟩
 have e1:v= .string s:=by have h:VR κ (str s) v:=hv.2 0 (by simp);cases h;rfl
 subst e1
 refine (w_ParseNum s (by omega) w (QS_at hr).1).mono ?_
 rintro e w' ⟨rfl,hw⟩
 refine ⟨κ,_,σ,h,.below hr hw,?_⟩
 show VR κ (.agg [iv (numP s).2,iv (numP s).1]) (.agg [Value.int .i64 (numP s).2,Value.int .i64 (numP s).1].toArray)
 refine .agg rfl fun i hi=>?_
 match i,hi with
 |0,_=>exact .val _
 |1,_=>exact .val _
theorem below_drewN (w:World) (n:Nat):Below w.heap.size w (w.drewN n):=⟨rfl,rfl,rfl,Nat.le_refl _,fun _ _=>rfl⟩
theorem c_strings_Cut {l p:List UInt8} (hl:l.length≤1048576) (h:R (.ret (.tup [str (bs (Lib.cut l p).1),str (bs (Lib.cut l p).2.1),bv (Lib.cut l p).2.2])) σ):acall TP fn_strings_Cut [str (bs l),str (bs p)] σ R:=by
 refine acall_valA (fn:=_) (v:= .tuple #[.string (bs (Lib.cut l p).1),.string (bs (Lib.cut l p).2.1),.bool (Lib.cut l p).2.2]) Tryz.func84 rfl (by decide) vals_two (fun κ=>?_) h fun κ w hr=>?_
 ·show VR κ (.tup _) (.tuple [Value.string (bs (Lib.cut l p).1),.string (bs (Lib.cut l p).2.1),.bool (Lib.cut l p).2.2].toArray)
  refine .tup rfl fun i hi=>?_
  match i,hi with
  |0,_=>exact .val _
  |1,_=>exact .val _
  |2,_=>exact .val _
 ·obtain ⟨m,hm⟩:=(QS_at hr).2
  refine (sh_strings_Cut (bs l) (bs p) m w (by rw [size_bs];omega) hm).mono ?_
  rintro e w' ⟨rfl,n,rfl⟩
  exact ⟨by simp,below_drewN w n⟩
theorem c_strings_IndexByte {l:List UInt8} {c:UInt8} (h:R (.ret (iv (Lib.indexByte l c))) σ):acall TP fn_strings_IndexByte [str (bs l),u8v (c.toNat:Nat)] σ R:=by
 refine acall_val (fn:=_) Tryz.func85 rfl (by decide) vals_two h fun κ w hr=>(sh_strings_IndexByte (bs l) (c.toNat:Nat) w).mono ?_
 rintro e w' ⟨rfl,rfl⟩
 exact ⟨by simp,.refl _ _⟩
theorem zero186:(Tryz.prog.info? 186).map (fun i=>(i.zero,i.size))=some (some (.agg (Array.replicate 256 (.bool false))),256):=by kernel_rfl
theorem c_strings_IndexAny {l p:List UInt8} (hl:l.length≤1048576) (h4:4≤p.length) (hp:p.length≤1000) (ha:∀c,c∈p→c.toNat<128) (h:R (.ret (iv (Lib.indexAny l p))) σ):acall TP fn_strings_IndexAny [str (bs l),str (bs p)] σ R:=by
 have hasc:∀(j:Nat) b,(bs p).data.toList[j]? =some b→b.toNat<128:=fun j b hb=>ha b (by simpa using List.mem_of_getElem? hb)
 refine acall_val (fn:=_) Tryz.func86 rfl (by decide) vals_two h fun κ w hr=>?_
 by_cases c:8<l.length
 ·refine (sh_strings_IndexAny_long (zero_of_info zero186).1 (bs l) (bs p) w (by rw [size_bs];omega) (by rw [size_bs];omega) (by rw [size_bs];omega) (by rw [size_bs];omega) hasc).mono ?_
  rintro e w' ⟨rfl,rfl⟩
  exact ⟨by simp,.alloc (.alloc (.refl _ _) (Nat.le_refl _) _) (by simp) _⟩
 ·refine (indexAny_short lays153 (bs l) (bs p) w (by rw [size_bs];omega) (by rw [size_bs];omega) (by rw [size_bs];omega) hasc).mono ?_
  rintro e w' ⟨rfl,hw⟩
  exact ⟨by simp,hw⟩
end Go.Proofs.YtbppopcpgcgkkaaGreatDoor.E
/- What a row's condition tells of the first world. -/
namespace Go.Proofs.YtbppopcpgcgkkaaGreatDoor.E
open Go Go.RowKit
set_option maxRecDepth 100000
theorem tab_of {P:Program} {W:World} {name:String} {k:IntKind} {zs:List Int} {g:Nat} {t e:TypeId} {n:Nat}
  (hg:P.globalNamed name=some g) (hty:(P.globals[g]?).map (·.type)=some t) (ht:P.underlying t=some (.array n e)) (he:P.underlying e=some (.int k)) (hce:P.cellsOf e=1) (hct:P.cellsOf t=n)
  (h:Lib.VarReads P W name (Lib.tabData k zs)):Lib.TabIs P W name k zs:=by
 obtain ⟨g',t',cs,fuel,p,hg',ht',hvar,hd⟩:=h
 obtain rfl:=Option.some.inj (hg.symm.trans hg')
 obtain rfl:=Option.some.inj (hty.symm.trans ht')
 unfold Lib.TabIs
 rw [hvar,←Lib.cells_of_tab ht he hce hct hd]
theorem err_of {P:Program} {W:World} {name nm:String} {d:DataW Unit} {g:Nat} {t:TypeId} {ms:Array (String × TypeId)}
  (hg:P.globalNamed name=some g) (hty:(P.globals[g]?).map (·.type)=some t) (ht:P.underlying t=some (.interface ms))
  (h:Lib.VarReads P W name (.iface nm d)):∃ev,W.cell? ⟨g,0,none⟩=some ev∧(ev= .nilIface∨∃te pe,ev= .iface te pe):=by
 obtain ⟨g',t',cs,fuel,p,hg',ht',hvar,hd⟩:=h
 obtain rfl:=Option.some.inj (hg.symm.trans hg')
 obtain rfl:=Option.some.inj (hty.symm.trans ht')
 obtain ⟨_,u,v,e,_,_⟩:=iface_of_trod ht hd
 refine ⟨.iface u v,?_,.inr ⟨u,v,rfl⟩⟩
 have:=World.var?_cell hg hvar 0
 rw [this]
 have e2:cs=#[.iface u v]:=by rw [←e]
 rw [e2]
 rfl
theorem QS_of {W : World} {l : List (String × DataW Unit)} (hl : laidMet Tryz.prog l W) (h1 : ("internal/strconv.uint64pow10", Rows.laid_internal_strconv_uint64pow10) ∈ l)
  (h2 : ("strconv.ErrSyntax", Rows.laid_strconv_ErrSyntax) ∈ l) (h3 : ("strconv.ErrRange", Rows.laid_strconv_ErrRange) ∈ l) (hs : W.ShapedOpen Tryz.prog) : QS W := by
 refine ⟨⟨?_,?_,?_⟩,?_⟩
 ·exact tab_of (g:=1) (t:=236) (e:=222) (n:=20) (by kernel_rfl) (by kernel_rfl) Tryz.underlying236 Tryz.underlying222 (by kernel_rfl) (by kernel_rfl) (Lib.laidMet.reads hl h1)
 ·exact err_of (g:=2) (t:=162) (by kernel_rfl) (by kernel_rfl) Tryz.underlying162 (Lib.laidMet.reads hl h2)
 ·exact err_of (g:=3) (t:=162) (by kernel_rfl) (by kernel_rfl) Tryz.underlying162 (Lib.laidMet.reads hl h3)
 ·exact cell_of_shapedOpen_int (P:=Tryz.prog) (g:=0) (t:=3) (zero:=#[.int .i64 0]) hs (of_decide_eq_true (by kernel_rfl)) (by kernel_rfl) rfl (by kernel_rfl) (by kernel_rfl) Tryz.underlying3
end Go.Proofs.YtbppopcpgcgkkaaGreatDoor.E
/- Copies of arguments that are owned. -/
namespace Go.Proofs.YtbppopcpgcgkkaaGreatDoor.E
open Go Go.RowKit
variable [L:Lam]
variable {σ τ:AH} {R:AEnd→AH→Prop}
theorem Fz.move {σ0 σ1 τ':AH} {a b:AV} (h:Fz σ0 τ a b) (h0:∀φ,σ0 φ=none→σ1 φ=none) (hm:∀φ F,σ0 φ=none→τ φ=some F→τ' φ=some F):Fz σ1 τ' a b:=by
 induction h with
 |same a=>exact .same a
 |agg hl h ih=>exact .agg hl ih
 |tup hl h ih=>exact .tup hl ih
 |own hF hz hst hl hn hs h ih=>exact .own (hm _ _ hz hF) (h0 _ hz) hst hl hn hs ih
 |ro hn hz h ih=>exact .ro hn hz ih
 |ptr hF hz hst hi hlen hc h ih=>exact .ptr (hm _ _ hz hF) (h0 _ hz) hst hi hlen hc ih
 |emp=>exact .emp
 |nil=>exact .nil
set_option maxRecDepth 100000 in
def encOpA (o:OpD) (a:AV):List AV:=[iv o.kind,iv o.a,iv o.b,iv o.c,iv o.d,str o.name,a]
end Go.Proofs.YtbppopcpgcgkkaaGreatDoor.E
/- Code that is owned: lists of blocks, of operations, of data, each in a family of its own. -/
namespace Go.Proofs.YtbppopcpgcgkkaaGreatDoor.E
open Go Go.RowKit
set_option maxRecDepth 100000
def famL:AV→List Nat
 | .own φ _ _ _=>[φ]
 |_=>[]
theorem famL_mem {a:AV} {ψ:Nat}:ψ∈famL a↔Buf.fam a ψ:=by
 constructor
 ·intro h
  cases a with
  |own φ st off n=>
   obtain rfl:ψ=φ:=by simpa [famL] using h
   exact ⟨st,off,n,rfl⟩
  |_=>simp [famL] at h
 ·rintro ⟨st,off,n,rfl⟩
  simp [famL]
abbrev Its:=List (OpD × AV)
def itsF (its:Its):List Nat:=its.flatMap fun p=>famL p.2
def opsF' (v:AV) (its:Its):List Nat:=famL v++itsF its
structure BI where
 args:Int
 av:AV
 its:Its
def biF (b:BI):List Nat:=opsF' b.av b.its
def blksF (v:AV) (bs:List BI):List Nat:=famL v++bs.flatMap biF
section
variable [L:Lam]
variable {σ τ τ':AH} {R:AEnd→AH→Prop}
def ItsH (τ:AH) (its:Its):Prop:=∀p,p∈its→Buf τ 4 p.2 (p.1.data.map encDat)
def OpsH (τ:AH) (v:AV) (its:Its):Prop:=Buf τ 7 v (its.map fun p=>encOpA p.1 p.2)∧ItsH τ its
def BlksH (τ:AH) (v:AV) (bs:List BI):Prop:=Buf τ 2 v (bs.map fun b=>[iv b.args,b.av])∧∀b,b∈bs→OpsH τ b.av b.its
theorem buf_keep {sz:Nat} {a:AV} {es:List (List AV)} (h:Buf τ sz a es) (k:∀ψ,ψ∈famL a→τ' ψ=τ ψ):Buf τ' sz a es:=h.keep fun ψ hf=>k ψ (famL_mem.2 hf)
theorem ItsH.keep {its:Its} (h:ItsH τ its) (k:∀ψ,ψ∈itsF its→τ' ψ=τ ψ):ItsH τ' its:=
 fun p hp=>buf_keep (h p hp) fun ψ hψ=>k ψ (List.mem_flatMap.2 ⟨p,hp,hψ⟩)
theorem OpsH.keep {v:AV} {its:Its} (h:OpsH τ v its) (k:∀ψ,ψ∈opsF' v its→τ' ψ=τ ψ):OpsH τ' v its:=
 ⟨buf_keep h.1 fun ψ hψ=>k ψ (List.mem_append_left _ hψ),h.2.keep fun ψ hψ=>k ψ (List.mem_append_right _ hψ)⟩
theorem BlksH.keep {v:AV} {bs:List BI} (h:BlksH τ v bs) (k:∀ψ,ψ∈blksF v bs→τ' ψ=τ ψ):BlksH τ' v bs:=
 ⟨buf_keep h.1 fun ψ hψ=>k ψ (List.mem_append_left _ hψ),fun b hb=>(h.2 b hb).keep fun ψ hψ=>k ψ (List.mem_append_right _ (List.mem_flatMap.2 ⟨b,hb,hψ⟩))⟩
theorem buf_live {sz:Nat} {a:AV} {es:List (List AV)} (h:Buf τ sz a es) {ψ:Nat} (hm:ψ∈famL a):∃F,τ ψ=some F:=h.fam_some (famL_mem.1 hm)
theorem ItsH.live {its:Its} (h:ItsH τ its) {ψ:Nat} (hm:ψ∈itsF its):∃F,τ ψ=some F:=by
 obtain ⟨p,hp,hψ⟩:=List.mem_flatMap.1 hm
 exact buf_live (h p hp) hψ
theorem OpsH.live {v:AV} {its:Its} (h:OpsH τ v its) {ψ:Nat} (hm:ψ∈opsF' v its):∃F,τ ψ=some F:=by
 rcases List.mem_append.1 hm with hm|hm
 ·exact buf_live h.1 hm
 ·exact h.2.live hm
theorem BlksH.live {v:AV} {bs:List BI} (h:BlksH τ v bs) {ψ:Nat} (hm:ψ∈blksF v bs):∃F,τ ψ=some F:=by
 rcases List.mem_append.1 hm with hm|hm
 ·exact buf_live h.1 hm
 ·obtain ⟨b,hb,hψ⟩:=List.mem_flatMap.1 hm
  exact (h.2 b hb).live hψ
theorem buf_own {sz:Nat} {a:AV} {es:List (List AV)} (h:Buf τ sz a es) (hn:es≠[]):∃φ st,a= .own φ st 0 es.length∧τ φ=some ⟨st,sz,es⟩:=by
 rcases h with ⟨_,e⟩|h
 ·exact absurd e hn
 ·exact h
theorem fz_row {sz:Nat} {a:AV} {es fs:List (List AV)} (h:Buf τ sz a es) (h0:∀ψ,ψ∈famL a→σ ψ=none) (hl:fs.length=es.length) (hz:∀c,c∈fs→c.length=sz)
  (hc:∀i j,i<es.length→j<sz→Fz σ τ ((es.getD i []).getD j .any) ((fs.getD i []).getD j .any)):Fz σ τ a (.ro fs):=by
 rcases h with ⟨e1,e⟩|⟨φ,st,rfl,hF⟩
 ·subst e
  have:fs=[]:=List.length_eq_zero_iff.1 hl
  subst this
  rcases e1 with rfl|rfl
  ·exact .nil
  ·exact .emp
 ·refine .own hF (h0 φ (by simp [famL])) rfl (by simp) hl (fun i hi=>?_) (fun i j hi hj=>?_)
  ·have hi':i<fs.length:=by omega
   have e:fs.getD i []=fs[i]:=by simp [List.getD,hi']
   rw [e];exact hz _ (List.getElem_mem hi')
  ·rw [Nat.zero_add];exact hc i j hi hj
theorem fz_data {a:AV} {ds:List Dat} (h:Buf τ 4 a (ds.map encDat)) (h0:∀ψ,ψ∈famL a→σ ψ=none):Fz σ τ a (roD ds):=
 fz_row h h0 rfl (by intro c hc;obtain ⟨x,_,rfl⟩:=List.mem_map.1 hc;rfl) fun _ _ _ _=> .same _
theorem fz_ops {v:AV} {its:Its} (h:OpsH τ v its) (h0:∀ψ,ψ∈opsF' v its→σ ψ=none):Fz σ τ v (roO (its.map (·.1))):=by
 refine fz_row h.1 (fun ψ hψ=>h0 ψ (List.mem_append_left _ hψ)) (by simp) (by intro c hc;obtain ⟨x,_,rfl⟩:=List.mem_map.1 hc;rfl) fun i j hi hj=>?_
 have hi':i<its.length:=by simpa using hi
 have e1:(its.map fun p=>encOpA p.1 p.2).getD i []=encOpA its[i].1 its[i].2:=by simp [List.getD,hi']
 have e2:((its.map (·.1)).map encOp).getD i []=encOp its[i].1:=by simp [List.getD,hi']
 rw [e1,e2]
 match j,hj with
 |0,_=>exact .same _
 |1,_=>exact .same _
 |2,_=>exact .same _
 |3,_=>exact .same _
 |4,_=>exact .same _
 |5,_=>exact .same _
 |6,_=>exact fz_data (h.2 _ (List.getElem_mem hi')) fun ψ hψ=>h0 ψ (List.mem_append_right _ (List.mem_flatMap.2 ⟨_,List.getElem_mem hi',hψ⟩))
def cont (bs:List BI):List Blk:=bs.map fun b=>⟨b.args,b.its.map (·.1)⟩
theorem fz_blks {v:AV} {bs:List BI} (h:BlksH τ v bs) (h0:∀ψ,ψ∈blksF v bs→σ ψ=none):Fz σ τ v (roBk (cont bs)):=by
 refine fz_row h.1 (fun ψ hψ=>h0 ψ (List.mem_append_left _ hψ)) (by simp [cont]) (by intro c hc;obtain ⟨x,_,rfl⟩:=List.mem_map.1 hc;rfl) fun i j hi hj=>?_
 have hi':i<bs.length:=by simpa using hi
 have e1:(bs.map fun b=>[iv b.args,b.av]).getD i []=[iv bs[i].args,bs[i].av]:=by simp [List.getD,hi']
 have e2:((cont bs).map encBlk).getD i []=[iv bs[i].args,roO (bs[i].its.map (·.1))]:=by simp [cont,List.getD,hi',encBlk]
 rw [e1,e2]
 match j,hj with
 |0,_=>exact .same _
 |1,_=>exact fz_ops (h.2 _ (List.getElem_mem hi')) fun ψ hψ=>h0 ψ (List.mem_append_right _ (List.mem_flatMap.2 ⟨_,List.getElem_mem hi',hψ⟩))
theorem itsF_append (a b:Its):itsF (a++b)=itsF a++itsF b:=by simp [itsF]
theorem itsF_cons (p:OpD × AV) (r:Its):itsF (p::r)=famL p.2++itsF r:=by simp [itsF]
theorem nodup_app {a b:List Nat}:(a++b).Nodup↔a.Nodup∧b.Nodup∧∀x,x∈a→x∉b:=by
 rw [List.nodup_append]
 constructor
 ·rintro ⟨h1,h2,h3⟩
  exact ⟨h1,h2,fun x hx hb=>h3 x hx x hb rfl⟩
 ·rintro ⟨h1,h2,h3⟩
  exact ⟨h1,h2,fun x hx y hy e=>h3 x hx (e▸hy)⟩
theorem famL_nodup (a:AV):(famL a).Nodup:=by cases a<;>simp [famL]
end
end Go.Proofs.YtbppopcpgcgkkaaGreatDoor.E
/- Marks, each known: what a law writes into code that is owned. -/
namespace Go.Proofs.YtbppopcpgcgkkaaGreatDoor.E
open Go Go.RowKit
set_option maxRecDepth 100000
def mkB (a:Int):ByteArray:=⟨[UInt8.ofNat (IntKind.u8.wrap (48+a % 10)).toNat].toArray⟩
def mkG:Nat→Int→ByteArray→ByteArray
 |0,_,s=>s
 |f+1,a,s=>if 0<a then mkG f (a / 10) (mkB a++s) else s
def mkT (k:Int):ByteArray:=if k≤0 then ⟨#[109,48]⟩ else ⟨#[109]⟩++mkG k.toNat k ⟨#[]⟩
theorem mkG_pos {f:Nat} {a:Int} {s:ByteArray} (h:0<a) (hf:a.toNat≤f):∃f',f=f'+1∧mkG f a s=mkG f' (a / 10) (mkB a++s):=by
 cases f with
 |zero=>omega
 |succ f'=>exact ⟨f',rfl,by rw [mkG,if_pos h]⟩
theorem mkG_end {f:Nat} {a:Int} {s:ByteArray} (h:¬0<a):mkG f a s=s:=by
 cases f with
 |zero=>rfl
 |succ f=>rw [mkG,if_neg h]
section
variable [L:Lam]
variable {σ τ τ':AH} {R:AEnd→AH→Prop}
theorem c_laws_markTextX {k:Int} (h0:0≤k) (h1:k≤9000000000000000000) (h:R (.ret (str (mkT k))) σ):acall TP fn_laws_markText [iv k] σ R:=by
 refine s_laws_markText_ok ?_
 unfold s_laws_markText
 unfold mkT at h
 by_cases c:k≤0
 ·rw [if_pos c] at h
  simp only [c,RR]
  exact ret_here h
 rw [if_neg c] at h
 simp only [c,RR]
 refine lp_by (fun n x τ=>∃(a:Int) (s:ByteArray),x=(iv a,str s,())∧τ=σ∧0≤a∧a.toNat≤n∧s.size≤20∧a.toNat*10 ^ s.size≤9000000000000000000∧mkG n a s=mkG k.toNat k ⟨#[]⟩) k.toNat ⟨k,⟨#[]⟩,rfl,rfl,by omega,Nat.le_refl _,by rw [size_none];omega,by rw [size_none];omega,rfl⟩ ?_
 rintro n x τ ⟨a,s,rfl,rfl,ha,hn,hsz,hpw,hm0⟩ R' hR'
 by_cases c2:0<a
 ·obtain ⟨n',rfl,hm1⟩:=mkG_pos (s:=s) c2 hn
  have hs19:s.size<19:=by
   refine Classical.byContradiction fun c3=>?_
   have h1:(10:Nat) ^ 19≤10 ^ s.size:=Nat.pow_le_pow_right (by omega) (by omega)
   have h2:1*10 ^ s.size≤a.toNat*10 ^ s.size:=Nat.mul_le_mul_right _ (by omega)
   omega
  have hm:a % 10<10:=Int.emod_lt_of_pos _ (by omega)
  have hmn:0≤a % 10:=Int.emod_nonneg _ (by omega)
  have e1:ibin .rem (iv a) (.val (.int .i64 10))=some (iv (a % 10)):=by
   show some (iv (a.tmod 10))=_
   rw [Int.tmod_eq_emod_of_nonneg ha]
  have ha9:a.toNat≤9000000000000000000:=Nat.le_trans (Nat.le_mul_of_pos_right _ (Nat.pow_pos (by omega))) hpw
  have e2:ibin .add (.val (.int .i64 48)) (iv (a % 10))=some (iv (48+a % 10)):=ibin_add (by omega) (by omega)
  have e3:convI .u8 (iv (48+a % 10))=some (.val (.int .u8 (IntKind.u8.wrap (48+a % 10)))):=rfl
  have e4:ibin .quo (iv a) (.val (.int .i64 10))=some (iv (a / 10)):=by
   show some (iv (IntKind.i64.wrap (a.tdiv 10)))=_
   rw [Int.tdiv_eq_ediv_of_nonneg ha,i64_wrap (by omega) (by omega)]
  simp only [c2,e1,e2,e3,RR]
  refine ⟨by decide,?_⟩
  rw [if_neg (by decide)]
  intro ψ hψ
  have ha:∀w:Int,aelems (τ.set ψ ⟨0,1,[[.val (.int .u8 w)]]⟩) (.own ψ 0 0 1)=some [[.val (.int .u8 w)]]:=fun w=>by simp [aelems]
  have hb:∀w:Int,abytes [[.val (.int .u8 w)]]=some [UInt8.ofNat w.toNat]:=fun w=>rfl
  refine aconv_bytes bytes_Lb (ha _) (hb _) (by intro u h;cases h) (by intro kd n h;cases h) ?_
  have es:sbin .add (.val (.string ⟨[UInt8.ofNat (IntKind.u8.wrap (48+a % 10)).toNat].toArray⟩)) (str s)=some (str (mkB a++s)):=sbin_add (mkB a) s (by unfold mkB;rw [size_one];omega)
  simp only [es,e4,RR]
  have hsz2:(mkB a++s).size=s.size+1:=by rw [ByteArray.size_append];unfold mkB;rw [size_one];omega
  refine hR' _ _ n' τ (by omega) (.set (.refl τ) _ hψ) ⟨a / 10,_,rfl,rfl,by omega,by omega,by omega,?_,by rw [←hm1];exact hm0⟩
  rw [hsz2,Nat.pow_succ]
  have h3:(a / 10).toNat*10≤a.toNat:=by omega
  calc (a / 10).toNat*(10 ^ s.size*10)=((a / 10).toNat*10)*10 ^ s.size:=by rw [Nat.mul_comm (10 ^ s.size) 10,Nat.mul_assoc]
   _≤a.toNat*10 ^ s.size:=Nat.mul_le_mul_right _ h3
   _≤_:=hpw
 ·rw [mkG_end c2] at hm0
  rw [←hm0] at h
  have es:=sbin_add ⟨#[109]⟩ s (by rw [size_m];omega)
  simp only [c2,es,RR]
  exact ret_here h
def mkDat (k:Int):Dat:=⟨k,k+1,k+1+1,mkT (k+1+1+1)⟩
def mkDats (k:Int) (n:Nat):List Dat:=(List.range n).map fun i:Nat=>mkDat (k+4*(i:Int))
theorem mkDats_len (k:Int) (n:Nat):(mkDats k n).length=n:=by simp [mkDats]
theorem mkDats_succ (k:Int) (n:Nat):mkDats k (n+1)=mkDats k n++[mkDat (k+4*(n:Int))]:=by simp [mkDats,List.range_succ]
theorem sto_at {φ st sz off i:Nat} {pre post:List (List AV)} {r:List AV} {v:AV} {k:AH→Prop} (hp:pre.length=i) (ho:off<sz) (h1:v.one=true) (h:k (τ.set φ ⟨st,sz,pre++r.set off v::post⟩)):
  sto 1 (.ptr φ st i off) v (τ.set φ ⟨st,sz,pre++r::post⟩) k:=by
 refine sto_fld (cs:=r) (AH.set_same ..) (by simp [←hp]) ho (acells_one h1) h1 ?_
 have e:(pre++r::post).set i (r.set off v)=pre++r.set off v::post:=by subst hp;simp
 rw [AH.set_set,e]
 exact h
theorem idx_at {φ st n sz i:Nat} {es:List (List AV)} (hi:i<n):idx sz (.own φ st 0 n) (iv (i:Int)) (τ.set φ ⟨st,sz,es⟩)=some (.ptr φ st i 0):=by
 have:=idx_own (st:=st) (off:=0) (AH.set_same τ φ (⟨st,sz,es⟩:Fam)) hi
 rwa [Nat.zero_add] at this
theorem buf_len {sz:Nat} {a:AV} {es:List (List AV)} (h:Buf τ sz a es):lenS a=some (iv (es.length:Int)):=by
 rcases h with ⟨rfl|rfl,rfl⟩|⟨φ,st,rfl,_⟩<;>rfl
theorem add1 {m:Int} (h0:0≤m) (h1:m≤9100000000000000000):ibin .add (iv m) (.val (.int .i64 1))=some (iv (m+1)):=ibin_add (by omega) (by omega)
theorem four_of {c:List AV} (h:c.length=4):∃c0 c1 c2 c3,c=[c0,c1,c2,c3]:=by
 match c,h with
 |[c0,c1,c2,c3],_=>exact ⟨c0,c1,c2,c3,rfl⟩
theorem c_laws_markDatumSX {a:AV} {es:List (List AV)} {k:Int} (h:Buf τ 4 a es) (hc:∀c,c∈es→c.length=4) (h0:0≤k) (h1:k+4*(es.length:Int)≤9000000000000000000)
  (hR:∀τ',Buf τ' 4 a ((mkDats k es.length).map encDat)→(∀ψ,ψ∉famL a→τ' ψ=τ ψ)→R (.ret (iv (k+4*(es.length:Int)))) τ'):acall TP fn_laws_markDatumS [a,iv k] τ R:=by
 refine s_laws_markDatumS_ok ?_
 unfold s_laws_markDatumS
 rcases h with ⟨hn,rfl⟩|⟨φ,st,rfl,hF⟩
 ·refine lp_same 0 (fun _=>(a,iv k,iv 0,())) (fun _=>True) rfl trivial ?_
  intro i _ _ R' _
  have e:lenS a=some (iv 0):=by rcases hn with rfl|rfl<;>rfl
  simp only [e,RR]
  refine ret_here ?_
  have:=hR τ (.inl ⟨hn,rfl⟩) (fun _ _=>rfl)
  simpa using this
 ·refine lp_for es.length (fun i=>(.own φ st 0 es.length,iv (k+4*(i:Int)),iv (i:Int),())) (fun i σ'=>σ'=τ.set φ ⟨st,4,(mkDats k i).map encDat++es.drop i⟩) (by simp;rfl) (by simp [mkDats,AH.set_self hF]) ?_
  rintro i _ hi rfl R' hR'
  have el:lenS (.own φ st 0 es.length)=some (iv (es.length:Int)):=rfl
  simp only [el,RR]
  by_cases hlt:i<es.length
  ·have g:(i:Int)<(es.length:Int):=by omega
   have hpl:((mkDats k i).map encDat).length=i:=by simp [mkDats]
   obtain ⟨c0,c1,c2,c3,hr⟩:=four_of (hc _ (List.getElem_mem hlt))
   have hd:es.drop i=[c0,c1,c2,c3]::es.drop (i+1):=by rw [List.drop_eq_getElem_cons hlt,hr]
   rw [hd]
   simp only [g,idx_at hlt,add1 (m:=k+4*(i:Int)) (by omega) (by omega),add1 (m:=k+4*(i:Int)+1) (by omega) (by omega),add1 (m:=k+4*(i:Int)+1+1) (by omega) (by omega),add1 (m:=k+4*(i:Int)+1+1+1) (by omega) (by omega),RR]
   refine sto_at hpl (by omega) rfl ?_
   simp only [idx_at hlt,RR]
   refine sto_at hpl (by omega) rfl ?_
   simp only [idx_at hlt,RR]
   refine sto_at hpl (by omega) rfl ?_
   refine c_laws_markTextX (by omega) (by omega) ?_
   simp only [idx_at hlt,RR]
   refine sto_at hpl (by omega) rfl ?_
   simp only [ibin_up hlt (by omega),RR]
   have:=hR' hlt _ _ (.refl _) rfl
   rw [mkDats_succ,List.map_append,List.append_assoc] at this
   have e:k+4*(i:Int)+1+1+1+1=k+4*((i+1:Nat):Int):=by omega
   rw [e]
   exact this
  ·have g:¬(i:Int)<(es.length:Int):=by omega
   obtain rfl:i=es.length:=by omega
   simp only [g,RR]
   refine ret_here (hR _ (.inr ⟨φ,st,by simp [mkDats],?_⟩) fun ψ hψ=>AH.set_ne' (by rintro rfl;exact hψ (by simp [famL])))
   rw [AH.set_same];simp
def mkOp (k:Int) (n:Nat):OpD:=⟨k,k+1,k+1+1,k+1+1+1,k+1+1+1+1,mkT (k+1+1+1+1+1),mkDats (k+1+1+1+1+1+1) n⟩
def opsK (k:Int):List OpD→Int
 |[]=>k
 |o::r=>opsK (k+1+1+1+1+1+1+4*(o.data.length:Int)) r
def mkOpsD (k:Int):List OpD→List OpD
 |[]=>[]
 |o::r=>mkOp k o.data.length::mkOpsD (k+1+1+1+1+1+1+4*(o.data.length:Int)) r
def mkOps (k:Int):Its→Its
 |[]=>[]
 |p::r=>(mkOp k p.1.data.length,p.2)::mkOps (k+1+1+1+1+1+1+4*(p.1.data.length:Int)) r
theorem opsK_le:∀(os:List OpD) (k:Int),k+6*(os.length:Int)≤opsK k os:=by
 intro os
 induction os with
 |nil=>intro k;simp [opsK]
 |cons o r ih=>
  intro k
  have:=ih (k+1+1+1+1+1+1+4*(o.data.length:Int))
  simp only [opsK,List.length_cons]
  omega
theorem opsK_app:∀(a b:List OpD) (k:Int),opsK k (a++b)=opsK (opsK k a) b:=by
 intro a
 induction a with
 |nil=>intro b k;rfl
 |cons o r ih=>intro b k;exact ih b _
theorem mkOps_app:∀(a b:Its) (k:Int),mkOps k (a++b)=mkOps k a++mkOps (opsK k (a.map (·.1))) b:=by
 intro a
 induction a with
 |nil=>intro b k;rfl
 |cons o r ih=>intro b k;simp only [List.cons_append,mkOps,List.map_cons,opsK,ih]
theorem mkOps_len:∀(a:Its) (k:Int),(mkOps k a).length=a.length:=by
 intro a
 induction a with
 |nil=>intro k;rfl
 |cons o r ih=>intro k;simp [mkOps,ih]
theorem mkOps_fst:∀(a:Its) (k:Int),(mkOps k a).map (·.1)=mkOpsD k (a.map (·.1)):=by
 intro a
 induction a with
 |nil=>intro k;rfl
 |cons o r ih=>intro k;simp [mkOps,mkOpsD,ih]
theorem itsF_mkOps:∀(a:Its) (k:Int),itsF (mkOps k a)=itsF a:=by
 intro a
 induction a with
 |nil=>intro k;rfl
 |cons o r ih=>intro k;rw [mkOps,itsF_cons,itsF_cons,ih]
theorem mkOpsD_len:∀(a:List OpD) (k:Int),(mkOpsD k a).length=a.length:=by
 intro a
 induction a with
 |nil=>intro k;rfl
 |cons o r ih=>intro k;simp [mkOpsD,ih]
abbrev encIt (p:OpD × AV):List AV:=encOpA p.1 p.2
theorem c_laws_markOpSX {v:AV} {its:Its} {k:Int} (h:OpsH τ v its) (hnd:(opsF' v its).Nodup) (h0:0≤k) (h1:opsK k (its.map (·.1))≤9000000000000000000)
  (hR:∀τ',OpsH τ' v (mkOps k its)→(∀ψ,ψ∉opsF' v its→τ' ψ=τ ψ)→R (.ret (iv (opsK k (its.map (·.1))))) τ'):acall TP fn_laws_markOpS [v,iv k] τ R:=by
 refine s_laws_markOpS_ok ?_
 unfold s_laws_markOpS
 refine lp_by (fun n x τ'=>∃don rest:Its,its=don++rest∧rest.length=n∧x=(v,iv (opsK k (don.map (·.1))),iv (don.length:Int),())∧Buf τ' 7 v ((mkOps k don++rest).map encIt)∧ItsH τ' (mkOps k don)∧ItsH τ' rest∧
   ∀ψ,ψ∉famL v→ψ∉itsF don→τ' ψ=τ ψ) its.length ⟨[],its,rfl,rfl,rfl,h.1,(fun p hp=>by cases hp),h.2,fun _ _ _=>rfl⟩ ?_
 rintro n x τ1 ⟨don,rest,hit,hrl,rfl,hB,hD,hT,hfr⟩ R' hR'
 have hlen:=buf_len hB
 have hle:((mkOps k don++rest).map encIt).length=don.length+rest.length:=by simp [mkOps_len]
 rw [hle] at hlen
 simp only [hlen,RR]
 cases rest with
 |nil=>
  have g:¬(don.length:Int)<((don.length+([]:Its).length:Nat):Int):=by simp
  simp only [g,RR]
  rw [List.append_nil] at hit
  subst hit
  rw [List.append_nil] at hB
  refine ret_here (hR τ1 ⟨hB,hD⟩ fun ψ hψ=>hfr ψ (fun c=>hψ (List.mem_append_left _ c)) fun c=>hψ (List.mem_append_right _ c))
 |cons p r=>
  have g:(don.length:Int)<((don.length+(p::r).length:Nat):Int):=by simp;omega
  have hi:don.length<don.length+(p::r).length:=by simp
  have hpl:((mkOps k don).map encIt).length=don.length:=by simp [mkOps_len]
  obtain ⟨φ,st,rfl,hF⟩:=buf_own hB (by simp)
  rw [hle] at hlen ⊢
  have hk1:=opsK_le (don.map (·.1)) k
  have hk2:opsK k (its.map (·.1))=opsK (opsK k (don.map (·.1))+1+1+1+1+1+1+4*(p.1.data.length:Int)) (r.map (·.1)):=by
   rw [hit,List.map_append,opsK_app];rfl
  have hk3:=opsK_le (r.map (·.1)) (opsK k (don.map (·.1))+1+1+1+1+1+1+4*(p.1.data.length:Int))
  generalize hm:opsK k (don.map (·.1))=m at*
  have hm0:0≤m:=by simp at hk1;omega
  have hm9:m+1+1+1+1+1+1+4*(p.1.data.length:Int)≤9000000000000000000:=by simp at hk3;omega
  have hset:τ1=τ1.set φ ⟨st,7,(mkOps k don).map encIt++encIt p::r.map encIt⟩:=by
   rw [AH.set_self];rw [hF];simp
  -- families
  have hnd2:(famL (.own φ st 0 (don.length+(p::r).length))++(itsF don++(famL p.2++itsF r))).Nodup:=by
   have:=hnd
   rw [opsF',hit,itsF_append,itsF_cons,hle] at this
   exact this
  obtain ⟨_,hnd3,hnd4⟩:=nodup_app.1 hnd2
  obtain ⟨_,hnd5,hnd6⟩:=nodup_app.1 hnd3
  obtain ⟨_,_,hnd7⟩:=nodup_app.1 hnd5
  have hφp:φ∉famL p.2:=fun c=>hnd4 φ (by simp [famL]) (by simp [c])
  have hφr:φ∉itsF r:=fun c=>hnd4 φ (by simp [famL]) (by simp [c])
  have hφd:φ∉itsF don:=fun c=>hnd4 φ (by simp [famL]) (by simp [c])
  simp only [g,RR]
  rw [hset]
  simp only [idx_at hi,add1 (m:=m) (by omega) (by omega),add1 (m:=m+1) (by omega) (by omega),add1 (m:=m+1+1) (by omega) (by omega),add1 (m:=m+1+1+1) (by omega) (by omega),add1 (m:=m+1+1+1+1) (by omega) (by omega),add1 (m:=m+1+1+1+1+1) (by omega) (by omega),RR]
  refine sto_at hpl (by omega) rfl ?_
  simp only [idx_at hi,RR]
  refine sto_at hpl (by omega) rfl ?_
  simp only [idx_at hi,RR]
  refine sto_at hpl (by omega) rfl ?_
  simp only [idx_at hi,RR]
  refine sto_at hpl (by omega) rfl ?_
  simp only [idx_at hi,RR]
  refine sto_at hpl (by omega) rfl ?_
  refine c_laws_markTextX (by omega) (by omega) ?_
  simp only [idx_at hi,RR]
  refine sto_at hpl (by omega) rfl ?_
  have erow:((((((encIt p).set 0 (iv m)).set 1 (iv (m+1))).set 2 (iv (m+1+1))).set 3 (iv (m+1+1+1))).set 4 (iv (m+1+1+1+1))).set 5 (str (mkT (m+1+1+1+1+1)))=[iv m,iv (m+1),iv (m+1+1),iv (m+1+1+1),iv (m+1+1+1+1),str (mkT (m+1+1+1+1+1)),p.2]:=rfl
  rw [erow]
  generalize hτ2:τ1.set φ ⟨st,7,(mkOps k don).map encIt++[iv m,iv (m+1),iv (m+1+1),iv (m+1+1+1),iv (m+1+1+1+1),str (mkT (m+1+1+1+1+1)),p.2]::r.map encIt⟩=τ2
  have hF2:τ2 φ=some ⟨st,7,(mkOps k don).map encIt++[iv m,iv (m+1),iv (m+1+1),iv (m+1+1+1),iv (m+1+1+1+1),str (mkT (m+1+1+1+1+1)),p.2]::r.map encIt⟩:=by rw [←hτ2,AH.set_same]
  have h2:∀ψ,ψ≠φ→τ2 ψ=τ1 ψ:=fun ψ hψ=>by rw [←hτ2,AH.set_ne' hψ]
  have el:lod (.ptr φ st don.length 6) τ2=some p.2:=lod_at hF2 rfl (by simp [List.getD,List.getElem?_append_right,hpl,mkOps_len])
  have ix:idx 7 (.own φ st 0 (don.length+(p::r).length)) (iv (don.length:Int)) τ2=some (.ptr φ st don.length 0):=by rw [←hτ2];exact idx_at hi
  simp only [ix,el,RR]
  have hBp:Buf τ2 4 p.2 (p.1.data.map encDat):=buf_keep (hT p (by simp)) fun ψ hψ=>h2 ψ (by rintro rfl;exact hφp hψ)
  have el2:(p.1.data.map encDat).length=p.1.data.length:=by simp
  refine c_laws_markDatumSX hBp (by intro c hc;obtain ⟨x,_,rfl⟩:=List.mem_map.1 hc;rfl) (by omega) (by rw [el2];omega) fun τ3 hB3 hfr3=>?_
  rw [el2] at hB3 ⊢
  simp only [ibin_up hi (by simp at hk1 hk3 ⊢;omega),RR]
  have hFm:(m+1+1+1+1+1+1+4*(p.1.data.length:Int))=opsK k ((don++[p]).map (·.1)):=by rw [List.map_append,opsK_app,hm];rfl
  have emk:mkOps k (don++[p])=mkOps k don++[(mkOp m p.1.data.length,p.2)]:=by rw [mkOps_app,hm];rfl
  refine hR' _ _ r.length τ3 (by rw [←hrl];simp) (.refl _) ⟨don++[p],r,by simp [hit],rfl,?_,?_,?_,?_,?_⟩
  ·rw [hFm,hle];simp;rfl
  ·refine .inr ⟨φ,st,?_,?_⟩
   ·simp [mkOps_len];omega
   ·rw [hfr3 φ hφp,hF2,emk]
    simp [encIt,encOpA,mkOp]
  ·rw [emk]
   intro q hq
   rcases List.mem_append.1 hq with hq|hq
   ·refine buf_keep (hD q hq) fun ψ hψ=>?_
    have hψd:ψ∈itsF don:=by rw [←itsF_mkOps don k];exact List.mem_flatMap.2 ⟨q,hq,hψ⟩
    rw [hfr3 ψ fun c=>hnd6 ψ hψd (by simp [c]),h2 ψ (by rintro rfl;exact hφd hψd)]
   ·obtain rfl:q=(mkOp m p.1.data.length,p.2):=by simpa using hq
    exact hB3
  ·intro q hq
   refine buf_keep (hT q (by simp [hq])) fun ψ hψ=>?_
   have hψr:ψ∈itsF r:=List.mem_flatMap.2 ⟨q,hq,hψ⟩
   rw [hfr3 ψ fun c=>hnd7 ψ c hψr,h2 ψ (by rintro rfl;exact hφr hψr)]
  ·intro ψ hψ hψd
   rw [itsF_append] at hψd
   have hψd1:ψ∉itsF don:=fun c=>hψd (List.mem_append_left _ c)
   have hψp:ψ∉famL p.2:=fun c=>hψd (List.mem_append_right _ (by simp [itsF,c]))
   rw [hfr3 ψ hψp,h2 ψ (by rintro rfl;exact hψ (by simp [famL]))]
   exact hfr ψ hψ hψd1
end
end Go.Proofs.YtbppopcpgcgkkaaGreatDoor.E
/- Code that is owned: marks of blocks, what is held, copies of arguments, what is lent. -/
namespace Go.Proofs.YtbppopcpgcgkkaaGreatDoor.E
open Go Go.RowKit
set_option maxRecDepth 100000
variable [L:Lam]
abbrev encBI (b:BI):List AV:=[iv b.args,b.av]
def blksK (k:Int):List Blk→Int
 |[]=>k
 |b::r=>blksK (opsK (k+1) b.ops) r
def mkBksD (k:Int):List Blk→List Blk
 |[]=>[]
 |b::r=>⟨k,mkOpsD (k+1) b.ops⟩::mkBksD (opsK (k+1) b.ops) r
def mkBk (k:Int):List BI→List BI
 |[]=>[]
 |b::r=>⟨k,b.av,mkOps (k+1) b.its⟩::mkBk (opsK (k+1) (b.its.map (·.1))) r
theorem blksK_le:∀(bs:List Blk) (k:Int),k+(bs.length:Int)≤blksK k bs:=by
 intro bs
 induction bs with
 |nil=>intro k;simp [blksK]
 |cons b r ih=>
  intro k
  have:=ih (opsK (k+1) b.ops)
  have:=opsK_le b.ops (k+1)
  simp only [blksK,List.length_cons]
  omega
theorem blksK_app:∀(a b:List Blk) (k:Int),blksK k (a++b)=blksK (blksK k a) b:=by
 intro a
 induction a with
 |nil=>intro b k;rfl
 |cons o r ih=>intro b k;exact ih b _
theorem mkBk_app:∀(a b:List BI) (k:Int),mkBk k (a++b)=mkBk k a++mkBk (blksK k (cont a)) b:=by
 intro a
 induction a with
 |nil=>intro b k;rfl
 |cons o r ih=>intro b k;simp only [List.cons_append,mkBk,cont,List.map_cons,blksK,ih]
theorem mkBk_len:∀(a:List BI) (k:Int),(mkBk k a).length=a.length:=by
 intro a
 induction a with
 |nil=>intro k;rfl
 |cons o r ih=>intro k;simp [mkBk,ih]
theorem cont_mkBk:∀(a:List BI) (k:Int),cont (mkBk k a)=mkBksD k (cont a):=by
 intro a
 induction a with
 |nil=>intro k;rfl
 |cons o r ih=>
  intro k
  have:=ih (opsK (k+1) (o.its.map (·.1)))
  simp only [cont] at this
  simp [mkBk,mkBksD,cont,mkOps_fst,this]
def bsF (bs:List BI):List Nat:=bs.flatMap biF
theorem bsF_app (a b:List BI):bsF (a++b)=bsF a++bsF b:=by simp [bsF]
theorem bsF_cons (b:BI) (r:List BI):bsF (b::r)=biF b++bsF r:=by simp [bsF]
theorem bsF_mkBk:∀(a:List BI) (k:Int),bsF (mkBk k a)=bsF a:=by
 intro a
 induction a with
 |nil=>intro k;rfl
 |cons o r ih=>intro k;rw [mkBk,bsF_cons,bsF_cons,ih];simp [biF,opsF',itsF_mkOps]
section
variable {σ τ τ':AH} {R:AEnd→AH→Prop}
def BisH (τ:AH) (bs:List BI):Prop:=∀b,b∈bs→OpsH τ b.av b.its
theorem c_laws_markBlockSX {v:AV} {bs:List BI} {k:Int} (h:BlksH τ v bs) (hnd:(blksF v bs).Nodup) (h0:0≤k) (h1:blksK k (cont bs)≤9000000000000000000)
  (hR:∀τ',BlksH τ' v (mkBk k bs)→(∀ψ,ψ∉blksF v bs→τ' ψ=τ ψ)→R (.ret (iv (blksK k (cont bs)))) τ'):acall TP fn_laws_markBlockS [v,iv k] τ R:=by
 refine s_laws_markBlockS_ok ?_
 unfold s_laws_markBlockS
 refine lp_by (fun n x τ'=>∃don rest:List BI,bs=don++rest∧rest.length=n∧x=(v,iv (blksK k (cont don)),iv (don.length:Int),())∧Buf τ' 2 v ((mkBk k don++rest).map encBI)∧BisH τ' (mkBk k don)∧BisH τ' rest∧
   ∀ψ,ψ∉famL v→ψ∉bsF don→τ' ψ=τ ψ) bs.length ⟨[],bs,rfl,rfl,rfl,h.1,(fun p hp=>by cases hp),h.2,fun _ _ _=>rfl⟩ ?_
 rintro n x τ1 ⟨don,rest,hit,hrl,rfl,hB,hD,hT,hfr⟩ R' hR'
 have hlen:=buf_len hB
 have hle:((mkBk k don++rest).map encBI).length=don.length+rest.length:=by simp [mkBk_len]
 rw [hle] at hlen
 simp only [hlen,RR]
 cases rest with
 |nil=>
  have g:¬(don.length:Int)<((don.length+([]:List BI).length:Nat):Int):=by simp
  simp only [g,RR]
  rw [List.append_nil] at hit
  subst hit
  rw [List.append_nil] at hB
  refine ret_here (hR τ1 ⟨hB,hD⟩ fun ψ hψ=>hfr ψ (fun c=>hψ (List.mem_append_left _ c)) fun c=>hψ (List.mem_append_right _ c))
 |cons p r=>
  have g:(don.length:Int)<((don.length+(p::r).length:Nat):Int):=by simp;omega
  have hi:don.length<don.length+(p::r).length:=by simp
  have hpl:((mkBk k don).map encBI).length=don.length:=by simp [mkBk_len]
  obtain ⟨φ,st,rfl,hF⟩:=buf_own hB (by simp)
  rw [hle] at hlen ⊢
  have hk1:=blksK_le (cont don) k
  have hk2:blksK k (cont bs)=blksK (opsK (blksK k (cont don)+1) (p.its.map (·.1))) (cont r):=by
   have e:cont bs=cont don++cont (p::r):=by rw [hit];simp [cont]
   rw [e,blksK_app];rfl
  have hk3:=blksK_le (cont r) (opsK (blksK k (cont don)+1) (p.its.map (·.1)))
  have hk4:=opsK_le (p.its.map (·.1)) (blksK k (cont don)+1)
  have hcl:(cont don).length=don.length:=by simp [cont]
  have hcr:(cont r).length=r.length:=by simp [cont]
  rw [hcl] at hk1
  rw [hcr] at hk3
  generalize hm:blksK k (cont don)=m at*
  have hm0:0≤m:=by omega
  have hset:τ1=τ1.set φ ⟨st,2,(mkBk k don).map encBI++encBI p::r.map encBI⟩:=by
   rw [AH.set_self];rw [hF];simp
  have hnd2:(famL (.own φ st 0 (don.length+(p::r).length))++(bsF don++(biF p++bsF r))).Nodup:=by
   have:=hnd
   rw [blksF,hle] at this
   rw [←bsF_cons,←bsF_app,←hit]
   exact this
  obtain ⟨_,hnd3,hnd4⟩:=nodup_app.1 hnd2
  obtain ⟨_,hnd5,hnd6⟩:=nodup_app.1 hnd3
  obtain ⟨hndp,_,hnd7⟩:=nodup_app.1 hnd5
  have hφp:φ∉biF p:=fun c=>hnd4 φ (by simp [famL]) (by simp [c])
  have hφr:φ∉bsF r:=fun c=>hnd4 φ (by simp [famL]) (by simp [c])
  have hφd:φ∉bsF don:=fun c=>hnd4 φ (by simp [famL]) (by simp [c])
  simp only [g,RR]
  rw [hset]
  simp only [idx_at hi,add1 (m:=m) (by omega) (by omega),RR]
  refine sto_at hpl (by omega) rfl ?_
  have erow:(encBI p).set 0 (iv m)=[iv m,p.av]:=rfl
  rw [erow]
  generalize hτ2:τ1.set φ ⟨st,2,(mkBk k don).map encBI++[iv m,p.av]::r.map encBI⟩=τ2
  have hF2:τ2 φ=some ⟨st,2,(mkBk k don).map encBI++[iv m,p.av]::r.map encBI⟩:=by rw [←hτ2,AH.set_same]
  have h2:∀ψ,ψ≠φ→τ2 ψ=τ1 ψ:=fun ψ hψ=>by rw [←hτ2,AH.set_ne' hψ]
  have el:lod (.ptr φ st don.length 1) τ2=some p.av:=lod_at hF2 rfl (by simp [List.getD,List.getElem?_append_right,hpl,mkBk_len])
  have ix:idx 2 (.own φ st 0 (don.length+(p::r).length)) (iv (don.length:Int)) τ2=some (.ptr φ st don.length 0):=by rw [←hτ2];exact idx_at hi
  simp only [ix,el,RR]
  have hBp:OpsH τ2 p.av p.its:=(hT p (by simp)).keep fun ψ hψ=>h2 ψ (by rintro rfl;exact hφp hψ)
  refine c_laws_markOpSX hBp hndp (by omega) (by omega) fun τ3 hB3 hfr3=>?_
  simp only [ibin_up hi (by simp at hk1 hk3 ⊢;omega),RR]
  have hFm:opsK (m+1) (p.its.map (·.1))=blksK k (cont (don++[p])):=by
   have e:cont (don++[p])=cont don++cont [p]:=by simp [cont]
   rw [e,blksK_app,hm];rfl
  have emk:mkBk k (don++[p])=mkBk k don++[⟨m,p.av,mkOps (m+1) p.its⟩]:=by rw [mkBk_app,hm];rfl
  refine hR' _ _ r.length τ3 (by rw [←hrl];simp) (.refl _) ⟨don++[p],r,by simp [hit],rfl,?_,?_,?_,?_,?_⟩
  ·rw [hFm,hle];simp;rfl
  ·refine .inr ⟨φ,st,?_,?_⟩
   ·simp [mkBk_len];omega
   ·rw [hfr3 φ hφp,hF2,emk]
    simp
  ·rw [emk]
   intro q hq
   rcases List.mem_append.1 hq with hq|hq
   ·refine (hD q hq).keep fun ψ hψ=>?_
    have hψd:ψ∈bsF don:=by rw [←bsF_mkBk don k];exact List.mem_flatMap.2 ⟨q,hq,hψ⟩
    rw [hfr3 ψ fun c=>hnd6 ψ hψd (List.mem_append_left _ c),h2 ψ (by rintro rfl;exact hφd hψd)]
   ·obtain rfl:q=⟨m,p.av,mkOps (m+1) p.its⟩:=by simpa using hq
    exact hB3
  ·intro q hq
   refine (hT q (by simp [hq])).keep fun ψ hψ=>?_
   have hψr:ψ∈bsF r:=List.mem_flatMap.2 ⟨q,hq,hψ⟩
   rw [hfr3 ψ fun c=>hnd7 ψ c hψr,h2 ψ (by rintro rfl;exact hφr hψr)]
  ·intro ψ hψ hψd
   rw [bsF_app] at hψd
   have hψd1:ψ∉bsF don:=fun c=>hψd (List.mem_append_left _ c)
   have hψp:ψ∉biF p:=fun c=>hψd (List.mem_append_right _ (by simp [bsF,c]))
   rw [hfr3 ψ hψp,h2 ψ (by rintro rfl;exact hψ (by simp [famL]))]
   exact hfr ψ hψ hψd1
theorem c_laws_markCodeResultX {c k:Int} {v:AV} {bs:List BI} (h:BlksH τ v bs) (hnd:(blksF v bs).Nodup) (h0:0≤k) (h1:blksK k (cont bs)≤9000000000000000000)
  (hR:∀τ',BlksH τ' v (mkBk k bs)→(∀ψ,ψ∉blksF v bs→τ' ψ=τ ψ)→R (.ret (iv (blksK k (cont bs)))) τ'):acall TP fn_laws_markCodeResult [.agg [iv c,v],iv k] τ R:=by
 refine s_laws_markCodeResult_ok ?_
 unfold s_laws_markCodeResult
 refine box_frz rfl ?_
 have e:∀τ,lod (.rop [iv c,v] 1) τ=some v:=fun _=>rfl
 simp only [e,RR]
 refine c_laws_markBlockSX h hnd h0 h1 fun τ' hB hfr=>?_
 simp only [RR]
 exact ret_here (hR τ' hB hfr)
theorem idx_roA {X:Type} {enc:X→List AV} {sz i:Nat} {pre post:List X} {x:X} (hp:pre.length=i) (hl:∀x,(enc x).length=sz):idx sz (.ro ((pre++x::post).map enc)) (iv (i:Int)) σ=some (.rop (enc x) 0):=by
 subst hp
 have h:pre.length<(pre++x::post).length:=by simp
 have:=idx_ro (σ:=σ) (enc:=enc) h hl
 rw [this];simp
theorem c_laws_heldDatumS {k:Int} {n:Nat} (h0:0≤k) (h1:k+4*(n:Int)≤9000000000000000000) (h:R (.ret (iv (k+4*(n:Int)))) σ):acall TP fn_laws_heldDatumS [roD (mkDats k n),iv k] σ R:=by
 refine s_laws_heldDatumS_ok ?_
 unfold s_laws_heldDatumS
 refine lp_read n (fun i=>(roD (mkDats k n),iv (k+4*(i:Int)),iv (i:Int),())) (by simp;rfl) ?_
 intro i hi R' hR'
 simp only [len_ro,mkDats_len,RR]
 by_cases hlt:i<n
 ·have g:(i:Int)<(n:Int):=by omega
  have hlt':i<(mkDats k n).length:=by simpa [mkDats_len] using hlt
  have ei:(mkDats k n)[i]=mkDat (k+4*(i:Int)):=by simp [mkDats]
  simp only [g,idx_ro hlt' len_encDat,ei,add1 (m:=k+4*(i:Int)) (by omega) (by omega),add1 (m:=k+4*(i:Int)+1) (by omega) (by omega),add1 (m:=k+4*(i:Int)+1+1) (by omega) (by omega),add1 (m:=k+4*(i:Int)+1+1+1) (by omega) (by omega),RR,RT]
  simp only [mkDat,dec_self,RR]
  refine c_laws_markTextX (by omega) (by omega) ?_
  simp only [sbin_neq',dec_self,ibin_up hlt (by omega),eq_self,and_true,true_and,RR]
  have:=hR' hlt _ (.refl σ)
  have e:k+4*(i:Int)+1+1+1+1=k+4*((i+1:Nat):Int):=by omega
  rw [e]
  exact this
 ·have g:¬(i:Int)<(n:Int):=by omega
  obtain rfl:i=n:=by omega
  simp only [g,RR]
  exact ret_here h
theorem mkOpsD_app:∀(a b:List OpD) (k:Int),mkOpsD k (a++b)=mkOpsD k a++mkOpsD (opsK k a) b:=by
 intro a
 induction a with
 |nil=>intro b k;rfl
 |cons o r ih=>intro b k;simp only [List.cons_append,mkOpsD,opsK,ih]
theorem mkBksD_app:∀(a b:List Blk) (k:Int),mkBksD k (a++b)=mkBksD k a++mkBksD (blksK k a) b:=by
 intro a
 induction a with
 |nil=>intro b k;rfl
 |cons o r ih=>intro b k;simp only [List.cons_append,mkBksD,blksK,ih]
theorem mkBksD_len:∀(a:List Blk) (k:Int),(mkBksD k a).length=a.length:=by
 intro a
 induction a with
 |nil=>intro k;rfl
 |cons o r ih=>intro k;simp [mkBksD,ih]
theorem c_laws_heldOpS {k:Int} {os:List OpD} (h0:0≤k) (h1:opsK k os≤9000000000000000000) (h:R (.ret (iv (opsK k os))) σ):acall TP fn_laws_heldOpS [roO (mkOpsD k os),iv k] σ R:=by
 refine s_laws_heldOpS_ok ?_
 unfold s_laws_heldOpS
 refine lp_by (fun n x τ'=>τ'=σ∧∃don rest:List OpD,os=don++rest∧rest.length=n∧x=(roO (mkOpsD k os),iv (opsK k don),iv (don.length:Int),())) os.length ⟨rfl,[],os,rfl,rfl,rfl⟩ ?_
 rintro n x _ ⟨rfl,don,rest,hit,hrl,rfl⟩ R' hR'
 simp only [len_ro,mkOpsD_len,RR]
 cases rest with
 |nil=>
  rw [List.append_nil] at hit
  subst hit
  have g:¬(os.length:Int)<(os.length:Int):=by omega
  simp only [g,RR]
  exact ret_here h
 |cons p r=>
  have hi:don.length<os.length:=by rw [hit];simp
  have g:(don.length:Int)<(os.length:Int):=by omega
  have hk1:=opsK_le don k
  have hk2:opsK k os=opsK (opsK k don+1+1+1+1+1+1+4*(p.data.length:Int)) r:=by rw [hit,opsK_app];rfl
  have hk3:=opsK_le r (opsK k don+1+1+1+1+1+1+4*(p.data.length:Int))
  have eL:mkOpsD k os=mkOpsD k don++mkOp (opsK k don) p.data.length::mkOpsD (opsK k don+1+1+1+1+1+1+4*(p.data.length:Int)) r:=by rw [hit,mkOpsD_app];rfl
  have ix:=fun σ=>idx_roA (σ:=σ) (pre:=mkOpsD k don) (post:=mkOpsD (opsK k don+1+1+1+1+1+1+4*(p.data.length:Int)) r) (x:=mkOp (opsK k don) p.data.length) (mkOpsD_len don k) len_encOp
  rw [←eL] at ix
  have hol:os.length=don.length+(r.length+1):=by rw [hit];simp
  have hfin:opsK k (don++[p])=opsK k don+1+1+1+1+1+1+4*(p.data.length:Int):=by rw [opsK_app];rfl
  generalize hm:opsK k don=m at*
  have hm0:0≤m:=by omega
  have hm9:m+1+1+1+1+1+1+4*(p.data.length:Int)≤9000000000000000000:=by omega
  simp only [g,ix,add1 (m:=m) (by omega) (by omega),add1 (m:=m+1) (by omega) (by omega),add1 (m:=m+1+1) (by omega) (by omega),add1 (m:=m+1+1+1) (by omega) (by omega),add1 (m:=m+1+1+1+1) (by omega) (by omega),add1 (m:=m+1+1+1+1+1) (by omega) (by omega),RR,RT]
  simp only [mkOp,dec_self,RR]
  refine c_laws_markTextX (by omega) (by omega) ?_
  simp only [sbin_neq',dec_self,eq_self,and_true,true_and,RR]
  refine c_laws_heldDatumS (by omega) (by omega) ?_
  have g2:¬(m+1+1+1+1+1+1+4*(p.data.length:Int))<0:=by omega
  simp only [g2,ibin_up hi (by omega),RR]
  refine hR' _ _ r.length _ (by rw [←hrl];simp) (.refl _) ⟨rfl,don++[p],r,by simp [hit],rfl,?_⟩
  rw [hfin];simp;rfl
theorem c_laws_heldBlockS {k:Int} {bs:List Blk} (h0:0≤k) (h1:blksK k bs≤9000000000000000000) (h:R (.ret (iv (blksK k bs))) σ):acall TP fn_laws_heldBlockS [roBk (mkBksD k bs),iv k] σ R:=by
 refine s_laws_heldBlockS_ok ?_
 unfold s_laws_heldBlockS
 refine lp_by (fun n x τ'=>τ'=σ∧∃don rest:List Blk,bs=don++rest∧rest.length=n∧x=(roBk (mkBksD k bs),iv (blksK k don),iv (don.length:Int),())) bs.length ⟨rfl,[],bs,rfl,rfl,rfl⟩ ?_
 rintro n x _ ⟨rfl,don,rest,hit,hrl,rfl⟩ R' hR'
 simp only [len_ro,mkBksD_len,RR]
 cases rest with
 |nil=>
  rw [List.append_nil] at hit
  subst hit
  have g:¬(bs.length:Int)<(bs.length:Int):=by omega
  simp only [g,RR]
  exact ret_here h
 |cons p r=>
  have hi:don.length<bs.length:=by rw [hit];simp
  have hol:bs.length=don.length+(r.length+1):=by rw [hit];simp
  have g:(don.length:Int)<(bs.length:Int):=by omega
  have hk1:=blksK_le don k
  have hk2:blksK k bs=blksK (opsK (blksK k don+1) p.ops) r:=by rw [hit,blksK_app];rfl
  have hk3:=blksK_le r (opsK (blksK k don+1) p.ops)
  have hk4:=opsK_le p.ops (blksK k don+1)
  have eL:mkBksD k bs=mkBksD k don++⟨blksK k don,mkOpsD (blksK k don+1) p.ops⟩::mkBksD (opsK (blksK k don+1) p.ops) r:=by rw [hit,mkBksD_app];rfl
  have ix:=fun σ=>idx_roA (σ:=σ) (pre:=mkBksD k don) (post:=mkBksD (opsK (blksK k don+1) p.ops) r) (x:=(⟨blksK k don,mkOpsD (blksK k don+1) p.ops⟩:Blk)) (mkBksD_len don k) len_encBlk
  rw [←eL] at ix
  have hfin:blksK k (don++[p])=opsK (blksK k don+1) p.ops:=by rw [blksK_app];rfl
  generalize hm:blksK k don=m at*
  have hm0:0≤m:=by omega
  simp only [g,ix,add1 (m:=m) (by omega) (by omega),dec_self,RR,RT]
  refine c_laws_heldOpS (by omega) (by omega) ?_
  have g2:¬opsK (m+1) p.ops<0:=by omega
  simp only [g2,ibin_up hi (by omega),RR]
  refine hR' _ _ r.length _ (by rw [←hrl];simp) (.refl _) ⟨rfl,don++[p],r,by simp [hit],rfl,?_⟩
  rw [hfin];simp;rfl
theorem c_laws_heldCodeResult {c k:Int} {bs:List Blk} (h0:0≤k) (h1:blksK k bs≤9000000000000000000) (h:R (.ret (iv (blksK k bs))) σ):acall TP fn_laws_heldCodeResult [.agg [iv c,roBk (mkBksD k bs)],iv k] σ R:=by
 refine s_laws_heldCodeResult_ok ?_
 unfold s_laws_heldCodeResult
 refine box_frz rfl ?_
 have e:∀τ,lod (.rop [iv c,roBk (mkBksD k bs)] 1) τ=some (roBk (mkBksD k bs)):=fun _=>rfl
 simp only [e,RR]
 refine c_laws_heldBlockS h0 h1 ?_
 have hk1:=blksK_le bs k
 have g2:¬blksK k bs<0:=by omega
 simp only [g2,RR]
 exact ret_here h
theorem c_laws_eqCodeResult {c:Int} {bs:List Blk} (hb:bC 1048576 bs) (h:R (.ret (bv true)) σ):acall TP fn_laws_eqCodeResult [.agg [iv c,roBk bs],.agg [iv c,roBk bs]] σ R:=by
 refine s_laws_eqCodeResult_ok ?_
 unfold s_laws_eqCodeResult
 refine box2_frz rfl rfl ?_
 have e0:∀τ,lod (.rop [iv c,roBk bs] 0) τ=some (iv c):=fun _=>rfl
 have e1:∀τ,lod (.rop [iv c,roBk bs] 1) τ=some (roBk bs):=fun _=>rfl
 simp only [RR,e0,e1,dec_self]
 refine c_laws_eqBlockS hb ?_
 simp only [RR]
 exact ret_here h
end
end Go.Proofs.YtbppopcpgcgkkaaGreatDoor.E
/- Code that is owned: copies of arguments; what is lent. -/
namespace Go.Proofs.YtbppopcpgcgkkaaGreatDoor.E
open Go Go.RowKit
set_option maxRecDepth 100000
variable [L:Lam]
variable {σ τ τ':AH} {R:AEnd→AH→Prop}
structure NewO (σ τ:AH) (v:AV) (its:Its):Prop where
 own:OpsH τ v its
 nd:(opsF' v its).Nodup
 fr:∀ψ,ψ∈opsF' v its→σ ψ=none
 sub:AH.Sub σ τ
structure NewB (σ τ:AH) (v:AV) (bs:List BI):Prop where
 own:BlksH τ v bs
 nd:(blksF v bs).Nodup
 fr:∀ψ,ψ∈blksF v bs→σ ψ=none
 sub:AH.Sub σ τ
theorem NewO.one {v:AV} {its:Its} (h:NewO σ τ v its):v.one=true:=by
 rcases h.own.1 with ⟨rfl|rfl,_⟩|⟨φ,st,rfl,_⟩<;>rfl
theorem BisH.keep {bs:List BI} (h:BisH τ bs) (k:∀ψ,ψ∈bsF bs→τ' ψ=τ ψ):BisH τ' bs:=fun b hb=>(h b hb).keep fun ψ hψ=>k ψ (List.mem_flatMap.2 ⟨b,hb,hψ⟩)
theorem BisH.live {bs:List BI} (h:BisH τ bs) {ψ:Nat} (hm:ψ∈bsF bs):∃F,τ ψ=some F:=by
 obtain ⟨b,hb,hψ⟩:=List.mem_flatMap.1 hm
 exact (h b hb).live hψ
theorem NewB.one {v:AV} {bs:List BI} (h:NewB σ τ v bs):v.one=true:=by
 rcases h.own.1 with ⟨rfl|rfl,_⟩|⟨φ,st,rfl,_⟩<;>rfl
theorem nomH_none:NomH ah0:=fun φ F h=>by cases h
theorem thaw_none (σ:AH):thaw ah0 σ ah0=σ:=by
 funext φ
 unfold thaw
 cases e:σ φ<;>simp [ah0]
theorem sub_none (τ:AH):AH.Sub ah0 τ:=fun φ F h=>by cases h
theorem lend_val {f:FuncId} {args args':List AV} {v:AV} {K:AEnd→AH→Prop} (hv:Nom v) (hl:args.length=args'.length) (hf:∀i,i<args.length→Fz ah0 τ (args.getD i .any) (args'.getD i .any))
  (h:∀R:AEnd→AH→Prop,R (.ret v) ah0→acall TP f args' ah0 R) (hK:K (.ret v) τ):acall TP f args τ K:=by
 refine (acall_lend (σ0:=ah0) (args:=args) (args':=args') (Q:=fun e σ1=>e= .ret v∧σ1=ah0) (sub_none τ) hl hf (h _ ⟨hv,nomH_none,rfl,rfl⟩)).mono ?_
 rintro e σ' ⟨σ1,⟨rfl,rfl⟩,rfl,_⟩
 rw [thaw_none]
 exact hK
theorem fz0_blks {v:AV} {bs:List BI} (h:BlksH τ v bs):Fz ah0 τ v (roBk (cont bs)):=fz_blks h fun _ _=>rfl
theorem lend_eqCodeResult {c:Int} {v:AV} {B:List BI} {K:AEnd→AH→Prop} (h:BlksH τ v B) (hb:bC 1048576 (cont B)) (hK:K (.ret (bv true)) τ):acall TP fn_laws_eqCodeResult [.agg [iv c,v],.agg [iv c,roBk (cont B)]] τ K:=by
 refine lend_val (args':=[.agg [iv c,roBk (cont B)],.agg [iv c,roBk (cont B)]]) (.val _) rfl (fun i hi=>?_) (fun R hR=>c_laws_eqCodeResult hb hR) hK
 match i,hi with
 |0,_=>exact Fz.agg2 (.same _) (fz0_blks h)
 |1,_=>exact .same _
theorem lend_held {c k:Int} {v:AV} {B:List BI} {bs:List Blk} {K:AEnd→AH→Prop} (h:BlksH τ v B) (hB:cont B=mkBksD k bs) (h0:0≤k) (h1:blksK k bs≤9000000000000000000) (hK:K (.ret (iv (blksK k bs))) τ):acall TP fn_laws_heldCodeResult [.agg [iv c,v],iv k] τ K:=by
 refine lend_val (args':=[.agg [iv c,roBk (mkBksD k bs)],iv k]) (.val _) rfl (fun i hi=>?_) (fun R hR=>c_laws_heldCodeResult h0 h1 hR) hK
 match i,hi with
 |0,_=>exact Fz.agg2 (.same _) (hB▸fz0_blks h)
 |1,_=>exact .same _
end Go.Proofs.YtbppopcpgcgkkaaGreatDoor.E
/- Code that is owned: growing; copies that the program makes. -/
namespace Go.Proofs.YtbppopcpgcgkkaaGreatDoor.E
open Go Go.RowKit
set_option maxRecDepth 100000
variable [L:Lam]
variable {σ τ τ':AH} {R:AEnd→AH→Prop}
def isSl (T:Tab) (t:TypeId):Bool:=match T t with
 |some ti=>match ti.under with| .slice _=>true|_=>false
 |none=>false
theorem eql_ro {T:Tab} {t:TypeId} {es:List (List AV)} {k:AV→Prop} (hu:isSl T t=true) (h:∀b:Bool,(es≠[]→b=false)→k (bv b)):abin T .eql t (.ro es) (.val (.slice none 0 0)) k:=by
 unfold isSl at hu
 split at hu
 case h_2=>cases hu
 rename_i ti ht
 split at hu
 case h_2=>cases hu
 rename_i e he
 unfold abin aeql
 simp only [ht,he]
 exact h
def Kp (F:List Nat) (τ τ':AH):Prop:=∀ψ,ψ∉F→τ ψ≠none→τ' ψ=τ ψ
theorem Kp.refl (F:List Nat) (τ:AH):Kp F τ τ:=fun _ _ _=>rfl
theorem Kp.of_sub {F:List Nat} (h:AH.Sub τ τ'):Kp F τ τ':=fun ψ _ hn=>by
 cases e:τ ψ with
 |none=>exact absurd e hn
 |some G=>exact h _ _ e
theorem Kp.sub {F:List Nat} (h:Kp F τ τ') (hs:AH.Sub σ τ) (hf:∀ψ,ψ∈F→σ ψ=none):AH.Sub σ τ':=fun ψ G hG=>by
 have h1:=hs _ _ hG
 rw [h ψ (fun c=>by rw [hf ψ c] at hG;cases hG) (by rw [h1];simp),h1]
theorem live_ne {ψ:Nat} (h:∃F,τ ψ=some F):τ ψ≠none:=by obtain ⟨F,e⟩:=h;rw [e];simp
theorem Kp.ops {F:List Nat} {v:AV} {its:Its} (k:Kp F τ τ') (h:OpsH τ v its) (hd:∀ψ,ψ∈opsF' v its→ψ∉F):OpsH τ' v its:=h.keep fun ψ hψ=>k ψ (hd ψ hψ) (live_ne (h.live hψ))
theorem Kp.its {F:List Nat} {its:Its} (k:Kp F τ τ') (h:ItsH τ its) (hd:∀ψ,ψ∈itsF its→ψ∉F):ItsH τ' its:=h.keep fun ψ hψ=>k ψ (hd ψ hψ) (live_ne (h.live hψ))
theorem Kp.blks {F:List Nat} {v:AV} {B:List BI} (k:Kp F τ τ') (h:BlksH τ v B) (hd:∀ψ,ψ∈blksF v B→ψ∉F):BlksH τ' v B:=h.keep fun ψ hψ=>k ψ (hd ψ hψ) (live_ne (h.live hψ))
theorem Kp.buf {F:List Nat} {sz:Nat} {a:AV} {es:List (List AV)} (k:Kp F τ τ') (h:Buf τ sz a es) (hd:∀ψ,ψ∈famL a→ψ∉F):Buf τ' sz a es:=buf_keep h fun ψ hψ=>k ψ (hd ψ hψ) (live_ne (buf_live h hψ))
theorem buf_app {sz:Nat} {a x:AV} {es xs:List (List AV)} {k:AV→AH→Prop} (h:Buf τ sz a es) (hx:aelems τ x=some xs) (hs:∀c,c∈xs→c.length=sz) (ho:∀c,c∈xs→∀y,y∈c→y.one=true) (hn:es.length+xs.length≤4294967296)
  (hk:∀a' τ',Buf τ' sz a' (es++xs)→Kp (famL a) τ τ'→(∀ψ,ψ∈famL a'→ψ∈famL a∨τ ψ=none)→k a' τ'):app sz a x τ k:=
 h.app hx hs ho hn fun a' τ' h1 h2 h3 _=>hk a' τ' h1 (fun ψ hψ hn=>h2 ψ (fun c=>hψ (famL_mem.2 c)) hn) fun ψ hψ=>(h3 ψ (famL_mem.1 hψ)).imp famL_mem.2 id
theorem NewO.app {v x:AV} {its qs:Its} {k:AV→AH→Prop} (h:NewO σ τ v its) (hx:aelems τ x=some (qs.map encIt)) (hq:ItsH τ qs) (hnd:(itsF its++itsF qs).Nodup) (hd:∀ψ,ψ∈itsF qs→ψ∉famL v) (hf:∀ψ,ψ∈itsF qs→σ ψ=none)
  (ho:∀p,p∈qs→p.2.one=true) (hn:its.length+qs.length≤4294967296)
  (hk:∀v' τ',NewO σ τ' v' (its++qs)→Kp (famL v) τ τ'→(∀ψ,ψ∈famL v'→ψ∈famL v∨τ ψ=none)→k v' τ'):E.app 7 v x τ k:=by
 refine buf_app h.own.1 hx (by intro c hc;obtain ⟨p,_,rfl⟩:=List.mem_map.1 hc;rfl) ?_ (by simpa using hn) fun v' τ' hB hK hfam=>hk v' τ' ?_ hK hfam
 ·intro c hc y hy
  obtain ⟨p,hp,rfl⟩:=List.mem_map.1 hc
  simp only [encOpA,List.mem_cons,List.not_mem_nil,or_false] at hy
  rcases hy with rfl|rfl|rfl|rfl|rfl|rfl|rfl<;>first|rfl|exact ho p hp
 obtain ⟨n1,n2,n3⟩:=nodup_app.1 h.nd
 have hdd:∀ψ,ψ∈itsF (its++qs)→ψ∉famL v:=by
  intro ψ hψ c
  rw [itsF_append] at hψ
  rcases List.mem_append.1 hψ with hψ|hψ
  ·exact n3 ψ c hψ
  ·exact hd ψ hψ c
 have hI:ItsH τ (its++qs):=by
  intro p hp
  rcases List.mem_append.1 hp with hp|hp
  ·exact h.own.2 p hp
  ·exact hq p hp
 refine ⟨⟨by rw [List.map_append];exact hB,hK.its hI hdd⟩,?_,?_,hK.sub h.sub fun ψ hψ=>h.fr ψ (List.mem_append_left _ hψ)⟩
 ·rw [opsF',nodup_app]
  refine ⟨famL_nodup _,by rw [itsF_append];exact hnd,fun ψ hψ c=>?_⟩
  rcases hfam ψ hψ with h1|h1
  ·exact hdd ψ c h1
  ·obtain ⟨F,e⟩:=hI.live c
   rw [h1] at e;cases e
 ·intro ψ hψ
  rcases List.mem_append.1 hψ with hψ|hψ
  ·rcases hfam ψ hψ with h1|h1
   ·exact h.fr ψ (List.mem_append_left _ h1)
   ·exact h.sub.none h1
  ·rw [itsF_append] at hψ
   rcases List.mem_append.1 hψ with hψ|hψ
   ·exact h.fr ψ (List.mem_append_right _ hψ)
   ·exact hf ψ hψ
theorem NewO.grow {v:AV} {its:Its} (h:NewO σ τ v its) (hs:AH.Sub τ τ'):NewO σ τ' v its:=
 ⟨(Kp.of_sub (F:=[]) hs).ops h.own (fun _ _ c=>by cases c),h.nd,h.fr,h.sub.trans hs⟩
theorem NewB.grow {v:AV} {B:List BI} (h:NewB σ τ v B) (hs:AH.Sub τ τ'):NewB σ τ' v B:=
 ⟨(Kp.of_sub (F:=[]) hs).blks h.own (fun _ _ c=>by cases c),h.nd,h.fr,h.sub.trans hs⟩
theorem bsl1 {sz:Nat} {z row:List AV} {x:AV} {k:AV→AH→Prop} (he:afillS sz [z] [(0,x)]=some [row]) (hs:sz≤16777216) (h:∀ψ,τ ψ=none→k (.own ψ 0 0 1) (τ.set ψ ⟨0,sz,[row]⟩)):bsl sz z 1 [(0,x)] τ k:=by
 unfold bsl
 have e:List.replicate 1 z=[z]:=rfl
 rw [e,he]
 exact ⟨by omega,by rw [if_neg (by decide)];exact h⟩
theorem bsl0 {sz:Nat} {z:List AV} {k:AV→AH→Prop} (h:k .emp τ):bsl sz z 0 [] τ k:=⟨by omega,by rw [if_pos rfl];exact h⟩
theorem ael1 {ψ sz:Nat} {row:List AV}:aelems (τ.set ψ ⟨0,sz,[row]⟩) (.own ψ 0 0 1)=some [row]:=by simp [aelems]
theorem NewO.push {v:AV} {its:Its} {p:OpD × AV} {z:List AV} {k:AV→AH→Prop} (h:NewO σ τ v its) (he:afillS 7 [z] [(0,.agg (encIt p))]=some [encIt p]) (hq:Buf τ 4 p.2 (p.1.data.map encDat)) (hd:∀ψ,ψ∈famL p.2→ψ∉opsF' v its) (hf:∀ψ,ψ∈famL p.2→σ ψ=none)
  (ho:p.2.one=true) (hn:its.length+1≤4294967296)
  (hk:∀v' τ',NewO σ τ' v' (its++[p])→Kp (famL v) τ τ'→(∀ψ,ψ∈famL v'→ψ∈famL v∨τ ψ=none)→k v' τ'):bsl 7 z 1 [(0,.agg (encIt p))] τ fun x τ=>E.app 7 v x τ k:=by
 refine bsl1 he (by omega) fun ψ hψ=>?_
 have hs:AH.Sub τ (τ.set ψ ⟨0,7,[encIt p]⟩):= .set (.refl τ) _ hψ
 have e1:itsF [p]=famL p.2:=by simp [itsF]
 refine (h.grow hs).app (qs:=[p]) ael1 ?_ ?_ ?_ (by rw [e1];exact hf) (by intro q hq;obtain rfl:q=p:=(by simpa using hq);exact ho) hn fun v' τ' h1 h2 h3=>hk v' τ' h1 ?_ ?_
 ·intro q hq'
  obtain rfl:q=p:=by simpa using hq'
  exact (Kp.of_sub (F:=[]) hs).buf hq (fun _ _ c=>by cases c)
 ·rw [e1,nodup_app]
  exact ⟨(nodup_app.1 h.nd).2.1,famL_nodup _,fun x hx c=>hd x c (List.mem_append_right _ hx)⟩
 ·rw [e1];exact fun ψ hψ c=>hd ψ hψ (List.mem_append_left _ c)
 ·exact fun χ hχ hn=>by rw [h2 χ hχ (by rw [AH.set_ne' (by rintro rfl;exact hn hψ)];exact hn),AH.set_ne' (by rintro rfl;exact hn hψ)]
 ·intro χ hχ
  rcases h3 χ hχ with c|c
  ·exact .inl c
  ·exact .inr (hs.none c)
theorem NewO.emp (h:AH.Sub σ τ):NewO σ τ .emp []:=⟨⟨.inl ⟨.inr rfl,rfl⟩,fun p hp=>by cases hp⟩,.nil,(fun ψ c=>by cases c),h⟩
theorem NewB.emp (h:AH.Sub σ τ):NewB σ τ .emp []:=⟨⟨.inl ⟨.inr rfl,rfl⟩,fun p hp=>by cases hp⟩,.nil,(fun ψ c=>by cases c),h⟩
theorem NewB.push {v a:AV} {B:List BI} {its:Its} {n:Int} {z:List AV} {k:AV→AH→Prop} (h:NewB σ τ v B) (he:afillS 2 [z] [(0,.agg [iv n,a])]=some [[iv n,a]]) (hq:OpsH τ a its) (hqn:(opsF' a its).Nodup) (hd:∀ψ,ψ∈opsF' a its→ψ∉blksF v B)
  (hf:∀ψ,ψ∈opsF' a its→σ ψ=none) (ho:a.one=true) (hn:B.length+1≤4294967296) (hk:∀v' τ',NewB σ τ' v' (B++[⟨n,a,its⟩])→k v' τ'):bsl 2 z 1 [(0,.agg [iv n,a])] τ fun x τ=>E.app 2 v x τ k:=by
 refine bsl1 he (by omega) fun ψ hψ=>?_
 have hs:AH.Sub τ (τ.set ψ ⟨0,2,[[iv n,a]]⟩):= .set (.refl τ) _ hψ
 have h':=h.grow hs
 have hq':OpsH (τ.set ψ ⟨0,2,[[iv n,a]]⟩) a its:=(Kp.of_sub (F:=[]) hs).ops hq (fun _ _ c=>by cases c)
 refine buf_app h'.own.1 ael1 (by intro c hc;obtain rfl:c=[iv n,a]:=(by simpa using hc);rfl) ?_ (by simpa using hn) fun v' τ' hB hK hfam=>hk v' τ' ?_
 ·intro c hc y hy
  obtain rfl:c=[iv n,a]:=by simpa using hc
  simp only [List.mem_cons,List.not_mem_nil,or_false] at hy
  rcases hy with rfl|rfl
  ·rfl
  ·exact ho
 obtain ⟨n1,n2,n3⟩:=nodup_app.1 h.nd
 have e1:bsF (B++[⟨n,a,its⟩])=bsF B++opsF' a its:=by rw [bsF_app];simp [bsF,biF]
 have hdd:∀ψ,ψ∈bsF (B++[⟨n,a,its⟩])→ψ∉famL v:=by
  intro ψ hψ c
  rw [e1] at hψ
  rcases List.mem_append.1 hψ with hψ|hψ
  ·exact n3 ψ c hψ
  ·exact hd ψ hψ (List.mem_append_left _ c)
 have hI:BisH (τ.set ψ ⟨0,2,[[iv n,a]]⟩) (B++[⟨n,a,its⟩]):=by
  intro p hp
  rcases List.mem_append.1 hp with hp|hp
  ·exact h'.own.2 p hp
  ·obtain rfl:p=⟨n,a,its⟩:=by simpa using hp
   exact hq'
 refine ⟨⟨by rw [List.map_append];exact hB,hI.keep fun χ hχ=>hK χ (hdd χ hχ) (live_ne (hI.live hχ))⟩,?_,?_,hK.sub h'.sub fun ψ hψ=>h.fr ψ (List.mem_append_left _ hψ)⟩
 ·show (famL v'++bsF (B++[⟨n,a,its⟩])).Nodup
  rw [nodup_app]
  refine ⟨famL_nodup _,?_,fun χ hχ c=>?_⟩
  ·rw [e1,nodup_app]
   exact ⟨n2,hqn,fun x hx c=>hd x c (List.mem_append_right _ hx)⟩
  rcases hfam χ hχ with h1|h1
  ·exact hdd χ c h1
  ·obtain ⟨F,e⟩:=hI.live c
   rw [h1] at e;cases e
 ·intro χ hχ
  have hχ:χ∈famL v'++bsF (B++[⟨n,a,its⟩]):=hχ
  rcases List.mem_append.1 hχ with hχ|hχ
  ·rcases hfam χ hχ with h1|h1
   ·exact h.fr χ (List.mem_append_left _ h1)
   ·exact h'.sub.none h1
  ·rw [e1] at hχ
   rcases List.mem_append.1 hχ with hχ|hχ
   ·exact h.fr χ (List.mem_append_right _ hχ)
   ·exact hf χ hχ
theorem sl_data:isSl TT ty_LRiiisE=true:=by kernel_rfl
theorem c_slices_Clone {ds:List Dat} (hl:ds.length≤4294967296) (h:∀a τ',Buf τ' 4 a (ds.map encDat)→(∀ψ,ψ∈famL a→σ ψ=none)→AH.Sub σ τ'→R (.ret a) τ'):acall TP fn_slices_Clone [roD ds] σ R:=by
 refine s_slices_Clone_ok ?_
 unfold s_slices_Clone
 refine eql_ro sl_data fun b hb=>?_
 cases b with
 |true=>
  have e:ds=[]:=by
   refine Classical.byContradiction fun c=>?_
   have:=hb (by simpa using c)
   cases this
  subst e
  simp only [RR]
  exact ret_here (h _ σ (.inl ⟨.inl rfl,rfl⟩) (fun ψ c=>by cases c) (.refl σ))
 |false=>
  simp only [RR]
  refine bsl0 ?_
  refine buf_app (es:=[]) (.inl ⟨.inr rfl,rfl⟩) (xs:=ds.map encDat) rfl (by intro c hc;obtain ⟨x,_,rfl⟩:=List.mem_map.1 hc;rfl) (by intro c hc y hy;obtain ⟨x,_,rfl⟩:=List.mem_map.1 hc;exact one_encDat x y hy) (by simpa using hl) fun a τ' h1 h2 h3=>?_
  refine ret_here (h a τ' (by simpa using h1) (fun ψ hψ=>(h3 ψ hψ).elim (fun c=>by cases c) id) ?_)
  exact h2.sub (.refl σ) fun ψ c=>by cases c
end Go.Proofs.YtbppopcpgcgkkaaGreatDoor.E
/- Code that is owned: the program's copy. -/
namespace Go.Proofs.YtbppopcpgcgkkaaGreatDoor.E
open Go Go.RowKit
set_option maxRecDepth 100000
variable [L:Lam]
variable {σ τ τ':AH} {R:AEnd→AH→Prop}
theorem Buf.av1 {sz:Nat} {a:AV} {es:List (List AV)} (h:Buf τ sz a es):a.one=true:=by
 rcases h with ⟨rfl|rfl,_⟩|⟨φ,st,rfl,_⟩<;>rfl
theorem bld_buf {n:Int} {w:AV} {sz:Nat} {es:List (List AV)} (h:Buf τ sz w es):bld [(.val (.int .i64 0)),(.val (.slice none 0 0))] [(0,1),(1,1)] [(0,iv n),(1,w)]=some (.agg [iv n,w]):=by
 rcases h with ⟨rfl|rfl,_⟩|⟨φ,st,rfl,_⟩<;>rfl
set_option maxHeartbeats 1000000 in
theorem c_impl_copiedCode {bs:List Blk} (hl:bs.length≤1048576) (hb:∀b,b∈bs→b.ops.length≤1048576∧∀o,o∈b.ops→o.data.length≤1048576) (h:∀v B τ,cont B=bs→NewB σ τ v B→R (.ret v) τ):acall TP fn_impl_copiedCode [roBk bs] σ R:=by
 refine s_impl_copiedCode_ok ?_
 unfold s_impl_copiedCode
 refine bsl0 ?_
 simp only [len_ro,RR]
 refine lp_rel bs.length (fun i x τ=>∃v B,x=(v,roBk bs,iv (bs.length:Int),iv (i:Int),())∧cont B=bs.take i∧NewB σ τ v B) ⟨.emp,[],rfl,rfl,.emp (.refl σ)⟩ ?_
 rintro i _ τ hi ⟨v,B,rfl,hcB,hN⟩ R' hR'
 by_cases hlt:i<bs.length
 ·have g:(i:Int)<(bs.length:Int):=by omega
  obtain ⟨hol,hod⟩:=hb _ (List.getElem_mem hlt)
  simp only [g,idx_ro hlt len_encBlk,lodA_all (len_encBlk _),RR]
  refine new_encBlk rfl ?_
  refine bsl0 ?_
  simp only [RR,RT,len_ro]
  refine lp_rel bs[i].ops.length (fun j x τ'=>∃w its,x=(v,.rop (encBlk bs[i]) 0,w,roBk bs,iv (bs.length:Int),iv (i:Int),roO bs[i].ops,iv (bs[i].ops.length:Int),iv (j:Int),())∧its.map (·.1)=bs[i].ops.take j∧NewO τ τ' w its) ⟨.emp,[],rfl,rfl,.emp (.refl τ)⟩ ?_
  rintro j _ τ1 hj ⟨w,its,rfl,hits,hO⟩ R2 hR2
  have hil:its.length=j:=by have:=congrArg List.length hits;simpa [Nat.min_eq_left hj] using this
  by_cases hlt2:j<bs[i].ops.length
  ·have g2:(j:Int)<(bs[i].ops.length:Int):=by omega
   have hdl:=hod _ (List.getElem_mem hlt2)
   simp only [g2,idx_ro hlt2 len_encOp,lodA_all (len_encOp _),RR]
   intro φ hφ
   refine sto_own (es:=[[iv 0,iv 0,iv 0,iv 0,iv 0,str ⟨#[]⟩,nilS]]) (cs:=encOp bs[i].ops[j]) (by rw [AH.set_same];rfl) (by simp) rfl rfl rfl (one_encOp _) ?_
   simp only [List.set_cons_zero,AH.set_set,RR]
   have el:lod (.ptr φ 0 0 6) (τ1.set φ ⟨0,7,[encOp bs[i].ops[j]]⟩)=some (roD bs[i].ops[j].data):=lod_at (AH.set_same ..) rfl rfl
   simp only [el,RR]
   refine c_slices_Clone (by omega) fun a τ2 hA hAf hAs=>?_
   simp only [RR]
   have hF2:τ2 φ=some ⟨0,7,[encOp bs[i].ops[j]]⟩:=hAs _ _ (AH.set_same ..)
   refine sto_fld hF2 rfl (by decide) (acells_one hA.av1) hA.av1 ?_
   have hφa:φ∉famL a:=fun c=>by have:=hAf φ c;rw [AH.set_same] at this;cases this
   refine ⟨.rop (encOpA bs[i].ops[j] a) 0,(τ2.set φ ⟨0,7,[encOpA bs[i].ops[j] a]⟩).del φ,.del _ _,.ptr (AH.set_same ..) (AH.del_same ..) rfl (by simp) rfl rfl (fun j hj=> .same _),?_⟩
   generalize hτ3:(τ2.set φ ⟨0,7,[encOpA bs[i].ops[j] a]⟩).del φ=τ3
   have h3:∀ψ,ψ≠φ→τ3 ψ=τ2 ψ:=fun ψ hn=>by rw [←hτ3,AH.del_ne _ hn,AH.set_ne' hn]
   have hs3:AH.Sub τ1 τ3:=fun ψ F hF=>by
    have hn:ψ≠φ:=by rintro rfl;rw [hφ] at hF;cases hF
    rw [h3 ψ hn]
    exact hAs _ _ (by rw [AH.set_ne' hn];exact hF)
   have hA3:Buf τ3 4 a (bs[i].ops[j].data.map encDat):=buf_keep hA fun ψ hψ=>h3 ψ (by rintro rfl;exact hφa hψ)
   have hAf1:∀ψ,ψ∈famL a→τ1 ψ=none:=fun ψ hψ=>(AH.set_none.1 (hAf ψ hψ)).2
   simp only [lodA_all (cs:=encOpA bs[i].ops[j] a) (n:=7) rfl,RR]
   refine (hO.grow hs3).push (p:=(bs[i].ops[j],a)) rfl hA3 (fun ψ hψ c=>?_) (fun ψ hψ=>hO.sub.none (hAf1 ψ hψ)) hA.av1 (by omega) fun w' τ4 hN4 hK4 _=>?_
   ·obtain ⟨F,e⟩:=hO.own.live c
    rw [hAf1 ψ hψ] at e;cases e
   simp only [ibin_up hlt2 (by omega),RR]
   exact hR2 _ _ _ hlt2 (.refl _) ⟨w',its++[(bs[i].ops[j],a)],rfl,by rw [List.take_succ_eq_append_getElem hlt2,List.map_append,hits];rfl,hN4⟩
  ·have g2:¬(j:Int)<(bs[i].ops.length:Int):=by omega
   obtain rfl:j=bs[i].ops.length:=by omega
   rw [List.take_length] at hits
   have eb:=bld_buf (n:=bs[i].args) hO.own.1
   simp only [g2,RR,RT,eb]
   have hN1:=hN.grow hO.sub
   refine hN1.push (its:=its) rfl hO.own hO.nd (fun ψ hψ c=>?_) (fun ψ hψ=>hN.sub.none (hO.fr ψ hψ)) hO.one ?_ fun v' τ4 hN4=>?_
   ·obtain ⟨F,e⟩:=hN.own.live c
    rw [hO.fr ψ hψ] at e;cases e
   ·have:=congrArg List.length hcB
    simp [cont] at this
    omega
   simp only [ibin_up hlt (by omega),RR]
   refine hR' _ _ _ hlt (.refl _) ⟨v',B++[⟨bs[i].args,w,its⟩],rfl,?_,hN4⟩
   rw [List.take_succ_eq_append_getElem hlt,cont,List.map_append,←cont,hcB]
   simp only [List.map_cons,List.map_nil,hits]
 ·have g:¬(i:Int)<(bs.length:Int):=by omega
  obtain rfl:i=bs.length:=by omega
  rw [List.take_length] at hcB
  simp only [g,RR]
  exact ret_here (h v B τ hcB hN)
end Go.Proofs.YtbppopcpgcgkkaaGreatDoor.E
/- Lists of lists that are owned: grown, written, frozen. -/
namespace Go.Proofs.YtbppopcpgcgkkaaGreatDoor.E
open Go Go.RowKit
set_option maxRecDepth 100000
variable [L:Lam]
variable {σ τ τ':AH} {R:AEnd→AH→Prop}
theorem acall_frz {P:Program} {f:FuncId} {args args':List AV} {σ0 σ:AH} {R:AEnd→AH→Prop} (hs:AH.Sub σ0 σ) (hl:args.length=args'.length) (hf:∀i,i<args.length→Fz σ0 σ (args.getD i .any) (args'.getD i .any)) (h:acall P f args' σ0 R):acall P f args σ R:=by
 obtain ⟨fn,h1,h2,h3,h4⟩:=h
 refine ⟨fn,h1,h2,h3,fun κ w vs hr hv=>?_⟩
 obtain ⟨hS,hV⟩:=imp_freeze' hs hr
 refine (h4 _ w vs hS.rel ⟨hl▸hv.1,fun i hi=>hV _ _ _ (hf i (hl▸hi)) (hv.2 i (hl▸hi))⟩).mono ?_
 rintro e w' ⟨κ1,ae,σ1,hq,hT,hE⟩
 exact ⟨κ1,ae,σ1,hq,hS.trans hT,hE⟩
section
variable {X:Type}
def l2F (bs:List (X × AV)):List Nat:=bs.flatMap fun p=>famL p.2
theorem l2F_app (a b:List (X × AV)):l2F (a++b)=l2F a++l2F b:=by simp [l2F]
theorem l2F_cons (p:X × AV) (b:List (X × AV)):l2F (p::b)=famL p.2++l2F b:=by simp [l2F]
theorem l2F_mem {bs:List (X × AV)} {p:X × AV} (h:p∈bs) {ψ:Nat} (hψ:ψ∈famL p.2):ψ∈l2F bs:=List.mem_flatMap.2 ⟨p,h,hψ⟩
structure N2 (row:X→AV→List AV) (n:Nat) (inn:X→List (List AV)) (m:Nat) (σ τ:AH) (v:AV) (bs:List (X × AV)):Prop where
 out:Buf τ n v (bs.map fun p=>row p.1 p.2)
 ins:∀p,p∈bs→Buf τ m p.2 (inn p.1)
 nd:(famL v++l2F bs).Nodup
 fr:∀ψ,ψ∈famL v++l2F bs→σ ψ=none
 sub:AH.Sub σ τ
variable {row:X→AV→List AV} {n:Nat} {inn:X→List (List AV)} {m:Nat} {v:AV} {bs:List (X × AV)}
theorem N2.live (h:N2 row n inn m σ τ v bs) {ψ:Nat} (hψ:ψ∈famL v++l2F bs):∃F,τ ψ=some F:=by
 rcases List.mem_append.1 hψ with c|c
 ·exact buf_live h.out c
 ·obtain ⟨p,hp,hm⟩:=List.mem_flatMap.1 c
  exact buf_live (h.ins p hp) hm
theorem N2.keep (h:N2 row n inn m σ τ v bs) (hk:∀ψ,ψ∈famL v++l2F bs→τ' ψ=τ ψ) (hs:AH.Sub σ τ'):N2 row n inn m σ τ' v bs:=
 ⟨buf_keep h.out fun ψ hψ=>hk ψ (List.mem_append_left _ hψ),fun p hp=>buf_keep (h.ins p hp) fun ψ hψ=>hk ψ (List.mem_append_right _ (l2F_mem hp hψ)),h.nd,h.fr,hs⟩
theorem N2.grow (h:N2 row n inn m σ τ v bs) (hs:AH.Sub τ τ'):N2 row n inn m σ τ' v bs:=
 h.keep (fun ψ hψ=>by obtain ⟨F,e⟩:=h.live hψ;rw [e];exact hs _ _ e) (h.sub.trans hs)
theorem N2.nil (h:AH.Sub σ τ):N2 row n inn m σ τ nilS ([]:List (X × AV)):=⟨.inl ⟨.inl rfl,rfl⟩,(fun p hp=>by cases hp),.nil,(fun ψ c=>by cases c),h⟩
theorem N2.own (h:N2 row n inn m σ τ v bs) (hn:bs≠[]):∃φ st,v= .own φ st 0 bs.length∧τ φ=some ⟨st,n,bs.map fun p=>row p.1 p.2⟩:=by
 obtain ⟨φ,st,hv,hF⟩:=buf_own h.out (by intro c;exact hn (List.map_eq_nil_iff.1 c))
 exact ⟨φ,st,by rw [hv,List.length_map],hF⟩
theorem N2.one (h:N2 row n inn m σ τ v bs):v.one=true:=h.out.av1
theorem N2.len (h:N2 row n inn m σ τ v bs):lenS v=some (iv (bs.length:Int)):=by have:=buf_len h.out;rwa [List.length_map] at this
theorem N2.app1 {p:X × AV} {x:AV} {k:AV→AH→Prop} (h:N2 row n inn m σ τ v bs) (hx:aelems τ x=some [row p.1 p.2]) (hrl:(row p.1 p.2).length=n) (hq:Buf τ m p.2 (inn p.1))
  (hd:∀ψ,ψ∈famL p.2→ψ∉famL v++l2F bs) (hf:∀ψ,ψ∈famL p.2→σ ψ=none) (ho:∀y,y∈row p.1 p.2→y.one=true) (hn:bs.length+1≤4294967296)
  (hk:∀v' τ',N2 row n inn m σ τ' v' (bs++[p])→Kp (famL v) τ τ'→(∀ψ,ψ∈famL v'→ψ∈famL v∨τ ψ=none)→k v' τ'):E.app n v x τ k:=by
 refine buf_app h.out hx (by intro c hc;obtain rfl:=List.mem_singleton.1 hc;exact hrl) (by intro c hc y hy;obtain rfl:=List.mem_singleton.1 hc;exact ho y hy) (by simpa using hn) fun v' τ' hB hK hfam=>hk v' τ' ?_ hK hfam
 obtain ⟨n1,n2,n3⟩:=nodup_app.1 h.nd
 have e1:l2F (bs++[p])=l2F bs++famL p.2:=by rw [l2F_app];simp [l2F]
 have hdd:∀ψ,ψ∈l2F (bs++[p])→ψ∉famL v:=by
  intro ψ hψ c
  rw [e1] at hψ
  rcases List.mem_append.1 hψ with hψ|hψ
  ·exact n3 ψ c hψ
  ·exact hd ψ hψ (List.mem_append_left _ c)
 have hI:∀q,q∈bs++[p]→Buf τ m q.2 (inn q.1):=by
  intro q hq2
  rcases List.mem_append.1 hq2 with hq2|hq2
  ·exact h.ins q hq2
  ·obtain rfl:=List.mem_singleton.1 hq2
   exact hq
 have live:∀χ,χ∈l2F (bs++[p])→τ χ≠none:=fun χ hχ=>by
  obtain ⟨q,hq2,hm⟩:=List.mem_flatMap.1 hχ
  exact live_ne (buf_live (hI q hq2) hm)
 refine ⟨by rw [List.map_append];exact hB,fun q hq2=>hK.buf (hI q hq2) fun χ hχ=>hdd χ (l2F_mem hq2 hχ),?_,?_,hK.sub h.sub fun ψ hψ=>h.fr ψ (List.mem_append_left _ hψ)⟩
 ·rw [nodup_app]
  refine ⟨famL_nodup _,?_,fun χ hχ c=>?_⟩
  ·rw [e1,nodup_app]
   exact ⟨n2,famL_nodup _,fun x hx c=>hd x c (List.mem_append_right _ hx)⟩
  rcases hfam χ hχ with h1|h1
  ·exact hdd χ c h1
  ·exact live χ c h1
 ·intro χ hχ
  rcases List.mem_append.1 hχ with hχ|hχ
  ·rcases hfam χ hχ with h1|h1
   ·exact h.fr χ (List.mem_append_left _ h1)
   ·exact h.sub.none h1
  ·rw [e1] at hχ
   rcases List.mem_append.1 hχ with hχ|hχ
   ·exact h.fr χ (List.mem_append_right _ hχ)
   ·exact hf χ hχ
theorem N2.repl {A C:List (X × AV)} {p:X × AV} {x':X} {w:AV} {j:Nat} {τ0:AH} {φ st:Nat} {k:AH→Prop} (h:N2 row n inn m σ τ0 v (A++p::C)) (hv:v= .own φ st 0 (A++p::C).length) (hw:Buf τ m w (inn x')) (hj:j<n) (hr:(row p.1 p.2).set j w=row x' w)
  (hkp:Kp (famL p.2) τ0 τ) (hfm:∀ψ,ψ∈famL w→ψ∈famL p.2∨τ0 ψ=none)
  (hk:∀τ',N2 row n inn m σ τ' v (A++(x',w)::C)→(∀ψ,ψ∉famL v→τ' ψ=τ ψ)→k τ'):sto 1 (.ptr φ st A.length j) w τ k:=by
 obtain ⟨φ',st',hv',hF⟩:=h.own (by simp)
 rw [hv'] at hv
 obtain ⟨rfl,rfl⟩:φ'=φ∧st'=st:=by injection hv with a b;exact ⟨a,b⟩
 subst hv'
 have hfv:famL (.own φ' st' 0 (A++p::C).length)=[φ']:=rfl
 have hnd:=h.nd
 rw [l2F_app,l2F_cons,hfv] at hnd
 have hlive:∀ψ,ψ∈famL (.own φ' st' 0 (A++p::C).length)++l2F (A++p::C)→τ0 ψ≠none:=fun ψ hψ=>live_ne (h.live hψ)
 have mem:∀ψ,ψ∈famL (.own φ' st' 0 (A++p::C).length)++l2F (A++p::C)↔ψ=φ'∨ψ∈l2F A∨ψ∈famL p.2∨ψ∈l2F C:=by
  intro ψ;rw [l2F_app,l2F_cons,hfv];simp
 obtain ⟨_,hnd2,hnd3⟩:=nodup_app.1 hnd
 obtain ⟨hnA,hnd4,hnd5⟩:=nodup_app.1 hnd2
 obtain ⟨_,hnC,hnd6⟩:=nodup_app.1 hnd4
 have hφA:φ'∉l2F A:=fun c=>hnd3 φ' (by simp) (by simp [c])
 have hφp:φ'∉famL p.2:=fun c=>hnd3 φ' (by simp) (by simp [c])
 have hφC:φ'∉l2F C:=fun c=>hnd3 φ' (by simp) (by simp [c])
 have hφw:φ'∉famL w:=fun c=>(hfm φ' c).elim hφp fun d=>hlive φ' ((mem φ').2 (.inl rfl)) d
 have hwA:∀ψ,ψ∈famL w→ψ∉l2F A:=fun ψ c d=>(hfm ψ c).elim (fun e=>hnd5 ψ d (by simp [e])) fun e=>hlive ψ ((mem ψ).2 (by simp [d])) e
 have hwC:∀ψ,ψ∈famL w→ψ∉l2F C:=fun ψ c d=>(hfm ψ c).elim (fun e=>hnd6 ψ e d) fun e=>hlive ψ ((mem ψ).2 (by simp [d])) e
 have hFτ:τ φ'=some ⟨st',n,(A++p::C).map fun p=>row p.1 p.2⟩:=by rw [hkp φ' hφp (hlive φ' ((mem φ').2 (.inl rfl)))];exact hF
 have hset:τ=τ.set φ' ⟨st',n,(A.map fun p=>row p.1 p.2)++row p.1 p.2::C.map fun p=>row p.1 p.2⟩:=by rw [AH.set_self];rw [hFτ];simp
 rw [hset]
 refine sto_at (by simp) hj hw.av1 ?_
 rw [hr]
 have h2:∀ψ,ψ≠φ'→(τ.set φ' ⟨st',n,(A.map fun p=>row p.1 p.2)++row x' w::C.map fun p=>row p.1 p.2⟩) ψ=τ ψ:=fun ψ hψ=>AH.set_ne' hψ
 have hq:∀q,q∈A∨q∈C→Buf (τ.set φ' ⟨st',n,(A.map fun p=>row p.1 p.2)++row x' w::C.map fun p=>row p.1 p.2⟩) m q.2 (inn q.1):=by
  intro q hq
  refine buf_keep (h.ins q (by rcases hq with c|c<;>simp [c])) fun ψ hψ=>?_
  have hm:ψ∈l2F A∨ψ∈l2F C:=hq.imp (fun c=>l2F_mem c hψ) fun c=>l2F_mem c hψ
  have hne:ψ≠φ':=by rintro rfl;exact hm.elim hφA hφC
  have hnp:ψ∉famL p.2:=fun c=>hm.elim (fun d=>hnd5 ψ d (by simp [c])) fun d=>hnd6 ψ c d
  rw [h2 ψ hne]
  exact hkp ψ hnp (hlive ψ ((mem ψ).2 (by rcases hm with c|c<;>simp [c])))
 refine hk _ ⟨.inr ⟨φ',st',by simp,by rw [AH.set_same];simp⟩,?_,?_,?_,?_⟩ fun ψ hψ=>by rw [h2 ψ (by rintro rfl;exact hψ (by simp [famL]))]
 ·intro q hm
  rcases List.mem_append.1 hm with c|c
  ·exact hq q (.inl c)
  ·rcases List.mem_cons.1 c with rfl|c
   ·exact buf_keep hw fun ψ hψ=>h2 ψ (by rintro rfl;exact hφw hψ)
   ·exact hq q (.inr c)
 ·have e:(A++p::C).length=(A++(x',w)::C).length:=by simp
  rw [l2F_app,l2F_cons,hfv,nodup_app]
  refine ⟨by simp,nodup_app.2 ⟨hnA,nodup_app.2 ⟨famL_nodup _,hnC,fun ψ hψ c=>hwC ψ hψ c⟩,fun ψ hψ c=>?_⟩,fun ψ hψ c=>?_⟩
  ·rcases List.mem_append.1 c with c|c
   ·exact hwA ψ c hψ
   ·exact hnd5 ψ hψ (by simp [c])
  ·obtain rfl:=List.mem_singleton.1 hψ
   simp only [List.mem_append] at c
   rcases c with c|c|c
   ·exact hφA c
   ·exact hφw c
   ·exact hφC c
 ·intro ψ hψ
  rw [l2F_app,l2F_cons,hfv] at hψ
  simp only [List.mem_append,List.mem_singleton] at hψ
  rcases hψ with c|c|c|c
  ·exact h.fr ψ ((mem ψ).2 (.inl c))
  ·exact h.fr ψ ((mem ψ).2 (by simp [c]))
  ·rcases hfm ψ c with d|d
   ·exact h.fr ψ ((mem ψ).2 (by simp [d]))
   ·exact h.sub.none d
  ·exact h.fr ψ ((mem ψ).2 (by simp [c]))
 ·intro ψ G hG
  have hn:∀χ,χ∈famL (.own φ' st' 0 (A++p::C).length)++l2F (A++p::C)→ψ≠χ:=by rintro χ hχ rfl;rw [h.fr ψ hχ] at hG;cases hG
  rw [h2 ψ (hn φ' ((mem φ').2 (.inl rfl)))]
  have h1:=h.sub _ _ hG
  rw [hkp ψ (fun c=>hn ψ ((mem ψ).2 (by simp [c])) rfl) (by rw [h1];simp),h1]
theorem N2.wr {A C:List (X × AV)} {p:X × AV} {x':X} {u:AV} {j:Nat} {es1 es2:List (List AV)} {r:List AV} {φ st:Nat} {k:AH→Prop} (h:N2 row n inn m σ τ v (A++p::C)) (hi:inn p.1=es1++r::es2) (hi':inn x'=es1++r.set j u::es2)
  (hr:row x' p.2=row p.1 p.2) (hj:j<m) (h1:u.one=true) (hp:p.2= .own φ st 0 (inn p.1).length)
  (hk:∀τ',N2 row n inn m σ τ' v (A++(x',p.2)::C)→(∀ψ,ψ≠φ→τ' ψ=τ ψ)→k τ'):sto 1 (.ptr φ st es1.length j) u τ k:=by
 have hb:=h.ins p (by simp)
 rw [hp] at hb
 obtain ⟨φ',st',hv',hF⟩:=buf_own hb (by rw [hi];simp)
 obtain ⟨rfl,rfl⟩:φ'=φ∧st'=st:=by injection hv' with a b;exact ⟨a.symm,b.symm⟩
 have hset:τ=τ.set φ' ⟨st',m,es1++r::es2⟩:=by rw [AH.set_self];rw [hF,hi]
 have hfp:famL p.2=[φ']:=by rw [hp];rfl
 have hnd:=h.nd
 rw [l2F_app,l2F_cons,hfp] at hnd
 obtain ⟨_,hnd2,hnd3⟩:=nodup_app.1 hnd
 obtain ⟨_,hnd4,hnd5⟩:=nodup_app.1 hnd2
 obtain ⟨_,_,hnd6⟩:=nodup_app.1 hnd4
 have hφv:φ'∉famL v:=fun c=>hnd3 φ' c (by simp)
 have hφA:φ'∉l2F A:=fun c=>hnd5 φ' c (by simp)
 have hφC:φ'∉l2F C:=fun c=>hnd6 φ' (by simp) c
 rw [hset]
 refine sto_at rfl hj h1 ?_
 have h2:∀ψ,ψ≠φ'→(τ.set φ' ⟨st',m,es1++r.set j u::es2⟩) ψ=τ ψ:=fun ψ hψ=>AH.set_ne' hψ
 refine hk _ ⟨?_,?_,?_,?_,?_⟩ h2
 ·have:=buf_keep h.out (τ':=τ.set φ' ⟨st',m,es1++r.set j u::es2⟩) fun ψ hψ=>h2 ψ (by rintro rfl;exact hφv hψ)
  simpa [hr] using this
 ·intro q hq
  rcases List.mem_append.1 hq with c|c
  ·exact buf_keep (h.ins q (by simp [c])) fun ψ hψ=>h2 ψ (by rintro rfl;exact hφA (l2F_mem c hψ))
  ·rcases List.mem_cons.1 c with rfl|c
   ·show Buf _ m p.2 (inn x')
    rw [hp,hi',hi]
    exact .inr ⟨φ',st',by simp,AH.set_same ..⟩
   ·exact buf_keep (h.ins q (by simp [c])) fun ψ hψ=>h2 ψ (by rintro rfl;exact hφC (l2F_mem c hψ))
 ·have:=h.nd
  rw [l2F_app,l2F_cons] at this ⊢
  exact this
 ·intro ψ hψ
  refine h.fr ψ ?_
  rw [l2F_app,l2F_cons] at hψ ⊢
  exact hψ
 ·intro ψ G hG
  have hn:ψ≠φ':=by rintro rfl;rw [h.fr ψ (by rw [l2F_app,l2F_cons,hfp];simp)] at hG;cases hG
  rw [h2 ψ hn];exact h.sub _ _ hG
theorem N2.fz (h:N2 row n inn m σ τ v bs) (hl:∀x a,(row x a).length=n) (hm:∀x c,c∈inn x→c.length=m) (hc:∀x c,c∈inn x→True)
  (hr:∀x a b j,Fz σ τ a b→Fz σ τ ((row x a).getD j .any) ((row x b).getD j .any)):Fz σ τ v (.ro (bs.map fun p=>row p.1 (.ro (inn p.1)))):=by
 refine fz_row h.out (fun ψ hψ=>h.fr ψ (List.mem_append_left _ hψ)) (by simp) (by intro c hc;obtain ⟨p,_,rfl⟩:=List.mem_map.1 hc;exact hl _ _) fun i j hi hj=>?_
 have hi':i<bs.length:=by simpa using hi
 have e1:(bs.map fun p=>row p.1 p.2).getD i []=row bs[i].1 bs[i].2:=by simp [List.getD,hi']
 have e2:(bs.map fun p=>row p.1 (.ro (inn p.1))).getD i []=row bs[i].1 (.ro (inn bs[i].1)):=by simp [List.getD,hi']
 rw [e1,e2]
 refine hr _ _ _ j ?_
 refine fz_row (h.ins _ (List.getElem_mem hi')) (fun ψ hψ=>h.fr ψ (List.mem_append_right _ (l2F_mem (List.getElem_mem hi') hψ))) rfl (hm _) fun _ _ _ _=> .same _
end
end Go.Proofs.YtbppopcpgcgkkaaGreatDoor.E
/- A cell of fields: lists that grow and shrink, and values that stay. -/
namespace Go.Proofs.YtbppopcpgcgkkaaGreatDoor.E
open Go Go.RowKit
set_option maxRecDepth 100000
variable [L:Lam]
variable {σ τ τ':AH} {R:AEnd→AH→Prop}
def Bfj (τ:AH) (sz:Nat) (a:AV) (es:List (List AV)):Prop:=
 ((a= .val (.slice none 0 0)∨a= .emp)∧es=[])∨∃φ st jk,a= .own φ st 0 es.length∧τ φ=some ⟨st,sz,es++jk⟩
section
variable {sz:Nat} {a:AV} {es:List (List AV)}
theorem Bfj.nil:Bfj τ sz (.val (.slice none 0 0)) []:= .inl ⟨.inl rfl,rfl⟩
theorem Bfj.len (h:Bfj τ sz a es):lenS a=some (iv (es.length:Int)):=by
 rcases h with ⟨rfl|rfl,rfl⟩|⟨φ,st,jk,rfl,_⟩<;>rfl
theorem Bfj.keep (h:Bfj τ sz a es) (hk:∀ψ,ψ∈famL a→τ' ψ=τ ψ):Bfj τ' sz a es:=by
 rcases h with h|⟨φ,st,jk,rfl,hF⟩
 ·exact .inl h
 ·exact .inr ⟨φ,st,jk,rfl,by rw [hk φ (by simp [famL])];exact hF⟩
theorem Bfj.live (h:Bfj τ sz a es) {ψ:Nat} (hm:ψ∈famL a):∃F,τ ψ=some F:=by
 rcases h with ⟨rfl|rfl,rfl⟩|⟨φ,st,jk,rfl,hF⟩
 ·cases hm
 ·cases hm
 ·obtain rfl:ψ=φ:=by simpa [famL] using hm
  exact ⟨_,hF⟩
theorem Bfj.one (h:Bfj τ sz a es):a.one=true:=by
 rcases h with ⟨rfl|rfl,rfl⟩|⟨φ,st,jk,rfl,_⟩<;>rfl
theorem Bfj.at (h:Bfj τ sz a es) {i:Nat} (hi:i<es.length):∃φ st,idx sz a (iv (i:Int)) τ=some (.ptr φ st i 0)∧∀off c,es[i][off]? =some c→lod (.ptr φ st i off) τ=some c:=by
 rcases h with ⟨_,rfl⟩|⟨φ,st,jk,rfl,hF⟩
 ·simp at hi
 ·refine ⟨φ,st,?_,fun off c hc=>lod_at hF rfl ?_⟩
  ·have:=idx_own (st:=st) (off:=0) hF hi
   rwa [Nat.zero_add] at this
  ·simp [List.getD,List.getElem?_append_left hi,List.getElem?_eq_getElem hi,hc]
theorem Bfj.app {x:AV} {xs:List (List AV)} {k:AV→AH→Prop} (h:Bfj τ sz a es) (hx:aelems τ x=some xs) (hs:∀c,c∈xs→c.length=sz) (ho:∀c,c∈xs→∀y,y∈c→y.one=true) (hn:es.length+xs.length≤4294967296)
  (hk:∀a' τ',Bfj τ' sz a' (es++xs)→Kp (famL a) τ τ'→(∀ψ,ψ∈famL a'→ψ∈famL a∨τ ψ=none)→k a' τ'):E.app sz a x τ k:=by
 unfold E.app
 rw [hx]
 refine ⟨hs,?_⟩
 rcases h with ⟨rfl|rfl,rfl⟩|⟨φ,st,jk,rfl,hF⟩
 ·simp only
  refine ⟨by simpa using hn,?_,?_⟩
  ·rintro rfl
   exact hk _ _ (.inl ⟨.inl rfl,rfl⟩) (Kp.refl _ _) (fun ψ h=> .inl h)
  ·intro hne φ hφ
   refine hk _ _ (.inr ⟨φ,0,[],by simp,by simp⟩) (Kp.of_sub (.set (.refl τ) _ hφ)) (fun ψ e=>?_)
   obtain rfl:ψ=φ:=by simpa [famL] using e
   exact .inr hφ
 ·simp only
  refine ⟨by simpa using hn,?_,?_⟩
  ·rintro rfl
   exact hk _ _ (.inl ⟨.inr rfl,rfl⟩) (Kp.refl _ _) (fun ψ h=> .inl h)
  ·intro hne φ hφ
   refine hk _ _ (.inr ⟨φ,0,[],by simp,by simp⟩) (Kp.of_sub (.set (.refl τ) _ hφ)) (fun ψ e=>?_)
   obtain rfl:ψ=φ:=by simpa [famL] using e
   exact .inr hφ
 ·simp only [hF]
  refine ⟨trivial,trivial,by simp,by simpa using hn,ho,?_⟩
  refine hk _ _ (.inr ⟨φ,if 0+es.length+xs.length≤(es++jk).length then st else st+1,(es++jk).drop (0+es.length+xs.length),by simp,?_⟩) (fun ψ h _=>AH.set_ne' (by rintro rfl;exact h (by simp [famL]))) (fun ψ e=>?_)
  ·rw [AH.set_same,Nat.zero_add,List.take_left' rfl]
  ·exact .inl (by simpa [famL] using e)
theorem Bfj.cut (h:Bfj τ sz a es) (hne:es≠[]) {m:Nat} (hm:m≤es.length):∃a',slc sz a none (some (iv (m:Int))) none τ=some a'∧Bfj τ sz a' (es.take m)∧famL a'=famL a:=by
 rcases h with ⟨_,rfl⟩|⟨φ,st,jk,rfl,hF⟩
 ·exact absurd rfl hne
 ·refine ⟨.own φ st 0 m,?_,.inr ⟨φ,st,es.drop m++jk,?_,?_⟩,rfl⟩
  ·have e1:abd none 0=some 0:=rfl
   have e2:abd (some (iv (m:Int))) es.length=some m:=by simp [abd]
   simp only [slc,hF,e1,e2]
   rw [if_pos ⟨Nat.zero_le _,hm,trivial,trivial⟩]
   simp
  ·rw [List.length_take,Nat.min_eq_left hm]
  ·rw [←List.append_assoc,List.take_append_drop];exact hF
theorem Bfj.fz (h:Bfj τ sz a es) (h0:∀ψ,ψ∈famL a→σ ψ=none) (hz:∀c,c∈es→c.length=sz):Fz σ τ a (.ro es):=by
 rcases h with ⟨rfl|rfl,rfl⟩|⟨φ,st,jk,rfl,hF⟩
 ·exact .nil
 ·exact .emp
 ·refine .own hF (h0 φ (by simp [famL])) rfl (by simp) rfl (fun i hi=>?_) fun i j hi hj=>?_
  ·rw [show es.getD i []=es[i] by simp [List.getD,List.getElem?_eq_getElem hi]]
   exact hz _ (List.getElem_mem hi)
  ·rw [Nat.zero_add,show (es++jk).getD i []=es.getD i [] by simp [List.getD,List.getElem?_append_left hi]]
   exact .same _
theorem Buf.bfj (h:Buf τ sz a es):Bfj τ sz a es:=by
 rcases h with h|⟨φ,st,rfl,hF⟩
 ·exact .inl h
 ·exact .inr ⟨φ,st,[],rfl,by simpa using hF⟩
end
inductive Fd where
 |fix (a:AV)
 |lst (sz:Nat) (es:List (List AV))
def FdOk (τ:AH):Fd→AV→Prop
 | .fix a,v=>v=a∧famL a=[]∧a.one=true
 | .lst sz es,v=>Bfj τ sz v es
theorem FdOk.keep {f:Fd} {v:AV} (h:FdOk τ f v) (hk:∀ψ,ψ∈famL v→τ' ψ=τ ψ):FdOk τ' f v:=by
 cases f with
 |fix a=>exact h
 |lst sz es=>exact Bfj.keep h hk
theorem FdOk.live {f:Fd} {v:AV} (h:FdOk τ f v) {ψ:Nat} (hm:ψ∈famL v):∃F,τ ψ=some F:=by
 cases f with
 |fix a=>obtain ⟨rfl,h2,_⟩:=h;rw [h2] at hm;cases hm
 |lst sz es=>exact Bfj.live h hm
theorem FdOk.one {f:Fd} {v:AV} (h:FdOk τ f v):v.one=true:=by
 cases f with
 |fix a=>obtain ⟨rfl,_,h3⟩:=h;exact h3
 |lst sz es=>exact Bfj.one h
structure MSt (σ τ:AH) (φm:Nat) (fd:List Fd):Prop where
 ex:∃vs:List AV,τ φm=some ⟨0,fd.length,[vs]⟩∧vs.length=fd.length∧(∀i f,fd[i]? =some f→FdOk τ f (vs.getD i .any))∧
  (∀i j ψ,i≠j→ψ∈famL (vs.getD i .any)→ψ∉famL (vs.getD j .any))∧∀i ψ,ψ∈famL (vs.getD i .any)→ψ≠φm∧σ ψ=none
 fr:σ φm=none
 sub:AH.Sub σ τ
section
variable {φm i:Nat} {fd:List Fd}
theorem getD_any {vs:List AV} {i:Nat} (h:vs.length≤i):vs.getD i .any= .any:=by simp [List.getD,List.getElem?_eq_none h]
theorem MSt.live' {vs:List AV} (hl:vs.length=fd.length) (hf:∀i f,fd[i]? =some f→FdOk τ f (vs.getD i .any)) {i ψ:Nat} (hm:ψ∈famL (vs.getD i .any)):∃F,τ ψ=some F:=by
 rcases Nat.lt_or_ge i fd.length with c|c
 ·exact (hf i _ (List.getElem?_eq_getElem c)).live hm
 ·rw [getD_any (by omega)] at hm;cases hm
theorem MSt.fld (h:MSt σ τ φm fd) {f:Fd} (hi:fd[i]? =some f):∃v,lod (.ptr φm 0 0 i) τ=some v∧FdOk τ f v:=by
 obtain ⟨vs,h1,h2,h3,_⟩:=h.ex
 have hlt:=(List.getElem?_eq_some_iff.1 hi).1
 refine ⟨vs.getD i .any,lod_at h1 rfl ?_,h3 i f hi⟩
 have:i<vs.length:=by omega
 simp [List.getD,List.getElem?_eq_getElem this]
theorem MSt.fix (h:MSt σ τ φm fd) {a:AV} (hi:fd[i]? =some (.fix a)):lod (.ptr φm 0 0 i) τ=some a:=by
 obtain ⟨v,h1,rfl,_⟩:=h.fld hi
 exact h1
theorem MSt.lst (h:MSt σ τ φm fd) {sz:Nat} {es:List (List AV)} (hi:fd[i]? =some (.lst sz es)):∃v,lod (.ptr φm 0 0 i) τ=some v∧Bfj τ sz v es:=h.fld hi
theorem MSt.keep (h:MSt σ τ φm fd) {σ':AH} (hk:∀ψ,τ ψ≠none→(ψ=φm∨σ ψ=none)→σ' ψ=none∧τ' ψ=τ ψ) (hm:τ φm≠none→σ' φm=none∧τ' φm=τ φm) (hs:AH.Sub σ' τ'):MSt σ' τ' φm fd:=by
 obtain ⟨vs,h1,h2,h3,h4,h5⟩:=h.ex
 have hm':=hm (by rw [h1];simp)
 have hl:∀i ψ,ψ∈famL (vs.getD i .any)→σ' ψ=none∧τ' ψ=τ ψ:=fun i ψ hψ=>by
  obtain ⟨F,hF⟩:=MSt.live' h2 h3 hψ
  exact hk ψ (by rw [hF];simp) (.inr (h5 i ψ hψ).2)
 exact ⟨⟨vs,by rw [hm'.2];exact h1,h2,fun i f hf=>(h3 i f hf).keep fun ψ hψ=>(hl i ψ hψ).2,h4,fun i ψ hψ=>⟨(h5 i ψ hψ).1,(hl i ψ hψ).1⟩⟩,hm'.1,hs⟩
theorem MSt.grow (h:MSt σ τ φm fd) (hs:AH.Sub τ τ'):MSt σ τ' φm fd:=by
 have key:∀ψ,τ ψ≠none→τ' ψ=τ ψ:=fun ψ hn=>by
  cases e:τ ψ with
  |none=>exact absurd e hn
  |some F=>exact hs _ _ e
 refine h.keep (fun ψ hn hc=>⟨?_,key ψ hn⟩) (fun hn=>⟨h.fr,key _ hn⟩) (h.sub.trans hs)
 rcases hc with rfl|hc
 ·exact h.fr
 ·exact hc
theorem MSt.drop (h:MSt σ τ φm fd) {σ':AH} (hs:AH.Sub σ' σ):MSt σ' τ φm fd:=by
 refine h.keep (fun ψ hn hc=>⟨?_,rfl⟩) (fun hn=>⟨hs.none h.fr,rfl⟩) (hs.trans h.sub)
 rcases hc with rfl|hc
 ·exact hs.none h.fr
 ·exact hs.none hc
theorem MSt.set2 (h:MSt σ τ φm fd) {ψ:Nat} (Z:Fam) (hψ:τ ψ=none∨σ ψ≠none):MSt (σ.set ψ Z) (τ.set ψ Z) φm fd:=by
 obtain ⟨vs,h1,_⟩:=h.ex
 have hne:∀χ,τ χ≠none→(χ=φm∨σ χ=none)→χ≠ψ:=fun χ hn hc e=>by
  subst e
  rcases hψ with c|c
  ·exact hn c
  ·rcases hc with rfl|hc
   ·exact c h.fr
   ·exact c hc
 refine h.keep (fun χ hn hc=>?_) (fun hn=>?_) (AH.Sub.set_both h.sub ψ Z)
 ·have:=hne χ hn hc
  refine ⟨?_,AH.set_ne' this⟩
  rw [AH.set_ne' this]
  rcases hc with rfl|hc
  ·exact h.fr
  ·exact hc
 ·have:=hne φm hn (.inl rfl)
  exact ⟨by rw [AH.set_ne' this];exact h.fr,AH.set_ne' this⟩
theorem MSt.del2 (h:MSt σ τ φm fd) {ψ:Nat} (hψ:σ ψ≠none):MSt (σ.del ψ) (τ.del ψ) φm fd:=by
 have hne:∀χ,(χ=φm∨σ χ=none)→χ≠ψ:=fun χ hc e=>by
  subst e
  rcases hc with rfl|hc
  ·exact hψ h.fr
  ·exact hψ hc
 have hd:∀(α:AH) χ,χ≠ψ→(α.del ψ) χ=α χ:=fun α χ hc=>by simp [AH.del,hc]
 refine h.keep (fun χ hn hc=>?_) (fun hn=>?_) fun χ F hF=>?_
 ·have:=hne χ hc
  refine ⟨?_,hd _ _ this⟩
  rw [hd _ _ this]
  rcases hc with rfl|hc
  ·exact h.fr
  ·exact hc
 ·have:=hne φm (.inl rfl)
  exact ⟨by rw [hd _ _ this];exact h.fr,hd _ _ this⟩
 ·by_cases c:χ=ψ
  ·subst c;simp [AH.del] at hF
  ·rw [hd _ _ c] at hF ⊢;exact h.sub _ _ hF
theorem MSt.new {vs:List AV} {φ:Nat} (hφ:σ φ=none) (hl:vs.length=fd.length) (hf:∀i f,fd[i]? =some f→FdOk (σ.set φ ⟨0,fd.length,[vs]⟩) f (vs.getD i .any)) (h0:∀v,v∈vs→famL v=[]):MSt σ (σ.set φ ⟨0,fd.length,[vs]⟩) φ fd:=by
 have h0':∀i,famL (vs.getD i .any)=[]:=fun i=>by
  rcases Nat.lt_or_ge i vs.length with c|c
  ·rw [show vs.getD i .any=vs[i] by simp [List.getD,List.getElem?_eq_getElem c]];exact h0 _ (List.getElem_mem c)
  ·rw [getD_any c];rfl
 exact ⟨⟨vs,AH.set_same ..,hl,hf,(fun i j ψ _ hψ=>by rw [h0'] at hψ;cases hψ),fun i ψ hψ=>by rw [h0'] at hψ;cases hψ⟩,hφ,.set (.refl σ) _ hφ⟩
theorem MSt.put {f f':Fd} {v v':AV} {τ1:AH} {k':AH→Prop} (h:MSt σ τ φm fd) (hi:fd[i]? =some f) (hv:lod (.ptr φm 0 0 i) τ=some v) (hf:FdOk τ1 f' v') (hK:Kp (famL v) τ τ1) (hfam:∀ψ,ψ∈famL v'→ψ∈famL v∨τ ψ=none)
  (hk:∀τ2,MSt σ τ2 φm (fd.set i f')→k' τ2):sto 1 (.ptr φm 0 0 i) v' τ1 k':=by
 obtain ⟨vs,h1,h2,h3,h4,h5⟩:=h.ex
 have hlt:=(List.getElem?_eq_some_iff.1 hi).1
 have hlv:i<vs.length:=by omega
 obtain rfl:v=vs.getD i .any:=by
  have:lod (.ptr φm 0 0 i) τ=some (vs.getD i .any):=lod_at h1 rfl (by simp [List.getD,List.getElem?_eq_getElem hlv])
  rw [this] at hv;exact (Option.some.inj hv).symm
 have hm:φm∉famL (vs.getD i .any):=fun c=>(h5 i φm c).1 rfl
 have h1':τ1 φm=some ⟨0,fd.length,[vs]⟩:=by rw [hK φm hm (by rw [h1];simp)];exact h1
 refine sto_fld (cs:=vs) h1' rfl (by omega) (acells_one hf.one) hf.one (hk _ ?_)
 have e0:[vs].set 0 (vs.set i v')=[vs.set i v']:=rfl
 rw [e0]
 have gi:(vs.set i v').getD i .any=v':=by simp [List.getD,hlv]
 have gj:∀j,j≠i→(vs.set i v').getD j .any=vs.getD j .any:=fun j hj=>by simp [List.getD,List.getElem?_set_ne (Ne.symm hj)]
 have hmv:φm∉famL v':=fun c=>(hfam φm c).elim hm fun d=>by rw [h1] at d;cases d
 have tk:∀ψ,ψ≠φm→(τ1.set φm ⟨0,fd.length,[vs.set i v']⟩) ψ=τ1 ψ:=fun ψ hψ=>AH.set_ne' hψ
 have oth:∀j,j≠i→∀ψ,ψ∈famL (vs.getD j .any)→ψ∉famL (vs.getD i .any)∧ψ≠φm∧τ ψ≠none:=fun j hj ψ hψ=>by
  obtain ⟨F,hF⟩:=MSt.live' h2 h3 hψ
  exact ⟨h4 j i ψ hj hψ,(h5 j ψ hψ).1,by rw [hF];simp⟩
 refine ⟨⟨vs.set i v',by rw [AH.set_same];simp,by simpa using h2,fun j g hg=>?_,fun j l ψ hjl hψ=>?_,fun j ψ hψ=>?_⟩,h.fr,fun ψ F hF=>?_⟩
 ·by_cases c:j=i
  ·subst c
   rw [List.getElem?_set_self hlt] at hg
   obtain rfl:=Option.some.inj hg
   rw [gi]
   exact hf.keep fun ψ hψ=>tk ψ (by rintro rfl;exact hmv hψ)
  ·rw [List.getElem?_set_ne (Ne.symm c)] at hg
   rw [gj j c]
   refine (h3 j g hg).keep fun ψ hψ=>?_
   obtain ⟨o1,o2,o3⟩:=oth j c ψ hψ
   rw [tk ψ o2,hK ψ o1 o3]
 ·by_cases c:j=i
  ·subst c
   rw [gi] at hψ
   rw [gj l (Ne.symm hjl)]
   intro d
   obtain ⟨o1,o2,o3⟩:=oth l (Ne.symm hjl) ψ d
   exact (hfam ψ hψ).elim o1 o3
  ·rw [gj j c] at hψ
   obtain ⟨o1,o2,o3⟩:=oth j c ψ hψ
   by_cases c2:l=i
   ·subst c2
    rw [gi]
    intro d
    exact (hfam ψ d).elim o1 o3
   ·rw [gj l c2]
    exact h4 j l ψ hjl hψ
 ·by_cases c:j=i
  ·subst c
   rw [gi] at hψ
   refine ⟨by rintro rfl;exact hmv hψ,?_⟩
   rcases hfam ψ hψ with d|d
   ·exact (h5 j ψ d).2
   ·exact h.sub.none d
  ·rw [gj j c] at hψ
   exact h5 j ψ hψ
 ·have hne:ψ≠φm:=by rintro rfl;rw [h.fr] at hF;cases hF
  rw [tk ψ hne,hK ψ (fun c=>by rw [(h5 i ψ c).2] at hF;cases hF) (by rw [h.sub _ _ hF];simp)]
  exact h.sub _ _ hF
theorem MSt.app {sz:Nat} {es:List (List AV)} {row:List AV} {v x:AV} {k:AV→AH→Prop} (h:MSt σ τ φm fd) (hi:fd[i]? =some (.lst sz es)) (hv:lod (.ptr φm 0 0 i) τ=some v) (hx:aelems τ x=some [row]) (hr:row.length=sz) (ho:∀y,y∈row→y.one=true) (hn:es.length+1≤4294967296)
  (hk:∀v' τ1,(∀k':AH→Prop,(∀τ2,MSt σ τ2 φm (fd.set i (.lst sz (es++[row])))→k' τ2)→sto 1 (.ptr φm 0 0 i) v' τ1 k')→k v' τ1):E.app sz v x τ k:=by
 obtain ⟨v2,e2,hb⟩:=h.lst hi
 rw [hv] at e2
 obtain rfl:=Option.some.inj e2
 refine hb.app hx (by intro c hc;obtain rfl:=List.mem_singleton.1 hc;exact hr) (by intro c hc;obtain rfl:=List.mem_singleton.1 hc;exact ho) (by simpa using hn) fun v' τ1 hB hK hfam=>?_
 exact hk v' τ1 fun k' hk'=>h.put hi hv (f':= .lst sz (es++[row])) hB hK hfam hk'
theorem MSt.cut {sz:Nat} {es:List (List AV)} {v:AV} (h:MSt σ τ φm fd) (hi:fd[i]? =some (.lst sz es)) (hv:lod (.ptr φm 0 0 i) τ=some v) (hne:es≠[]) {m:Nat} (hm:m≤es.length):
  ∃v',slc sz v none (some (iv (m:Int))) none τ=some v'∧∀k':AH→Prop,(∀τ2,MSt σ τ2 φm (fd.set i (.lst sz (es.take m)))→k' τ2)→sto 1 (.ptr φm 0 0 i) v' τ k':=by
 obtain ⟨v2,e2,hb⟩:=h.lst hi
 rw [hv] at e2
 obtain rfl:=Option.some.inj e2
 obtain ⟨v',h1,h2,h3⟩:=hb.cut hne hm
 exact ⟨v',h1,fun k' hk'=>h.put hi hv (f':= .lst sz (es.take m)) h2 (Kp.refl _ _) (fun ψ hψ=> .inl (h3▸hψ)) hk'⟩
theorem MSt.fzl {sz:Nat} {es:List (List AV)} {v:AV} (h:MSt σ τ φm fd) (hi:fd[i]? =some (.lst sz es)) (hv:lod (.ptr φm 0 0 i) τ=some v) (hz:∀c,c∈es→c.length=sz):Fz σ τ v (.ro es):=by
 obtain ⟨vs,h1,h2,h3,h4,h5⟩:=h.ex
 have hlt:=(List.getElem?_eq_some_iff.1 hi).1
 have hlv:i<vs.length:=by omega
 obtain rfl:v=vs.getD i .any:=by
  have:lod (.ptr φm 0 0 i) τ=some (vs.getD i .any):=lod_at h1 rfl (by simp [List.getD,List.getElem?_eq_getElem hlv])
  rw [this] at hv;exact (Option.some.inj hv).symm
 exact Bfj.fz (h3 i _ hi) (fun ψ hψ=>(h5 i ψ hψ).2) hz
theorem MSt.app2 {sz:Nat} {es xs:List (List AV)} {a x:AV} {σ0:AH} {k:AV→AH→Prop} (h:MSt σ τ φm fd) (hs0:AH.Sub σ0 σ) (hB:Buf σ sz a es) (h0:∀ψ,ψ∈famL a→σ0 ψ=none) (hx:aelems τ x=some xs) (hs:∀c,c∈xs→c.length=sz) (ho:∀c,c∈xs→∀y,y∈c→y.one=true) (hn:es.length+xs.length≤4294967296)
  (hk:∀a' σ' τ',MSt σ' τ' φm fd→AH.Sub σ0 σ'→Buf σ' sz a' (es++xs)→(∀ψ,ψ∈famL a'→σ0 ψ=none)→k a' τ'):E.app sz a x τ k:=by
 unfold E.app
 rw [hx]
 refine ⟨hs,?_⟩
 have new:∀φ,τ φ=none→k (.own φ 0 0 xs.length) (τ.set φ ⟨0,sz,xs⟩)∨es≠[]:=by
  intro φ hφ
  by_cases c:es=[]
  ·left
   subst c
   have hσ:σ φ=none:=h.sub.none hφ
   refine hk _ _ _ (h.set2 ⟨0,sz,xs⟩ (.inl hφ)) (.set hs0 _ (hs0.none hσ)) (.inr ⟨φ,0,by simp,by simp⟩) fun ψ hψ=>?_
   obtain rfl:ψ=φ:=by simpa [famL] using hψ
   exact hs0.none hσ
  ·exact .inr c
 rcases hB with ⟨rfl|rfl,rfl⟩|⟨φ,st,rfl,hF⟩
 ·simp only
  refine ⟨by simpa using hn,?_,fun _ φ hφ=>(new φ hφ).elim id fun c=>absurd rfl c⟩
  rintro rfl
  exact hk _ _ _ h hs0 (.inl ⟨.inl rfl,rfl⟩) h0
 ·simp only
  refine ⟨by simpa using hn,?_,fun _ φ hφ=>(new φ hφ).elim id fun c=>absurd rfl c⟩
  rintro rfl
  exact hk _ _ _ h hs0 (.inl ⟨.inr rfl,rfl⟩) h0
 ·simp only [h.sub _ _ hF]
  refine ⟨trivial,trivial,by simp,by simpa using hn,ho,?_⟩
  have hφ0:σ0 φ=none:=h0 φ (by simp [famL])
  refine hk _ _ _ (h.set2 _ (.inr (by rw [hF];simp))) (.set hs0 _ hφ0) (.inr ⟨φ,if 0+es.length+xs.length≤es.length then st else st+1,by simp,by simp⟩) fun ψ hψ=>?_
  obtain rfl:ψ=φ:=by simpa [famL] using hψ
  exact hφ0
end
end Go.Proofs.YtbppopcpgcgkkaaGreatDoor.E
/- Tokens of a text: the plain law, and the reference's way. -/
namespace Go.Proofs.YtbppopcpgcgkkaaGreatDoor.E
open Go Go.RowKit
set_option maxRecDepth 100000
def skp:Bool→List UInt8→Nat
 |_,[]=>0
 |true,c::r=>if c.toNat=10 then skp false r+1 else skp true r+1
 |false,c::r=>if c.toNat=59 then skp true r+1 else if c.toNat=32∨c.toNat=10 then skp false r+1 else 0
def markB (c:UInt8):Int:=if c.toNat=40 then 1 else if c.toNat=41 then 2 else if c.toNat=39 then 3 else 0
def wrd:List UInt8→Nat
 |[]=>0
 |c::r=>if c.toNat=32∨c.toNat=10∨c.toNat=59∨markB c≠0 then 0 else wrd r+1
theorem skp_le:∀(l:List UInt8) (b:Bool),skp b l≤l.length:=by
 intro l
 induction l with
 |nil=>intro b;cases b<;>simp [skp]
 |cons c r ih=>
  intro b
  have h1:=ih true
  have h2:=ih false
  cases b<;>simp only [skp,List.length_cons]<;>(repeat' split)<;>omega
theorem wrd_le:∀l:List UInt8,wrd l≤l.length:=by
 intro l
 induction l with
 |nil=>simp [wrd]
 |cons c r ih=>simp only [wrd,List.length_cons];split<;>omega
theorem wrd_stop {c:UInt8} {r:List UInt8} (h:c.toNat=32∨c.toNat=10∨c.toNat=59∨markB c≠0):wrd (c::r)=0:=by rw [wrd,if_pos h]
theorem wrd_go {c:UInt8} {r:List UInt8} (h1:¬c.toNat=32) (h2:¬c.toNat=10) (h3:¬c.toNat=59) (h4:markB c=0):wrd (c::r)=wrd r+1:=by
 rw [wrd,if_neg]
 rintro (a|a|a|a)
 ·exact h1 a
 ·exact h2 a
 ·exact h3 a
 ·exact a h4
structure Tok where
 kind:Int
 num:Int
 name:ByteArray
 deriving Inhabited
def encTok (x:Tok):List AV:=[iv x.kind,iv x.num,str x.name]
abbrev roT (xs:List Tok):AV:= .ro (xs.map encTok)
theorem len_encTok (x:Tok):(encTok x).length=3:=rfl
theorem one_encTok (x:Tok):∀y,y∈encTok x→y.one=true:=by
 intro y hy
 simp only [encTok,List.mem_cons,List.not_mem_nil,or_false] at hy
 rcases hy with rfl|rfl|rfl<;>rfl
def wordT (l:List UInt8):Tok × Bool:=
 if isNum l then (⟨4,parV l,⟨#[]⟩⟩,true) else if bs l=⟨#[35,116]⟩ then (⟨5,1,⟨#[]⟩⟩,true) else if bs l=⟨#[35,102]⟩ then (⟨5,0,⟨#[]⟩⟩,true) else (⟨6,0,bs l⟩,symOk (bs l))
def toks (t:List UInt8):Nat→Nat→List Tok→List Tok × Int × Nat
 |0,_,out=>(out,0,0)
 |f+1,at_,out=>match t.drop at_ with
  |[]=>(out,0,0)
  |c::r=>
   if markB c≠0 then (if 120≤out.length then ([],2,at_) else toks t f (at_+1+skp false (t.drop (at_+1))) (out++[⟨markB c,0,⟨#[]⟩⟩]))
   else if (wordT ((c::r).take (wrd (c::r)))).2=false then ([],5,at_)
   else if 120≤out.length then ([],2,at_)
   else toks t f (at_+wrd (c::r)+skp false (t.drop (at_+wrd (c::r)))) (out++[(wordT ((c::r).take (wrd (c::r)))).1])
def tokR (t:List UInt8):List Tok × Int × Nat:=if 400<t.length then ([],2,0) else toks t (t.length+1) (skp false t) []
variable [L:Lam]
variable {σ τ:AH} {R:AEnd→AH→Prop}
theorem fin_cell2 {φ n:Nat} {zs cs:List AV} {w:AV} (hφ:σ φ=none) (hz:zs.length=n) (hc:cs.length=n) (h1:∀x,x∈cs→x.one=true) (h:R (.ret (.tup [.agg cs,w])) σ):
  sto n (.ptr φ 0 0 0) (.agg cs) (σ.set φ ⟨0,n,[zs]⟩) fun σ=>og (lodA n (.ptr φ 0 0 0) σ) fun r=>aret (.tup [r,w]) σ R:=by
 refine sto_own (es:=[zs]) (cs:=cs) (AH.set_same ..) (by simp) (by simpa using hz) rfl hc h1 ?_
 simp only [List.set_cons_zero,AH.set_set]
 have e:=lodA_at (σ:=σ.set φ ⟨0,n,[cs]⟩) (φ:=φ) (st:=0) (i:=0) (n:=n) (cs:=cs) (AH.set_same ..) rfl rfl hc
 simp only [e,RR]
 exact aret_sub (.set (.refl σ) _ hφ) h
theorem push_rw {sz:Nat} {a x:AV} {es:List (List AV)} {z row:List AV} {k:AV→AH→Prop} (h:Buf τ sz a es) (he:afillS sz [z] [(0,x)]=some [row]) (hs:sz≤1000) (hr:row.length=sz) (ho:∀y,y∈row→y.one=true) (hn:es.length+1≤4294967296)
  (hk:∀a' τ',Buf τ' sz a' (es++[row])→Kp (famL a) τ τ'→(∀ψ,ψ∈famL a'→ψ∈famL a∨τ ψ=none)→k a' τ'):bsl sz z 1 [(0,x)] τ fun v τ=>E.app sz a v τ k:=by
 refine bsl1 he (by omega) fun ψ hψ=>?_
 have hs1:AH.Sub τ (τ.set ψ ⟨0,sz,[row]⟩):= .set (.refl τ) _ hψ
 refine buf_app ((Kp.of_sub (F:=[]) hs1).buf h fun _ _ c=>by cases c) ael1 (by intro c hc;obtain rfl:=List.mem_singleton.1 hc;exact hr) (by intro c hc;obtain rfl:=List.mem_singleton.1 hc;exact ho) (by simpa using hn) fun a' τ' hB hK hfam=>hk a' τ' hB (fun χ hχ hn=>?_) fun χ hχ=>?_
 ·rw [hK χ hχ (by rw [AH.set_ne' (by rintro rfl;exact hn hψ)];exact hn),AH.set_ne' (by rintro rfl;exact hn hψ)]
 ·rcases hfam χ hχ with c|c
  ·exact .inl c
  ·exact .inr (hs1.none c)
theorem ibin_eq8 (a b:Int):ibin .eql (u8v a) (u8v b)=some (bv (decide (a=b))):=(ibin_cmp8 a b).2.2.2.2.1
theorem ibin_ne8 (a b:Int):ibin .neq (u8v a) (u8v b)=some (bv (!decide (a=b))):=(ibin_cmp8 a b).2.2.2.2.2
theorem c_spec_l2Mark {c:UInt8} (h:R (.ret (iv (markB c))) σ):acall TP fn_spec_l2Mark [u8v (c.toNat:Nat)] σ R:=by
 refine s_spec_l2Mark_ok ?_
 unfold s_spec_l2Mark
 unfold markB at h
 simp only [ibin_eq8,RR]
 by_cases c1:c.toNat=40
 ·have g:((c.toNat:Nat):Int)=40:=by omega
  rw [if_pos c1] at h
  simp only [g,RR];exact ret_here h
 rw [if_neg c1] at h
 have g1:¬((c.toNat:Nat):Int)=40:=by omega
 by_cases c2:c.toNat=41
 ·have g:((c.toNat:Nat):Int)=41:=by omega
  rw [if_pos c2] at h
  simp only [g,RR,show ¬(41:Int)=40 by omega];exact ret_here h
 rw [if_neg c2] at h
 have g2:¬((c.toNat:Nat):Int)=41:=by omega
 by_cases c3:c.toNat=39
 ·have g:((c.toNat:Nat):Int)=39:=by omega
  rw [if_pos c3] at h
  simp only [g,RR,show ¬(39:Int)=40 by omega,show ¬(39:Int)=41 by omega];exact ret_here h
 rw [if_neg c3] at h
 have g3:¬((c.toNat:Nat):Int)=39:=by omega
 simp only [g1,g2,g3,RR];exact ret_here h
theorem c_spec_l2Skip {l:List UInt8} {p:Nat} (hp:p≤l.length) (hl:l.length≤1048576) (h:R (.ret (iv ((p+skp false (l.drop p):Nat):Int))) σ):acall TP fn_spec_l2Skip [str (bs l),iv (p:Int)] σ R:=by
 refine s_spec_l2Skip_ok ?_
 unfold s_spec_l2Skip
 refine lp_by (fun n x τ=>∃q:Nat,x=(str (bs l),iv (q:Int),())∧τ=σ∧l.length - q=n∧q≤l.length∧q+skp false (l.drop q)=p+skp false (l.drop p)) (l.length - p) ⟨p,rfl,rfl,rfl,hp,rfl⟩ ?_
 rintro n x τ ⟨q,rfl,rfl,rfl,hq,e⟩ R' hR'
 simp only [size_bs,RR]
 by_cases c:q<l.length
 ·have g:(q:Int)<(l.length:Int):=by omega
  have dc:=List.drop_eq_getElem_cons c
  rw [dc] at e
  have up:=ibin_up c (show l.length≤9223372036854775807 by omega)
  simp only [g,idxStr_bs c,ibin_eq8,ibin_ne8,RR]
  by_cases c1:l[q].toNat=59
  ·have g1:((l[q].toNat:Nat):Int)=59:=by omega
   simp only [g1,RR]
   simp only [skp,c1,if_true] at e
   refine lp_by (fun n x τ'=>∃r:Nat,x=(str (bs l),iv (r:Int),())∧τ'=τ∧l.length - r=n∧r≤l.length∧q≤r∧r+skp true (l.drop r)=p+skp false (l.drop p)) (l.length - q) ⟨q,rfl,rfl,rfl,hq,Nat.le_refl _,?_⟩ ?_
   ·rw [dc];simp only [skp,c1,show ¬(59:Nat)=10 by omega,if_false];omega
   rintro n x τ' ⟨r,rfl,rfl,rfl,hr,hqr,e2⟩ R2 hR2
   simp only [size_bs,RR]
   by_cases c2:r<l.length
   ·have g2:(r:Int)<(l.length:Int):=by omega
    have dr:=List.drop_eq_getElem_cons c2
    rw [dr] at e2
    have up2:=ibin_up c2 (show l.length≤9223372036854775807 by omega)
    simp only [g2,idxStr_bs c2,ibin_ne8,RR]
    by_cases c3:l[r].toNat=10
    ·have g3:((l[r].toNat:Nat):Int)=10:=by omega
     simp only [g3,RR]
     simp only [skp,c3,if_true] at e2
     have hne:q≠r:=by rintro rfl;omega
     refine hR' _ _ (l.length - r) τ' (by omega) (.refl _) ⟨r,rfl,rfl,rfl,hr,?_⟩
     rw [dr];simp only [skp,c3,show ¬(10:Nat)=59 by omega,if_false,or_true,if_true];omega
    ·have g3:¬((l[r].toNat:Nat):Int)=10:=by omega
     simp only [g3,up2,RR]
     simp only [skp,c3,if_false] at e2
     exact hR2 _ _ (l.length - (r+1)) τ' (by omega) (.refl _) ⟨r+1,rfl,rfl,rfl,c2,by omega,by omega⟩
   ·have g2:¬(r:Int)<(l.length:Int):=by omega
    have hrl:r=l.length:=by omega
    subst hrl
    simp only [g2,RR]
    simp only [List.drop_length,skp] at e2
    refine hR' _ _ (l.length - l.length) τ' (by omega) (.refl _) ⟨l.length,rfl,rfl,rfl,hr,?_⟩
    simp only [List.drop_length,skp];omega
  ·have g1:¬((l[q].toNat:Nat):Int)=59:=by omega
   simp only [g1,RR]
   by_cases c2:l[q].toNat=32
   ·have g2:((l[q].toNat:Nat):Int)=32:=by omega
    simp only [g2,up,RR]
    simp only [skp,c2,show ¬(32:Nat)=59 by omega,if_false,true_or,if_true] at e
    exact hR' _ _ (l.length - (q+1)) τ (by omega) (.refl _) ⟨q+1,rfl,rfl,rfl,c,by omega⟩
   have g2:¬((l[q].toNat:Nat):Int)=32:=by omega
   by_cases c3:l[q].toNat=10
   ·have g3:((l[q].toNat:Nat):Int)=10:=by omega
    simp only [g2,idxStr_bs c,ibin_ne8,g3,show ¬(10:Int)=32 by omega,up,RR]
    simp only [skp,c3,show ¬(10:Nat)=59 by omega,if_false,or_true,if_true] at e
    exact hR' _ _ (l.length - (q+1)) τ (by omega) (.refl _) ⟨q+1,rfl,rfl,rfl,c,by omega⟩
   have g3:¬((l[q].toNat:Nat):Int)=10:=by omega
   simp only [g2,idxStr_bs c,ibin_ne8,g3,RR]
   simp only [skp,c1,c2,c3,if_false,or_self] at e
   rw [←e] at h
   exact ret_here (by simpa using h)
 ·have g:¬(q:Int)<(l.length:Int):=by omega
  have hql:q=l.length:=by omega
  subst hql
  simp only [g,RR]
  simp only [List.drop_length,skp] at e
  rw [←e] at h
  exact ret_here (by simpa using h)
theorem c_spec_l2End {l:List UInt8} {p:Nat} (hp:p≤l.length) (hl:l.length≤1048576) (h:R (.ret (iv ((p+wrd (l.drop p):Nat):Int))) σ):acall TP fn_spec_l2End [str (bs l),iv (p:Int)] σ R:=by
 refine s_spec_l2End_ok ?_
 unfold s_spec_l2End
 refine lp_by (fun n x τ=>∃q:Nat,x=(str (bs l),iv (q:Int),())∧τ=σ∧l.length - q=n∧q≤l.length∧q+wrd (l.drop q)=p+wrd (l.drop p)) (l.length - p) ⟨p,rfl,rfl,rfl,hp,rfl⟩ ?_
 rintro n x τ ⟨q,rfl,rfl,rfl,hq,e⟩ R' hR'
 refine jn_by (P:=fun x τ'=>τ'=τ∧∃b,x=(str (bs l),iv (q:Int),bv b,())∧(b=true→q<l.length∧wrd (l.drop q)=wrd (l.drop (q+1))+1)∧(b=false→wrd (l.drop q)=0)) ?_ ?_
 ·rintro x τ' ⟨rfl,b,rfl,h1,h0⟩
  cases b with
  |true=>
   obtain ⟨h1,h2⟩:=h1 rfl
   simp only [ibin_up h1 (show l.length≤9223372036854775807 by omega),RR]
   exact hR' _ _ (l.length - (q+1)) τ' (by omega) (.refl _) ⟨q+1,rfl,rfl,rfl,h1,by omega⟩
  |false=>
   rw [h0 rfl] at e
   rw [←e] at h
   simp only [RR]
   exact ret_here h
 intro k hk
 by_cases c:q<l.length
 ·have g:(q:Int)<(l.length:Int):=by omega
  have dc:=List.drop_eq_getElem_cons c
  have stop:(l[q].toNat=32∨l[q].toNat=10∨l[q].toNat=59∨markB l[q]≠0)→k (str (bs l),iv (q:Int),bv false,()) τ:=fun hc=>
   hk _ _ ⟨rfl,false,rfl,(fun x=>by cases x),fun _=>by rw [dc];exact wrd_stop hc⟩
  simp only [size_bs,g,idxStr_bs c,ibin_ne8,RR]
  by_cases c1:l[q].toNat=32
  ·have g1:((l[q].toNat:Nat):Int)=32:=by omega
   simp only [g1,RR];exact stop (.inl c1)
  have g1:¬((l[q].toNat:Nat):Int)=32:=by omega
  simp only [g1,idxStr_bs c,ibin_ne8,RR]
  by_cases c2:l[q].toNat=10
  ·have g2:((l[q].toNat:Nat):Int)=10:=by omega
   simp only [g2,RR];exact stop (.inr (.inl c2))
  have g2:¬((l[q].toNat:Nat):Int)=10:=by omega
  simp only [g2,idxStr_bs c,ibin_ne8,RR]
  by_cases c3:l[q].toNat=59
  ·have g3:((l[q].toNat:Nat):Int)=59:=by omega
   simp only [g3,RR];exact stop (.inr (.inr (.inl c3)))
  have g3:¬((l[q].toNat:Nat):Int)=59:=by omega
  simp only [g3,idxStr_bs c,RR]
  refine c_spec_l2Mark ?_
  simp only [RR]
  by_cases c4:markB l[q]=0
  ·simp only [c4,RR]
   exact hk _ _ ⟨rfl,true,rfl,(fun _=>⟨c,by rw [dc];exact wrd_go c1 c2 c3 c4⟩),fun x=>by cases x⟩
  ·simp only [c4,RR];exact stop (.inr (.inr (.inr c4)))
 ·have g:¬(q:Int)<(l.length:Int):=by omega
  have hql:q=l.length:=by omega
  subst hql
  simp only [size_bs,g,RR]
  exact hk _ _ ⟨rfl,false,rfl,(fun x=>by cases x),fun _=>by rw [List.drop_length,wrd]⟩
theorem bldT (k n:Int) (s:ByteArray):bld [iv 0,iv 0,str ⟨#[]⟩] [(0,1),(1,1),(2,1)] [(0,iv k),(1,iv n)]=some (.agg (encTok ⟨k,n,⟨#[]⟩⟩))∧bld [iv 0,iv 0,str ⟨#[]⟩] [(0,1),(1,1),(2,1)] [(0,iv k)]=some (.agg (encTok ⟨k,0,⟨#[]⟩⟩))∧
  bld [iv 0,iv 0,str ⟨#[]⟩] [(0,1),(1,1),(2,1)] [(0,iv k),(2,str s)]=some (.agg (encTok ⟨k,0,s⟩)):=⟨rfl,rfl,rfl⟩
theorem c_spec_l2Word {l:List UInt8} (hl:l.length≤1048576) (h:R (.ret (.tup [.agg (encTok (wordT l).1),bv (wordT l).2])) σ):acall TP fn_spec_l2Word [str (bs l)] σ R:=by
 refine s_spec_l2Word_ok ?_
 unfold s_spec_l2Word
 intro φ hφ
 have rest:isNum l=false→(og (sbin .eql (str (bs l)) (.val (.string ⟨#[35,116]⟩))) fun v15=>
  apick v15 (
   og (bld [iv 0,iv 0,str ⟨#[]⟩] [(0,1),(1,1),(2,1)] [(0,iv 5),(1,iv 1)]) fun v16=>
   sto 3 (.ptr φ 0 0 0) v16 (σ.set φ ⟨0,3,[[iv 0,iv 0,str ⟨#[]⟩]]⟩) fun σ=>
   og (lodA 3 (.ptr φ 0 0 0) σ) fun r2=>
   aret (.tup [r2,bv true]) σ R) (
   og (sbin .eql (str (bs l)) (.val (.string ⟨#[35,102]⟩))) fun v18=>
   apick v18 (
    og (bld [iv 0,iv 0,str ⟨#[]⟩] [(0,1),(1,1),(2,1)] [(0,iv 5)]) fun v19=>
    sto 3 (.ptr φ 0 0 0) v19 (σ.set φ ⟨0,3,[[iv 0,iv 0,str ⟨#[]⟩]]⟩) fun σ=>
    og (lodA 3 (.ptr φ 0 0 0) σ) fun r2=>
    aret (.tup [r2,bv true]) σ R) (
    og (bld [iv 0,iv 0,str ⟨#[]⟩] [(0,1),(1,1),(2,1)] [(0,iv 6),(2,str (bs l))]) fun v21=>
    acall TP fn_spec_l2Sym [str (bs l)] (σ.set φ ⟨0,3,[[iv 0,iv 0,str ⟨#[]⟩]]⟩) (onr (fun v23 σ=>
    sto 3 (.ptr φ 0 0 0) v21 σ fun σ=>
    og (lodA 3 (.ptr φ 0 0 0) σ) fun r2=>
    aret (.tup [r2,v23]) σ R) (fun v σ=>apan v σ R))))):=fun hn=>by
  unfold wordT at h
  rw [hn] at h
  simp only [Bool.false_eq_true,if_false] at h
  simp only [sbin_eql',RR]
  by_cases c1:bs l=⟨#[35,116]⟩
  ·rw [if_pos c1] at h
   simp only [c1,(bldT 5 1 ⟨#[]⟩).1,RR]
   exact fin_cell2 hφ rfl rfl (one_encTok _) h
  rw [if_neg c1] at h
  by_cases c2:bs l=⟨#[35,102]⟩
  ·rw [if_pos c2] at h
   have c1':¬(⟨#[35,102]⟩:ByteArray)=⟨#[35,116]⟩:=by rw [←c2];exact c1
   simp only [c2,c1',(bldT 5 1 ⟨#[]⟩).2.1,RR]
   exact fin_cell2 hφ rfl rfl (one_encTok _) h
  rw [if_neg c2] at h
  simp only [c1,c2,(bldT 6 1 (bs l)).2.2,RR]
  refine c_spec_l2Sym (by rw [size_bs];omega) ?_
  simp only [RR]
  exact fin_cell2 hφ rfl rfl (one_encTok _) h
 refine c_spec_l1Parse hl (fun hp=>?_) fun hp=>?_
 ·have e0:aext (.tup [iv (parV l),bv (inB (-1000000000) 1000000000 (parV l)&&decide (itB (parV l)=bs l))]) 0=some (iv (parV l)):=rfl
  have e1:aext (.tup [iv (parV l),bv (inB (-1000000000) 1000000000 (parV l)&&decide (itB (parV l)=bs l))]) 1=some (bv (inB (-1000000000) 1000000000 (parV l)&&decide (itB (parV l)=bs l))):=rfl
  simp only [e0,e1,RR]
  have en:isNum l=(inB (-1000000000) 1000000000 (parV l)&&decide (itB (parV l)=bs l)):=by unfold isNum;rw [hp,Bool.true_and]
  cases c:(inB (-1000000000) 1000000000 (parV l)&&decide (itB (parV l)=bs l)) with
  |true=>
   unfold wordT at h
   rw [en,c] at h
   simp only [if_true] at h
   simp only [(bldT 4 (parV l) ⟨#[]⟩).1,RR]
   exact fin_cell2 hφ rfl rfl (one_encTok _) h
  |false=>
   simp only [RR]
   exact rest (by rw [en,c])
 ·have e0:aext (.tup [iv 0,bv false]) 0=some (iv 0):=rfl
  have e1:aext (.tup [iv 0,bv false]) 1=some (bv false):=rfl
  simp only [e0,e1,RR]
  exact rest (by unfold isNum;rw [hp];rfl)
end Go.Proofs.YtbppopcpgcgkkaaGreatDoor.E
/- Tokens of a text: the reference's way, all of it. -/
namespace Go.Proofs.YtbppopcpgcgkkaaGreatDoor.E
open Go Go.RowKit
set_option maxRecDepth 100000
theorem skp_zero {c:UInt8} {r:List UInt8} (h:skp false (c::r)=0):¬c.toNat=59∧¬c.toNat=32∧¬c.toNat=10:=by
 rw [skp] at h
 refine ⟨fun c1=>?_,fun c1=>?_,fun c1=>?_⟩
 ·rw [if_pos c1] at h;omega
 ·rw [if_neg (by omega),if_pos (.inl c1)] at h;omega
 ·rw [if_neg (by omega),if_pos (.inr c1)] at h;omega
theorem skp_idem:∀(l:List UInt8) (b:Bool),skp false (l.drop (skp b l))=0:=by
 intro l
 induction l with
 |nil=>intro b;cases b<;>rfl
 |cons c r ih=>
  intro b
  cases b with
  |true=>
   rw [skp]
   split
   ·rw [List.drop_succ_cons];exact ih false
   ·rw [List.drop_succ_cons];exact ih true
  |false=>
   rw [skp]
   split
   ·rw [List.drop_succ_cons];exact ih true
   ·split
    ·rw [List.drop_succ_cons];exact ih false
    ·rename_i h1 h2
     rw [List.drop_zero,skp,if_neg h1,if_neg h2]
theorem skp_at (t:List UInt8) (q:Nat):skp false (t.drop (q+skp false (t.drop q)))=0:=by
 rw [←List.drop_drop];exact skp_idem _ _
variable [L:Lam]
variable {σ τ:AH} {R:AEnd→AH→Prop}
theorem slc_midI {l:List UInt8} {a b:Nat} (h1:a≤b) (h2:b≤l.length):slcStr (str (bs l)) (some (iv (a:Int))) (some (iv (b:Int)))=some (str (bs ((l.drop a).take (b - a)))):=by
 have e1:abd (some (iv (a:Int))) 0=some a:=abd_nat _ _
 have e2:abd (some (iv (b:Int))) (bs l).size=some b:=abd_nat _ _
 simp only [slcStr,e1,e2]
 rw [if_pos ⟨h1,by rw [size_bs];exact h2⟩]
 congr 3
 apply ByteArray.ext
 rw [ByteArray.data_extract]
 simp [List.drop_take]
theorem afill1 {x:Tok}:afillS 3 [[iv 0,iv 0,str ⟨#[]⟩]] [(0,.agg (encTok x))]=some [encTok x]:=rfl
theorem ret_no {a b:AV} (hs:AH.Sub σ τ) (h:R (.ret (.tup [.ro [],a,b])) σ):aret (.tup [.val (.slice none 0 0),a,b]) τ R:=by
 refine aret_freeze (a':= .tup [.ro [],a,b]) hs (.tup rfl fun j hj=>?_) h
 match j,hj with
 |0,_=>exact .nil
 |1,_=>exact .same _
 |2,_=>exact .same _
theorem fin_cellZ {φ n:Nat} {zs cs cs':List AV} (hφ:σ φ=none) (hz:zs.length=n) (hc:cs.length=n) (h1:∀x,x∈cs→x.one=true) (hl:cs.length=cs'.length) (hf:∀i,i<cs.length→Fz σ (σ.set φ ⟨0,n,[cs]⟩) (cs.getD i .any) (cs'.getD i .any)) (h:R (.ret (.agg cs')) σ):
  sto n (.ptr φ 0 0 0) (.agg cs) (σ.set φ ⟨0,n,[zs]⟩) fun σ=>og (lodA n (.ptr φ 0 0 0) σ) fun r=>aret r σ R:=by
 refine sto_own (es:=[zs]) (cs:=cs) (AH.set_same ..) (by simp) (by simpa using hz) rfl hc h1 ?_
 simp only [List.set_cons_zero,AH.set_set]
 have e:=lodA_at (σ:=σ.set φ ⟨0,n,[cs]⟩) (φ:=φ) (st:=0) (i:=0) (n:=n) (cs:=cs) (AH.set_same ..) rfl rfl hc
 simp only [e,RR]
 exact aret_freeze (.set (.refl σ) _ hφ) (.agg hl hf) h
theorem c_spec_l2Tokens {t:List UInt8} (hl:t.length≤400) (h:R (.ret (.tup [roT (toks t (t.length+1) (skp false t) []).1,iv (toks t (t.length+1) (skp false t) []).2.1,iv ((toks t (t.length+1) (skp false t) []).2.2:Nat)])) σ):acall TP fn_spec_l2Tokens [str (bs t)] σ R:=by
 refine s_spec_l2Tokens_ok ?_
 unfold s_spec_l2Tokens
 refine bsl0 ?_
 refine c_spec_l2Skip (p:=0) (Nat.zero_le _) (by omega) ?_
 simp only [RR,List.drop_zero]
 generalize hE:toks t (t.length+1) (skp false t) []=E at h
 refine lp_by (fun f x τ=>∃(p:Nat) (ts:List Tok) (u:AV),x=(str (bs t),u,iv (p:Int),())∧Buf τ 3 u (ts.map encTok)∧AH.Sub σ τ∧(∀ψ,ψ∈famL u→σ ψ=none)∧toks t f p ts=E∧ts.length≤120∧p≤t.length∧t.length+1≤f+p∧skp false (t.drop p)=0) (t.length+1)
  ⟨skp false t,[],.emp,rfl,.inl ⟨.inr rfl,rfl⟩,.refl σ,(fun ψ c=>by cases c),hE,by simp,skp_le t false,by omega,skp_idem t false⟩ ?_
 rintro f x τ ⟨p,ts,u,rfl,hB,hs,hf,he,hn,hp,hfp,hz⟩ R' hR'
 simp only [size_bs,RR]
 obtain ⟨f,rfl⟩:∃g,f=g+1:=⟨f - 1,by omega⟩
 by_cases c:p<t.length
 ·have g:(p:Int)<(t.length:Int):=by omega
  have dc:=List.drop_eq_getElem_cons c
  rw [toks,dc] at he
  dsimp only at he
  rw [dc] at hz
  obtain ⟨z1,z2,z3⟩:=skp_zero hz
  simp only [g,idxStr_bs c,RR]
  refine c_spec_l2Mark ?_
  simp only [(bldT (markB t[p]) 0 ⟨#[]⟩).2.1,ibin_up c (show t.length≤9223372036854775807 by omega),RR]
  intro φ hφ
  refine sto_own (es:=[[iv 0,iv 0,str ⟨#[]⟩]]) (cs:=encTok ⟨markB t[p],0,⟨#[]⟩⟩) (AH.set_same ..) (by simp) rfl rfl rfl (one_encTok _) ?_
  simp only [List.set_cons_zero,AH.set_set]
  refine jn_by (P:=fun x τ'=>∃(q:Nat) (tk:Tok),x=(str (bs t),u,iv (q:Int),iv (p:Int),.ptr φ 0 0 0,())∧τ'=τ.set φ ⟨0,3,[encTok tk]⟩∧(120≤ts.length→E=([],2,p))∧(ts.length<120→toks t f (q+skp false (t.drop q)) (ts++[tk])=E)∧q≤t.length∧p<q) ?_ ?_
  ·rintro x τ' ⟨q,tk,rfl,rfl,h1,h2,h3,h4⟩
   refine frz_cell hφ rfl ?_
   have hlen:lenS u=some (iv (ts.length:Int)):=by have:=buf_len hB;simpa using this
   simp only [hlen,RR]
   by_cases cm:120≤ts.length
   ·have gm:(120:Int)≤(ts.length:Int):=by omega
    simp only [gm,RR]
    rw [h1 cm] at h
    exact ret_no hs h
   ·have gm:¬(120:Int)≤(ts.length:Int):=by omega
    simp only [gm,lodA_all (len_encTok tk),RR]
    refine push_rw (row:=encTok tk) hB afill1 (by omega) rfl (one_encTok tk) (by simp;omega) fun u' τ2 hB' hK hfam=>?_
    refine c_spec_l2Skip h3 (by omega) ?_
    simp only [RR]
    have hsk:=skp_le (t.drop q) false
    rw [List.length_drop] at hsk
    refine hR' _ _ f τ2 (by omega) (.refl _) ⟨q+skp false (t.drop q),ts++[tk],u',rfl,by simpa using hB',hK.sub hs hf,fun ψ hψ=>(hfam ψ hψ).elim (hf ψ) fun d=>hs.none d,h2 (by omega),by simp;omega,by omega,by omega,skp_at t q⟩
  ·intro k hk
   have hF:(τ.set φ ⟨0,3,[encTok ⟨markB t[p],0,⟨#[]⟩⟩]⟩) φ=some ⟨0,3,[encTok ⟨markB t[p],0,⟨#[]⟩⟩]⟩:=AH.set_same ..
   have el:=lod_at (st:=0) (i:=0) (off:=0) (c:=iv (markB t[p])) hF rfl rfl
   simp only [el,RR]
   by_cases cm:markB t[p]=0
   ·rw [if_neg (by simp [cm])] at he
    simp only [cm,RR]
    refine c_spec_l2End hp (by omega) ?_
    rw [dc]
    have hw:=wrd_le (t[p]::t.drop (p+1))
    have hw1:1≤wrd (t[p]::t.drop (p+1)):=by rw [wrd_go z2 z3 z1 cm];omega
    have hlc:(t[p]::t.drop (p+1)).length=t.length - p:=by rw [←dc,List.length_drop]
    generalize hW:wrd (t[p]::t.drop (p+1))=W at*
    simp only [RR]
    rw [slc_midI (a:=p) (b:=p+W) (by omega) (by omega),show p+W - p=W by omega,dc]
    simp only [RR]
    refine c_spec_l2Word (by rw [List.length_take];omega) ?_
    generalize wordT ((t[p]::t.drop (p+1)).take W)=wt at*
    have e0:aext (.tup [.agg (encTok wt.1),bv wt.2]) 0=some (.agg (encTok wt.1)):=rfl
    have e1:aext (.tup [.agg (encTok wt.1),bv wt.2]) 1=some (bv wt.2):=rfl
    simp only [e0,e1,RR]
    intro φ9 h9
    refine sto_own (es:=[[iv 0,iv 0,str ⟨#[]⟩]]) (cs:=encTok wt.1) (AH.set_same ..) (by simp) rfl rfl rfl (one_encTok _) ?_
    simp only [List.set_cons_zero,AH.set_set]
    refine frz_cell h9 rfl ?_
    cases hw2:wt.2 with
    |false=>
     rw [if_pos hw2] at he
     rw [←he] at h
     simp only [RR]
     exact ret_no (.set hs _ (hs.none hφ)) h
    |true=>
     rw [if_neg (by rw [hw2];simp)] at he
     simp only [lodA_all (len_encTok wt.1),RR]
     refine sto_own (es:=[encTok ⟨0,0,⟨#[]⟩⟩]) (cs:=encTok wt.1) (by rw [AH.set_same]) (by simp) rfl rfl rfl (one_encTok _) ?_
     simp only [List.set_cons_zero,AH.set_set]
     refine hk _ _ ⟨p+W,wt.1,rfl,rfl,fun c2=>?_,fun c2=>?_,by omega,by omega⟩
     ·rw [if_pos c2] at he;exact he.symm
     ·rw [if_neg (by omega)] at he;exact he
   ·rw [if_pos (by simpa using cm)] at he
    simp only [cm,RR]
    refine hk _ _ ⟨p+1,⟨markB t[p],0,⟨#[]⟩⟩,rfl,rfl,fun c2=>?_,fun c2=>?_,by omega,by omega⟩
    ·rw [if_pos c2] at he;exact he.symm
    ·rw [if_neg (by omega)] at he;exact he
 ·have g:¬(p:Int)<(t.length:Int):=by omega
  obtain rfl:p=t.length:=by omega
  rw [toks,List.drop_length] at he
  dsimp only at he
  rw [←he] at h
  simp only [g,RR]
  refine aret_freeze (a':= .tup [roT ts,iv 0,iv 0]) hs (.tup rfl fun j hj=>?_) h
  match j,hj with
  |0,_=>exact fz_row hB hf rfl (by intro c hc;obtain ⟨o,_,rfl⟩:=List.mem_map.1 hc;rfl) fun _ _ _ _=> .same _
  |1,_=>exact .same _
  |2,_=>exact .same _
theorem bldTR (c a:Int) (es:List (List AV)):bld [iv 0,iv 0,.val (.slice none 0 0)] [(0,1),(1,1),(2,1)] [(0,iv c),(1,iv a),(2,.ro es)]=some (.agg [iv c,iv a,.ro es]):=rfl
theorem c_spec_TokensOf {t:List UInt8} (hl:t.length≤1048576) (h:R (.ret (.agg [iv (tokR t).2.1,iv ((tokR t).2.2:Nat),roT (tokR t).1])) σ):acall TP fn_spec_TokensOf [str (bs t)] σ R:=by
 refine s_spec_TokensOf_ok ?_
 unfold s_spec_TokensOf
 intro φ hφ
 unfold tokR at h
 simp only [size_bs,RR]
 by_cases c:400<t.length
 ·have g:(400:Int)<(t.length:Int):=by omega
  rw [if_pos c] at h
  have e:bld [iv 0,iv 0,.val (.slice none 0 0)] [(0,1),(1,1),(2,1)] [(0,iv 2)]=some (.agg [iv 2,iv 0,.val (.slice none 0 0)]):=rfl
  simp only [g,e,RR]
  refine fin_cellZ (cs':=[iv 2,iv 0,roT []]) hφ rfl rfl (by intro x hx;simp at hx;rcases hx with rfl|rfl|rfl<;>rfl) rfl (fun j hj=>?_) h
  match j,hj with
  |0,_=>exact .same _
  |1,_=>exact .same _
  |2,_=>exact .nil
 ·have g:¬(400:Int)<(t.length:Int):=by omega
  rw [if_neg c] at h
  simp only [g,RR]
  refine c_spec_l2Tokens (by omega) ?_
  generalize toks t (t.length+1) (skp false t) []=E at h ⊢
  have e0:aext (.tup [roT E.1,iv E.2.1,iv (E.2.2:Nat)]) 0=some (roT E.1):=rfl
  have e1:aext (.tup [roT E.1,iv E.2.1,iv (E.2.2:Nat)]) 1=some (iv E.2.1):=rfl
  have e2:aext (.tup [roT E.1,iv E.2.1,iv (E.2.2:Nat)]) 2=some (iv (E.2.2:Nat)):=rfl
  simp only [e0,e1,e2,bldTR,RR]
  exact fin_cell hφ rfl rfl (by intro x hx;simp at hx;rcases hx with rfl|rfl|rfl<;>rfl) h
end Go.Proofs.YtbppopcpgcgkkaaGreatDoor.E
/- Cores that are made to code: the plain law. No program in sight. -/
namespace Go.Proofs.YtbppopcpgcgkkaaGreatDoor.E
open Go Go.RowKit
def corAt (cs:List Cor) (i:Nat):Cor:=cs.getD i default
def kidsC (cs:List Cor) (x:Nat):List Nat:=(List.range cs.length).filter fun i=>decide ((corAt cs i).parent=(x:Int))
abbrev St:=List (Int × List OpD)
def putS (B:St) (i:Nat) (o:OpD):St:=B.modify i fun p=>(p.1,p.2++[o])
def setS (B:St) (i k:Nat) (a:Int):St:=B.modify i fun p=>(p.1,p.2.modify k fun o=>{o with a:=a})
def lenS' (B:St) (i:Nat):Nat:=(B.getD i (0,[])).2.length
def oc0 (k:Int):OpD:=⟨k,0,0,0,0,⟨#[]⟩,[]⟩
def ocA (k a:Int):OpD:=⟨k,a,0,0,0,⟨#[]⟩,[]⟩
def ocAB (k a b:Int):OpD:=⟨k,a,b,0,0,⟨#[]⟩,[]⟩
def ocN (k:Int) (s:ByteArray):OpD:=⟨k,0,0,0,0,s,[]⟩
def ocD (k:Int) (d:List Dat):OpD:=⟨k,0,0,0,0,⟨#[]⟩,d⟩
def endS (B:St) (i:Nat) (e:Bool):St:=if e then putS B i (oc0 12) else B
def manyS (g:Nat→St→St) (h:St→St):List Nat→St→St
 |[],B=>B
 |k::r,B=>manyS g h r (h (g k B))
def mkC (cs:List Cor):Nat→Nat→Nat→Bool→St→St
 |0,_,_,_,B=>B
 |f+1,x,i,e,B=>
  let c:=corAt cs x
  let ks:=kidsC cs x
  if c.kind=1 then endS (putS B i (ocD 1 c.data)) i e
  else if c.kind=2 then endS (putS B i (ocAB 2 c.a c.b)) i e
  else if c.kind=3 then endS (putS B i (ocN 3 c.name)) i e
  else if c.kind=5 then endS (mkC cs f (ks.getD 0 0) B.length true (putS (B++[(c.a,[])]) i (ocA 4 (B.length:Int)))) i e
  else if c.kind=7∨c.kind=8 then endS (putS (mkC cs f (ks.getD 0 0) i false B) i (ocN (c.kind - 7+8) c.name)) i e
  else if c.kind=4 then
   let B1:=mkC cs f (ks.getD 0 0) i false B
   let B2:=mkC cs f (ks.getD 1 0) i e (putS B1 i (oc0 6))
   let B3:=if e then B2 else putS B2 i (oc0 5)
   let B4:=setS B3 i (lenS' B1 i) (lenS' B3 i:Int)
   let B5:=mkC cs f (ks.getD 2 0) i e B4
   if e then B5 else setS B5 i (lenS' B2 i) (lenS' B5 i:Int)
  else if c.kind=6 then mkC cs f (ks.getLastD 0) i e (manyS (fun k B=>mkC cs f k i false B) (fun B=>putS B i (oc0 7)) ks.dropLast B)
  else putS (manyS (fun k B=>mkC cs f k i false B) id ks B) i (ocA (if e then 11 else 10) ((ks.length:Int) - 1))
theorem getD_modify {X:Type} (l:List X) (i j:Nat) (f:X→X) (d:X):(l.modify i f).getD j d=if i=j∧j<l.length then f (l.getD j d) else l.getD j d:=by
 simp only [List.getD,List.getElem?_modify]
 by_cases h:i=j
 ·subst h
  by_cases h2:i<l.length
  ·simp [h2]
  ·simp [h2]
 ·simp [h]
theorem len_put (B:St) (i:Nat) (o:OpD):(putS B i o).length=B.length:=by simp [putS]
theorem len_set (B:St) (i k:Nat) (a:Int):(setS B i k a).length=B.length:=by simp [setS]
theorem lenS_put (B:St) (i j:Nat) (o:OpD):lenS' (putS B i o) j=if i=j∧j<B.length then lenS' B j+1 else lenS' B j:=by
 unfold lenS' putS
 rw [getD_modify]
 split<;>simp
theorem lenS_set (B:St) (i j k:Nat) (a:Int):lenS' (setS B i k a) j=lenS' B j:=by
 unfold lenS' setS
 rw [getD_modify]
 split<;>simp
theorem modify_comm {X:Type} (l:List X) {i j:Nat} (h:i≠j) (f g:X→X):(l.modify i f).modify j g=(l.modify j g).modify i f:=by
 apply List.ext_getElem (by simp)
 intro k h1 h2
 simp only [List.getElem_modify]
 by_cases c1:i=k<;>by_cases c2:j=k
 ·omega
 ·simp [c1,c2]
 ·simp [c1,c2]
 ·simp [c1,c2]
theorem modify_app {X:Type} (l r:List X) {i:Nat} (h:i<l.length) (f:X→X):(l++r).modify i f=l.modify i f++r:=by
 apply List.ext_getElem (by simp)
 intro k h1 h2
 simp only [List.getElem_modify,List.getElem_append,List.length_modify]
 by_cases c:k<l.length
 ·simp [c]
 ·have:¬i=k:=by omega
  simp [c,this]
theorem put_put {B:St} {i j:Nat} (h:i≠j) (o q:OpD):putS (putS B i o) j q=putS (putS B j q) i o:=modify_comm _ h _ _
theorem set_put {B:St} {i j:Nat} (h:i≠j) (o:OpD) (k:Nat) (a:Int):setS (putS B i o) j k a=putS (setS B j k a) i o:=modify_comm _ h _ _
theorem push_put {B:St} {i:Nat} (h:i<B.length) (o:OpD) (r:St):putS B i o++r=putS (B++r) i o:=(modify_app _ _ h _).symm
theorem lenS_put_ne {B:St} {i j:Nat} (h:i≠j) (o:OpD):lenS' (putS B i o) j=lenS' B j:=by rw [lenS_put,if_neg fun c=>h c.1]
theorem end_put {B:St} {i j:Nat} (h:i≠j) (o:OpD) (e:Bool):endS (putS B i o) j e=putS (endS B j e) i o:=by
 cases e
 ·rfl
 ·exact put_put h _ _
def leS (B B':St):Prop:=B.length≤B'.length∧∀i,i<B.length→lenS' B i≤lenS' B' i
theorem leS.refl (B:St):leS B B:=⟨Nat.le_refl _,fun _ _=>Nat.le_refl _⟩
theorem leS.trans {A B C:St} (h:leS A B) (k:leS B C):leS A C:=⟨Nat.le_trans h.1 k.1,fun i hi=>Nat.le_trans (h.2 i hi) (k.2 i (Nat.lt_of_lt_of_le hi h.1))⟩
theorem leS_put (B:St) (i:Nat) (o:OpD):leS B (putS B i o):=⟨by rw [len_put];exact Nat.le_refl _,fun j _=>by rw [lenS_put];split<;>omega⟩
theorem leS_set (B:St) (i k:Nat) (a:Int):leS B (setS B i k a):=⟨by rw [len_set];exact Nat.le_refl _,fun j _=>by rw [lenS_set];exact Nat.le_refl _⟩
theorem leS_end (B:St) (i:Nat) (e:Bool):leS B (endS B i e):=by
 cases e
 ·exact .refl B
 ·exact leS_put _ _ _
theorem leS_push (B r:St):leS B (B++r):=⟨by simp,fun i hi=>by unfold lenS';simp only [List.getD,List.getElem?_append_left hi];exact Nat.le_refl _⟩
theorem leS_many {g:Nat→St→St} {h:St→St} (hg:∀k B,leS B (g k B)) (hh:∀B,leS B (h B)):∀ks B,leS B (manyS g h ks B):=by
 intro ks
 induction ks with
 |nil=>intro B;exact .refl B
 |cons k r ih=>intro B;exact ((hg k B).trans (hh _)).trans (ih _)
theorem mkC_le (cs:List Cor):∀f x i e B,leS B (mkC cs f x i e B):=by
 intro f
 induction f with
 |zero=>intro x i e B;exact .refl B
 |succ f ih=>
  intro x i e B
  rw [mkC]
  dsimp only
  split;· exact (leS_put ..).trans (leS_end ..)
  split;· exact (leS_put ..).trans (leS_end ..)
  split;· exact (leS_put ..).trans (leS_end ..)
  split;· exact (((leS_push ..).trans (leS_put ..)).trans (ih ..)).trans (leS_end ..)
  split;· exact ((ih ..).trans (leS_put ..)).trans (leS_end ..)
  split
  ·cases e
   ·exact (((((((ih ..).trans (leS_put ..)).trans (ih ..)).trans (leS_put ..)).trans (leS_set ..)).trans (ih ..))).trans (leS_set ..)
   ·exact (((((ih ..).trans (leS_put ..)).trans (ih ..)).trans (leS_set ..)).trans (ih ..))
  split;· exact (leS_many (fun k B=>ih ..) (fun B=>leS_put ..) _ _).trans (ih ..)
  exact (leS_many (fun k B=>ih ..) (fun B=> .refl B) _ _).trans (leS_put ..)
theorem many_put {g:Nat→St→St} {h:St→St} {i:Nat} {o:OpD} (hg:∀k B,i<B.length→g k (putS B i o)=putS (g k B) i o) (hh:∀B,h (putS B i o)=putS (h B) i o) (hl:∀k B,leS B (g k B)) (hl2:∀B,leS B (h B)):
  ∀ks B,i<B.length→manyS g h ks (putS B i o)=putS (manyS g h ks B) i o:=by
 intro ks
 induction ks with
 |nil=>intro B _;rfl
 |cons k r ih=>intro B hi;rw [manyS,manyS,hg k B hi,hh,ih _ (Nat.lt_of_lt_of_le hi ((hl k B).trans (hl2 _)).1)]
theorem mkC_put (cs:List Cor) {i:Nat} {o:OpD}:∀f x j e B,i≠j→i<B.length→mkC cs f x j e (putS B i o)=putS (mkC cs f x j e B) i o:=by
 intro f
 induction f with
 |zero=>intro x j e B _ _;rfl
 |succ f ih=>
  intro x j e B hij hi
  have lt:∀{C:St},leS B C→i<C.length:=fun h=>Nat.lt_of_lt_of_le hi h.1
  rw [mkC,mkC]
  dsimp only
  split;· rw [put_put hij,end_put hij]
  split;· rw [put_put hij,end_put hij]
  split;· rw [put_put hij,end_put hij]
  split
  ·rw [len_put,push_put hi,put_put hij,ih _ _ _ _ (by omega) (lt ((leS_push ..).trans (leS_put ..))),end_put hij]
  split;· rw [ih _ _ _ _ hij hi,put_put hij,end_put hij]
  split
  ·have k1:i<(mkC cs f ((kidsC cs x).getD 0 0) j false B).length:=lt (mkC_le ..)
   have k2:i<(putS (mkC cs f ((kidsC cs x).getD 0 0) j false B) j (oc0 6)).length:=by rw [len_put];exact k1
   have k3:i<(mkC cs f ((kidsC cs x).getD 1 0) j e (putS (mkC cs f ((kidsC cs x).getD 0 0) j false B) j (oc0 6))).length:=Nat.lt_of_lt_of_le k2 (mkC_le ..).1
   rw [ih _ _ _ _ hij hi,put_put hij,ih _ _ _ _ hij k2]
   cases e
   ·simp only [Bool.false_eq_true,if_false]
    rw [put_put hij,lenS_put_ne hij,lenS_put_ne hij,set_put hij,ih _ _ _ _ hij (by rw [len_set,len_put];exact k3),lenS_put_ne hij,lenS_put_ne hij,set_put hij]
   ·simp only [if_true]
    rw [lenS_put_ne hij,lenS_put_ne hij,set_put hij,ih _ _ _ _ hij (by rw [len_set];exact k3)]
  split
  ·rw [many_put (h:=fun B=>putS B j (oc0 7)) (fun k B hB=>ih _ _ _ _ hij hB) (fun B=>put_put hij _ _) (fun k B=>mkC_le ..) (fun B=>leS_put ..) _ _ hi]
   exact ih _ _ _ _ hij (lt (leS_many (fun k B=>mkC_le ..) (fun B=>leS_put ..) _ _))
  rw [many_put (h:=id) (fun k B hB=>ih _ _ _ _ hij hB) (fun B=>rfl) (fun k B=>mkC_le ..) (fun B=> .refl B) _ _ hi,put_put hij]
def fits (B:St):Prop:=B.length≤60∧∀i,i<B.length→lenS' B i≤200
theorem fits.of_le {B C:St} (h:leS B C) (k:fits C):fits B:=⟨Nat.le_trans h.1 k.1,fun i hi=>Nat.le_trans (h.2 i hi) (k.2 i (Nat.lt_of_lt_of_le hi h.1))⟩
def totS (B:St):Nat:=(B.map fun p=>p.2.length+1).sum
theorem sum_modify (l:List (Int × List OpD)) (f:Int × List OpD→Int × List OpD) (d:Nat) (hf:∀p,(f p).2.length≤p.2.length+d):∀i,((l.modify i f).map fun p=>p.2.length+1).sum≤(l.map fun p=>p.2.length+1).sum+d:=by
 induction l with
 |nil=>intro i;cases i<;>simp
 |cons a r ih=>
  intro i
  cases i with
  |zero=>have:=hf a;simp;omega
  |succ i=>have:=ih i;simp;omega
theorem tot_put (B:St) (i:Nat) (o:OpD):totS (putS B i o)≤totS B+1:=sum_modify _ _ 1 (fun p=>by simp) i
theorem tot_set (B:St) (i k:Nat) (a:Int):totS (setS B i k a)≤totS B:=sum_modify _ _ 0 (fun p=>by simp) i
theorem tot_end (B:St) (i:Nat) (e:Bool):totS (endS B i e)≤totS B+1:=by
 cases e
 ·exact Nat.le_succ _
 ·exact tot_put _ _ _
theorem tot_push (B:St) (a:Int):totS (B++[(a,[])])=totS B+1:=by simp [totS]
theorem len_tot (B:St):B.length≤totS B:=by
 unfold totS
 induction B with
 |nil=>simp
 |cons p r ih=>simp;omega
theorem lenS_tot (B:St) (i:Nat):lenS' B i≤totS B:=by
 unfold lenS' totS
 induction B generalizing i with
 |nil=>simp
 |cons p r ih=>
  cases i with
  |zero=>simp;omega
  |succ i=>have:=ih i;simp at this ⊢;omega
def vis (cs:List Cor):Nat→Nat→List Nat
 |0,x=>[x]
 |f+1,x=>x::(kidsC cs x).flatMap (vis cs f)
def visK (cs:List Cor) (f:Nat) (ks:List Nat):Nat:=(ks.map fun k=>(vis cs f k).length).sum
theorem vis_pos (cs:List Cor):∀f x,1≤(vis cs f x).length:=by intro f x;cases f<;>simp [vis]
theorem vis_len (cs:List Cor) (f x:Nat):(vis cs (f+1) x).length=1+visK cs f (kidsC cs x):=by
 simp [vis,visK,List.length_flatMap];omega
theorem visK_app (cs:List Cor) (f:Nat) (a b:List Nat):visK cs f (a++b)=visK cs f a+visK cs f b:=by simp [visK]
def hasK (k:Int) (n:Nat):Prop:=if k=4 then n=3 else if k=5∨k=7∨k=8 then n=1 else if k=6 then 1≤n else if k=9 then 1≤n∧n≤4 else n=0
structure WfC (cs:List Cor):Prop where
 len:1≤cs.length∧cs.length≤160
 kind:∀i,i<cs.length→1≤(corAt cs i).kind∧(corAt cs i).kind≤9
 top:(corAt cs 0).parent= -1
 par:∀i,0<i→i<cs.length→0≤(corAt cs i).parent∧(corAt cs i).parent<i
 kids:∀i,i<cs.length→hasK (corAt cs i).kind (kidsC cs i).length
theorem mem_kidsC {cs:List Cor} {x k:Nat}:k∈kidsC cs x↔k<cs.length∧(corAt cs k).parent=(x:Int):=by simp [kidsC]
theorem WfC.kid {cs:List Cor} (h:WfC cs) {x k:Nat} (hk:k∈kidsC cs x):x<k∧k<cs.length:=by
 obtain ⟨h1,h2⟩:=mem_kidsC.1 hk
 have h0:0<k:=by
  rcases Nat.eq_zero_or_pos k with c|c
  ·subst c;rw [h.top] at h2;omega
  ·exact c
 have:=h.par k h0 h1
 omega
theorem getD_last {l:List Nat} (h:l≠[]):l.dropLast++[l.getLastD 0]=l:=by
 rw [List.getLastD_eq_getLast?,List.getLast?_eq_some_getLast h,Option.getD_some]
 exact List.dropLast_concat_getLast h
theorem mkC_tot {cs:List Cor} (hw:WfC cs):∀f x i e B,x<cs.length→cs.length≤f+x→totS (mkC cs f x i e B)+1≤totS B+4*(vis cs f x).length:=by
 intro f
 induction f with
 |zero=>intro x i e B h1 h2;omega
 |succ f ih=>
  intro x i e B hx hf
  have hkd:=fun k (hk:k∈kidsC cs x)=>hw.kid hk
  have ihk:∀k,k∈kidsC cs x→∀i e B,totS (mkC cs f k i e B)+1≤totS B+4*(vis cs f k).length:=fun k hk i e B=>ih k i e B (hkd k hk).2 (by have:=hkd k hk;omega)
  have hk:=hw.kids x hx
  have hkk:=hw.kind x hx
  rw [vis_len]
  rw [mkC]
  dsimp only
  generalize hks:kidsC cs x=ks at*
  split
  ·have h1:=tot_put B i (ocD 1 (corAt cs x).data);have h2:=tot_end (putS B i (ocD 1 (corAt cs x).data)) i e;omega
  split
  ·have h1:=tot_put B i (ocAB 2 (corAt cs x).a (corAt cs x).b);have h2:=tot_end (putS B i (ocAB 2 (corAt cs x).a (corAt cs x).b)) i e;omega
  split
  ·have h1:=tot_put B i (ocN 3 (corAt cs x).name);have h2:=tot_end (putS B i (ocN 3 (corAt cs x).name)) i e;omega
  split
  ·rename_i c5
   have h1:=tot_push B (corAt cs x).a
   have h2:=tot_put (B++[((corAt cs x).a,[])]) i (ocA 4 (B.length:Int))
   unfold hasK at hk
   rw [if_neg (by omega),if_pos (.inl c5)] at hk
   match ks,hk with
   |[k],_=>
    have h3:=ihk k (by simp) B.length true (putS (B++[((corAt cs x).a,[])]) i (ocA 4 (B.length:Int)))
    have h4:=tot_end (mkC cs f k B.length true (putS (B++[((corAt cs x).a,[])]) i (ocA 4 (B.length:Int)))) i e
    simp [visK] at h3 h4 ⊢
    omega
  split
  ·rename_i c5
   unfold hasK at hk
   rw [if_neg (by omega),if_pos (by omega)] at hk
   match ks,hk with
   |[k],_=>
    have h3:=ihk k (by simp) i false B
    have h4:=tot_put (mkC cs f k i false B) i (ocN ((corAt cs x).kind - 7+8) (corAt cs x).name)
    have h5:=tot_end (putS (mkC cs f k i false B) i (ocN ((corAt cs x).kind - 7+8) (corAt cs x).name)) i e
    simp [visK] at h3 h4 h5 ⊢
    omega
  split
  ·rename_i c4
   unfold hasK at hk
   rw [if_pos c4] at hk
   match ks,hk with
   |[k1,k2,k3],_=>
    have h1:=ihk k1 (by simp) i false B
    simp only [List.getD_cons_zero,List.getD_cons_succ]
    generalize mkC cs f k1 i false B=B1 at*
    have h2:=tot_put B1 i (oc0 6)
    have h3:=ihk k2 (by simp) i e (putS B1 i (oc0 6))
    generalize mkC cs f k2 i e (putS B1 i (oc0 6))=B2 at*
    have e1:visK cs f [k1,k2,k3]=(vis cs f k1).length+((vis cs f k2).length+(vis cs f k3).length):=by simp [visK]
    rw [e1]
    cases e
    ·simp only [Bool.false_eq_true,if_false]
     have h4:=tot_put B2 i (oc0 5)
     have h5:=tot_set (putS B2 i (oc0 5)) i (lenS' B1 i) (lenS' (putS B2 i (oc0 5)) i:Int)
     have h6:=ihk k3 (by simp) i false (setS (putS B2 i (oc0 5)) i (lenS' B1 i) (lenS' (putS B2 i (oc0 5)) i:Int))
     generalize mkC cs f k3 i false (setS (putS B2 i (oc0 5)) i (lenS' B1 i) (lenS' (putS B2 i (oc0 5)) i:Int))=B5 at*
     have h7:=tot_set B5 i (lenS' B2 i) (lenS' B5 i:Int)
     omega
    ·simp only [if_true]
     have h5:=tot_set B2 i (lenS' B1 i) (lenS' B2 i:Int)
     have h6:=ihk k3 (by simp) i true (setS B2 i (lenS' B1 i) (lenS' B2 i:Int))
     omega
  split
  ·rename_i c6
   unfold hasK at hk
   rw [if_neg (by omega),if_neg (by omega),if_pos c6] at hk
   have hne:ks≠[]:=by intro c;rw [c] at hk;simp at hk
   have hl:=getD_last hne
   have hmem:∀k,k∈ks.dropLast→k∈ks:=fun k hm=>by rw [←hl];exact List.mem_append_left _ hm
   have hlm:ks.getLastD 0∈ks:=by
    have:ks.getLastD 0∈ks.dropLast++[ks.getLastD 0]:=List.mem_append_right _ (List.mem_singleton.2 rfl)
    rwa [hl] at this
   have e1:visK cs f ks=visK cs f ks.dropLast+(vis cs f (ks.getLastD 0)).length:=by
    conv=>lhs;rw [←hl]
    rw [visK_app];simp [visK]
   have hm:∀l:List Nat,(∀k,k∈l→k∈ks)→∀B,totS (manyS (fun k B=>mkC cs f k i false B) (fun B=>putS B i (oc0 7)) l B)≤totS B+4*visK cs f l:=by
    intro l
    induction l with
    |nil=>intro _ B;simp [manyS,visK]
    |cons k r ih2=>
     intro hl B
     have g1:=ihk k (hl k (by simp)) i false B
     have g2:=tot_put (mkC cs f k i false B) i (oc0 7)
     have g3:=ih2 (fun k hk=>hl k (by simp [hk])) (putS (mkC cs f k i false B) i (oc0 7))
     have e:visK cs f (k::r)=(vis cs f k).length+visK cs f r:=by simp [visK]
     rw [manyS,e]
     omega
   have h1:=hm ks.dropLast hmem B
   have h2:=ihk (ks.getLastD 0) hlm i e (manyS (fun k B=>mkC cs f k i false B) (fun B=>putS B i (oc0 7)) ks.dropLast B)
   omega
  ·have hm:∀l:List Nat,(∀k,k∈l→k∈ks)→∀B,totS (manyS (fun k B=>mkC cs f k i false B) id l B)≤totS B+4*visK cs f l:=by
    intro l
    induction l with
    |nil=>intro _ B;simp [manyS,visK]
    |cons k r ih2=>
     intro hl B
     have g1:=ihk k (hl k (by simp)) i false B
     have g3:=ih2 (fun k hk=>hl k (by simp [hk])) (mkC cs f k i false B)
     have e:visK cs f (k::r)=(vis cs f k).length+visK cs f r:=by simp [visK]
     rw [manyS,e]
     simp only [id]
     omega
   have h1:=hm ks (fun k hk=>hk) B
   have h2:=tot_put (manyS (fun k B=>mkC cs f k i false B) id ks B) i (ocA (if e then 11 else 10) ((ks.length:Int) - 1))
   omega
theorem nodup_bound:∀(n:Nat) (l:List Nat),l.Nodup→(∀x,x∈l→x<n)→l.length≤n:=by
 intro n
 induction n with
 |zero=>intro l _ h;cases l with
  |nil=>simp
  |cons a r=>exact absurd (h a (by simp)) (by omega)
 |succ n ih=>
  intro l hn h
  have h1:=ih (l.erase n) (hn.erase n) fun x hx=>by
   have h2:=h x (List.mem_of_mem_erase hx)
   have h3:x≠n:=fun c=>by subst c;exact (List.Nodup.not_mem_erase hn) hx
   omega
  by_cases c:n∈l
  ·rw [List.length_erase_of_mem c] at h1;omega
  ·rw [List.erase_of_not_mem c] at h1;omega
theorem nodup_app' {a b:List Nat}:(a++b).Nodup↔a.Nodup∧b.Nodup∧∀x,x∈a→x∉b:=by
 rw [List.nodup_append]
 constructor
 ·rintro ⟨h1,h2,h3⟩
  exact ⟨h1,h2,fun x hx hb=>h3 x hx x hb rfl⟩
 ·rintro ⟨h1,h2,h3⟩
  exact ⟨h1,h2,fun x hx y hy e=>h3 x hx (e▸hy)⟩
def upC (cs:List Cor) (y:Nat):Nat:=(corAt cs y).parent.toNat
def upN (cs:List Cor):Nat→Nat→Nat
 |0,y=>y
 |n+1,y=>upC cs (upN cs n y)
theorem vis_up {cs:List Cor} (hw:WfC cs):∀f x y,x<cs.length→y∈vis cs f x→y<cs.length∧x≤y∧∃n,upN cs n y=x:=by
 intro f
 induction f with
 |zero=>intro x y hx h;simp [vis] at h;subst h;exact ⟨hx,Nat.le_refl _,0,rfl⟩
 |succ f ih=>
  intro x y hx h
  simp only [vis,List.mem_cons,List.mem_flatMap] at h
  rcases h with rfl|⟨k,hk,hy⟩
  ·exact ⟨hx,Nat.le_refl _,0,rfl⟩
  ·obtain ⟨h1,h2⟩:=hw.kid hk
   obtain ⟨g1,g2,n,hn⟩:=ih k y h2 hy
   refine ⟨g1,by omega,n+1,?_⟩
   rw [upN,hn,upC,(mem_kidsC.1 hk).2];simp
theorem upN_add (cs:List Cor) (y:Nat):∀a b,upN cs (a+b) y=upN cs a (upN cs b y):=by
 intro a
 induction a with
 |zero=>intro b;simp [upN]
 |succ a ih=>intro b;rw [Nat.succ_add,upN,ih,upN]
theorem upN_le {cs:List Cor} (hw:WfC cs):∀n y,y<cs.length→upN cs n y≤y:=by
 intro n
 induction n with
 |zero=>intro y _;exact Nat.le_refl _
 |succ n ih=>
  intro y hy
  have h1:=ih y hy
  rw [upN]
  unfold upC
  rcases Nat.eq_zero_or_pos (upN cs n y) with c|c
  ·rw [c,hw.top];simp
  ·have:=hw.par _ c (by omega);omega
theorem vis_nodup {cs:List Cor} (hw:WfC cs):∀f x,x<cs.length→(vis cs f x).Nodup:=by
 intro f
 induction f with
 |zero=>intro x _;simp [vis]
 |succ f ih=>
  intro x hx
  simp only [vis]
  refine List.nodup_cons.2 ⟨fun h=>?_,?_⟩
  ·obtain ⟨k,hk,hy⟩:=List.mem_flatMap.1 h
   obtain ⟨h1,h2⟩:=hw.kid hk
   have:=(vis_up hw f k x h2 hy).2.1
   omega
  ·have hp:(kidsC cs x).Nodup:=by unfold kidsC;exact List.nodup_range.filter _
   have hm:∀k,k∈kidsC cs x→x<k∧k<cs.length∧upC cs k=x:=fun k hk=>⟨(hw.kid hk).1,(hw.kid hk).2,by rw [upC,(mem_kidsC.1 hk).2];simp⟩
   generalize kidsC cs x=ks at hp hm
   induction ks with
   |nil=>simp
   |cons k r ih2=>
    rw [List.flatMap_cons]
    obtain ⟨p1,p2⟩:=List.nodup_cons.1 hp
    rw [nodup_app']
    refine ⟨ih k (hm k (by simp)).2.1,ih2 p2 fun q hq=>hm q (by simp [hq]),fun y hy c=>?_⟩
    obtain ⟨q,hq,hyq⟩:=List.mem_flatMap.1 c
    obtain ⟨a1,a2,a3⟩:=hm k (by simp)
    obtain ⟨b1,b2,b3⟩:=hm q (by simp [hq])
    obtain ⟨_,_,n1,e1⟩:=vis_up hw f k y a2 hy
    obtain ⟨_,_,n2,e2⟩:=vis_up hw f q y b2 hyq
    have hkq:k≠q:=by rintro rfl;exact p1 hq
    have key:∀(n:Nat) (a b:Nat),a<cs.length→upC cs a=x→x<b→upN cs (n+1) a≠b:=by
     intro n a b ha hu hb c
     rw [upN_add cs a n 1] at c
     have h1:upN cs 1 a=x:=hu
     rw [h1] at c
     have:=upN_le hw n x hx
     omega
    rcases Nat.lt_trichotomy n1 n2 with c|c|c
    ·have:upN cs (n2 - n1 - 1+1) k=q:=by rw [←e1,←upN_add,show n2 - n1 - 1+1+n1=n2 by omega,e2]
     exact key _ k q a2 a3 b1 this
    ·subst c;rw [e1] at e2;exact hkq e2
    ·have:upN cs (n1 - n2 - 1+1) q=k:=by rw [←e2,←upN_add,show n1 - n2 - 1+1+n2=n1 by omega,e1]
     exact key _ q k b2 b3 a1 this
theorem vis_bound {cs:List Cor} (hw:WfC cs) (f x:Nat) (hx:x<cs.length):(vis cs f x).length≤160:=
 Nat.le_trans (nodup_bound cs.length _ (vis_nodup hw f x hx) fun y hy=>(vis_up hw f x y hx hy).1) hw.len.2
def AllO (P:OpD→Prop) (B:St):Prop:=∀p,p∈B→∀o,o∈p.2→P o
structure Told (cs:List Cor) (P:OpD→Prop):Prop where
 bare:∀o:OpD,o.name=⟨#[]⟩→o.data=[]→P o
 name:∀k i,P (ocN k (corAt cs i).name)
 data:∀i,P (ocD 1 (corAt cs i).data)
 turn:∀(o:OpD) (a:Int),P o→P {o with a:=a}
theorem mem_modify {X:Type} {l:List X} {i:Nat} {f:X→X} {y:X} (h:y∈l.modify i f):y∈l∨∃x,x∈l∧y=f x:=by
 obtain ⟨k,hk,rfl⟩:=List.mem_iff_getElem.1 h
 rw [List.length_modify] at hk
 rw [List.getElem_modify]
 split
 ·exact .inr ⟨_,List.getElem_mem hk,rfl⟩
 ·exact .inl (List.getElem_mem hk)
theorem AllO.put {P:OpD→Prop} {B:St} (h:AllO P B) {i:Nat} {o:OpD} (ho:P o):AllO P (putS B i o):=by
 intro p hp q hq
 rcases mem_modify hp with c|⟨x,hx,rfl⟩
 ·exact h p c q hq
 ·rcases List.mem_append.1 hq with d|d
  ·exact h x hx q d
  ·obtain rfl:=List.mem_singleton.1 d;exact ho
theorem AllO.set {P:OpD→Prop} {B:St} (h:AllO P B) {i k:Nat} {a:Int} (ht:∀(o:OpD) (a:Int),P o→P {o with a:=a}):AllO P (setS B i k a):=by
 intro p hp q hq
 rcases mem_modify hp with c|⟨x,hx,rfl⟩
 ·exact h p c q hq
 ·rcases mem_modify hq with d|⟨o,ho,rfl⟩
  ·exact h x hx q d
  ·exact ht o a (h x hx o ho)
theorem AllO.push {P:OpD→Prop} {B:St} (h:AllO P B) {a:Int}:AllO P (B++[(a,[])]):=by
 intro p hp q hq
 rcases List.mem_append.1 hp with c|c
 ·exact h p c q hq
 ·obtain rfl:=List.mem_singleton.1 c;cases hq
theorem AllO.end {P:OpD→Prop} {B:St} (h:AllO P B) {i:Nat} {e:Bool} (ho:P (oc0 12)):AllO P (endS B i e):=by
 cases e
 ·exact h
 ·exact h.put ho
theorem AllO.many {P:OpD→Prop} {g:Nat→St→St} {h:St→St} (hg:∀k B,AllO P B→AllO P (g k B)) (hh:∀B,AllO P B→AllO P (h B)):∀ks B,AllO P B→AllO P (manyS g h ks B):=by
 intro ks
 induction ks with
 |nil=>intro B hB;exact hB
 |cons k r ih=>intro B hB;exact ih _ (hh _ (hg k B hB))
theorem mkC_all {cs:List Cor} {P:OpD→Prop} (hP:Told cs P):∀f x i e B,AllO P B→AllO P (mkC cs f x i e B):=by
 intro f
 induction f with
 |zero=>intro x i e B h;exact h
 |succ f ih=>
  intro x i e B h
  have b0:∀k,P (oc0 k):=fun k=>hP.bare _ rfl rfl
  have bA:∀k a,P (ocA k a):=fun k a=>hP.bare _ rfl rfl
  rw [mkC]
  dsimp only
  split;· exact (h.put (hP.data x)).end (b0 _)
  split;· exact (h.put (hP.bare _ rfl rfl)).end (b0 _)
  split;· exact (h.put (hP.name _ x)).end (b0 _)
  split;· exact (ih _ _ _ _ (h.push.put (bA _ _))).end (b0 _)
  split;· exact ((ih _ _ _ _ h).put (hP.name _ x)).end (b0 _)
  split
  ·cases e
   ·exact (ih _ _ _ _ (((ih _ _ _ _ ((ih _ _ _ _ h).put (b0 _))).put (b0 _)).set hP.turn)).set hP.turn
   ·exact ih _ _ _ _ ((ih _ _ _ _ ((ih _ _ _ _ h).put (b0 _))).set hP.turn)
  split;· exact ih _ _ _ _ (AllO.many (fun k B hB=>ih _ _ _ _ hB) (fun B hB=>hB.put (b0 _)) _ _ h)
  exact (AllO.many (fun k B hB=>ih _ _ _ _ hB) (fun B hB=>hB) _ _ h).put (bA _ _)
end Go.Proofs.YtbppopcpgcgkkaaGreatDoor.E

import Derived.Test.YtggnjjalfnhiiaaGreatDoorPG7
import Derived.RecoverIn
/- Rules that reckon; how the program's structures lie in cells. Printed by mkp1.py. -/
set_option linter.unusedSectionVars false
set_option linter.unusedSimpArgs false
set_option linter.unusedVariables false
namespace Go.Proofs.YtggnjjalfnhiiaaGreatDoor.E
open Go Go.RowKit
section
variable [L:Lam]
theorem RR:(∀(v:AV) (k:AV→Prop),og (some v) k=k v)∧(∀(k p:AV→AH→Prop) (v:AV) (σ:AH),onr k p (.ret v) σ=k v σ)∧(∀(g:Bool) (x:Option AV),gval (.val (.bool true)) true g x=x)∧(∀(g:Bool) (x:Option AV),gval (.val (.bool false)) false g x=x)∧
 (∀(g:Bool) (x:Option AV),gval (.val (.bool true)) false g x=some (.tup []))∧(∀(g:Bool) (x:Option AV),gval (.val (.bool false)) true g x=some (.tup []))∧(∀(w:Bool) (x:Option AV),gval (.tup []) w true x=some (.tup []))∧
 (∀a b:AV,pickV (.val (.bool true)) a b=some a)∧(∀a b:AV,pickV (.val (.bool false)) a b=some b)∧(∀a b:Prop,apick (.val (.bool true)) a b=a)∧(∀a b:Prop,apick (.val (.bool false)) a b=b)∧
 (∀a b c:Prop,gpick (.val (.bool true)) a b c=a)∧(∀a b c:Prop,gpick (.val (.bool false)) a b c=b)∧(∀a b c:Prop,gpick (.tup []) a b c=c)∧
 (∀a b:Int,ibin .leq (.val (.int .i64 a)) (.val (.int .i64 b))=some (.val (.bool (decide (a≤b)))))∧(∀a b:Int,ibin .geq (.val (.int .i64 a)) (.val (.int .i64 b))=some (.val (.bool (decide (b≤a)))))∧
 (∀a b:Int,ibin .lss (.val (.int .i64 a)) (.val (.int .i64 b))=some (.val (.bool (decide (a<b)))))∧(∀a b:Int,ibin .gtr (.val (.int .i64 a)) (.val (.int .i64 b))=some (.val (.bool (decide (b<a)))))∧
 (∀a b:Int,ibin .eql (.val (.int .i64 a)) (.val (.int .i64 b))=some (.val (.bool (decide (a=b)))))∧(∀a b:Int,ibin .neq (.val (.int .i64 a)) (.val (.int .i64 b))=some (.val (.bool (!decide (a=b)))))∧
 (∀b:Bool,aun .not (.val (.bool b))=some (.val (.bool !b)))∧((!true)=false)∧((!false)=true)∧(decide True=true)∧(decide False=false)∧((false=true)=False)∧((true=false)=False)∧
 (∀(o:Nat) (cs:List AV) (off:Nat),fldA o (.rop cs off)=some (.rop cs (off+o)))∧(∀o φ st i off:Nat,fldA o (.ptr φ st i off)=some (.ptr φ st i (off+o)))∧(∀φ st i off:Nat,anil (.ptr φ st i off)=some (.ptr φ st i off))∧(∀(cs:List AV) (off:Nat),anil (.rop cs off)=some (.rop cs off))∧
 (∀s:ByteArray,lenStr (.val (.string s))=some (.val (.int .i64 s.size)))∧(∀n:Nat,0+n=n)∧(∀n:Nat,n+0=n)∧(∀x y:AV,cond true x y=x)∧(∀x y:AV,cond false x y=y):=by
 refine ⟨fun _ _=>id rfl,fun _ _ _ _=>id rfl,fun _ _=>id rfl,fun _ _=>id rfl,fun _ _=>id rfl,fun _ _=>id rfl,fun w _=>by cases w<;>exact id rfl,fun _ _=>id rfl,fun _ _=>id rfl,fun _ _=>id rfl,fun _ _=>id rfl,fun _ _ _=>id rfl,fun _ _ _=>id rfl,fun _ _ _=>id rfl,
  Qv1,Qv2,Qv3,Qv4,Qv5,Qv6,QxU,id rfl,id rfl,by simp,by simp,by simp,by simp,fun _ _ _=>id rfl,fun _ _ _ _ _=>id rfl,fun _ _ _ _=>id rfl,fun _ _=>id rfl,fun _=>id rfl,Nat.zero_add,Nat.add_zero,fun _ _=>id rfl,fun _ _=>id rfl⟩
theorem RG:(∀(A:Bool) (x y z:AV),cond A x (cond A y z)=cond A x z)∧(∀(A:Bool) (x y z:AV),cond A (cond A x y) z=cond A x z)∧
 (∀(B g:Bool) (y:AV),gval (.val (.bool B)) true g (some y)=some (cond B y (.tup [])))∧
 (∀(B g:Bool) (y:AV),gval (.val (.bool B)) false g (some y)=some (cond B (.tup []) y))∧
 (∀(A B:Bool) (y:AV),gval (cond A (.tup []) (.val (.bool B))) true true (some y)=some (cond A (.tup []) (cond B y (.tup []))))∧
 (∀(A B:Bool) (y:AV),gval (cond A (.val (.bool B)) (.tup [])) true true (some y)=some (cond A (cond B y (.tup [])) (.tup [])))∧
 (∀(A B:Bool) (y:AV),gval (cond A (.tup []) (.val (.bool B))) false true (some y)=some (cond A (.tup []) (cond B (.tup []) y)))∧
 (∀(A B:Bool) (y:AV),gval (cond A (.val (.bool B)) (.tup [])) false true (some y)=some (cond A (cond B (.tup []) y) (.tup [])))∧
 (∀(B g:Bool) (y z:AV) (σ:AH),gval (.val (.bool B)) true g (lod (cond B y z) σ)=gval (.val (.bool B)) true g (lod y σ))∧
 (∀(B g:Bool) (y z:AV) (σ:AH),gval (.val (.bool B)) false g (lod (cond B z y) σ)=gval (.val (.bool B)) false g (lod y σ))∧
 (∀(A B:Bool) (y z u:AV) (σ:AH),gval (cond A (.tup []) (.val (.bool B))) true true (lod (cond A u (cond B y z)) σ)=gval (cond A (.tup []) (.val (.bool B))) true true (lod y σ))∧
 (∀(A B:Bool) (y z u:AV) (σ:AH),gval (cond A (.tup []) (.val (.bool B))) false true (lod (cond A u (cond B z y)) σ)=gval (cond A (.tup []) (.val (.bool B))) false true (lod y σ))∧
 (∀(A B:Bool) (y z u:AV) (σ:AH),gval (cond A (.val (.bool B)) (.tup [])) true true (lod (cond A (cond B y z) u) σ)=gval (cond A (.val (.bool B)) (.tup [])) true true (lod y σ))∧
 (∀(A B:Bool) (y z u:AV) (σ:AH),gval (cond A (.val (.bool B)) (.tup [])) false true (lod (cond A (cond B z y) u) σ)=gval (cond A (.val (.bool B)) (.tup [])) false true (lod y σ))∧
 (∀(B g:Bool) (y z:AV) (n:Nat) (σ:AH),gval (.val (.bool B)) true g (lodA n (cond B y z) σ)=gval (.val (.bool B)) true g (lodA n y σ))∧
 (∀(B g:Bool) (y z:AV) (n:Nat) (σ:AH),gval (.val (.bool B)) false g (lodA n (cond B z y) σ)=gval (.val (.bool B)) false g (lodA n y σ))∧
 (∀(A B:Bool) (y z u:AV) (n:Nat) (σ:AH),gval (cond A (.tup []) (.val (.bool B))) true true (lodA n (cond A u (cond B y z)) σ)=gval (cond A (.tup []) (.val (.bool B))) true true (lodA n y σ))∧
 (∀(A B:Bool) (y z u:AV) (n:Nat) (σ:AH),gval (cond A (.tup []) (.val (.bool B))) false true (lodA n (cond A u (cond B z y)) σ)=gval (cond A (.tup []) (.val (.bool B))) false true (lodA n y σ))∧
 (∀(A B:Bool) (y z u:AV) (n:Nat) (σ:AH),gval (cond A (.val (.bool B)) (.tup [])) true true (lodA n (cond A (cond B y z) u) σ)=gval (cond A (.val (.bool B)) (.tup [])) true true (lodA n y σ))∧
 (∀(A B:Bool) (y z u:AV) (n:Nat) (σ:AH),gval (cond A (.val (.bool B)) (.tup [])) false true (lodA n (cond A (cond B z y) u) σ)=gval (cond A (.val (.bool B)) (.tup [])) false true (lodA n y σ))∧
 (∀(B g:Bool) (y z:AV) (n:Nat),gval (.val (.bool B)) true g (fldA n (cond B y z))=gval (.val (.bool B)) true g (fldA n y))∧
 (∀(B g:Bool) (y z:AV) (n:Nat),gval (.val (.bool B)) false g (fldA n (cond B z y))=gval (.val (.bool B)) false g (fldA n y))∧
 (∀(A B:Bool) (y z u:AV) (n:Nat),gval (cond A (.tup []) (.val (.bool B))) true true (fldA n (cond A u (cond B y z)))=gval (cond A (.tup []) (.val (.bool B))) true true (fldA n y))∧
 (∀(A B:Bool) (y z u:AV) (n:Nat),gval (cond A (.tup []) (.val (.bool B))) false true (fldA n (cond A u (cond B z y)))=gval (cond A (.tup []) (.val (.bool B))) false true (fldA n y))∧
 (∀(A B:Bool) (y z u:AV) (n:Nat),gval (cond A (.val (.bool B)) (.tup [])) true true (fldA n (cond A (cond B y z) u))=gval (cond A (.val (.bool B)) (.tup [])) true true (fldA n y))∧
 (∀(A B:Bool) (y z u:AV) (n:Nat),gval (cond A (.val (.bool B)) (.tup [])) false true (fldA n (cond A (cond B z y) u))=gval (cond A (.val (.bool B)) (.tup [])) false true (fldA n y))∧
 (∀(B g:Bool) (y z:AV) (n:Nat),gval (.val (.bool B)) true g (fldV n (cond B y z))=gval (.val (.bool B)) true g (fldV n y))∧
 (∀(B g:Bool) (y z:AV) (n:Nat),gval (.val (.bool B)) false g (fldV n (cond B z y))=gval (.val (.bool B)) false g (fldV n y))∧
 (∀(A B:Bool) (y z u:AV) (n:Nat),gval (cond A (.tup []) (.val (.bool B))) true true (fldV n (cond A u (cond B y z)))=gval (cond A (.tup []) (.val (.bool B))) true true (fldV n y))∧
 (∀(A B:Bool) (y z u:AV) (n:Nat),gval (cond A (.tup []) (.val (.bool B))) false true (fldV n (cond A u (cond B z y)))=gval (cond A (.tup []) (.val (.bool B))) false true (fldV n y))∧
 (∀(A B:Bool) (y z u:AV) (n:Nat),gval (cond A (.val (.bool B)) (.tup [])) true true (fldV n (cond A (cond B y z) u))=gval (cond A (.val (.bool B)) (.tup [])) true true (fldV n y))∧
 (∀(A B:Bool) (y z u:AV) (n:Nat),gval (cond A (.val (.bool B)) (.tup [])) false true (fldV n (cond A (cond B z y) u))=gval (cond A (.val (.bool B)) (.tup [])) false true (fldV n y))∧
 (∀(B g:Bool) (y z:AV),gval (.val (.bool B)) true g (anil (cond B y z))=gval (.val (.bool B)) true g (anil y))∧
 (∀(B g:Bool) (y z:AV),gval (.val (.bool B)) false g (anil (cond B z y))=gval (.val (.bool B)) false g (anil y))∧
 (∀(A B:Bool) (y z u:AV),gval (cond A (.tup []) (.val (.bool B))) true true (anil (cond A u (cond B y z)))=gval (cond A (.tup []) (.val (.bool B))) true true (anil y))∧
 (∀(A B:Bool) (y z u:AV),gval (cond A (.tup []) (.val (.bool B))) false true (anil (cond A u (cond B z y)))=gval (cond A (.tup []) (.val (.bool B))) false true (anil y))∧
 (∀(A B:Bool) (y z u:AV),gval (cond A (.val (.bool B)) (.tup [])) true true (anil (cond A (cond B y z) u))=gval (cond A (.val (.bool B)) (.tup [])) true true (anil y))∧
 (∀(A B:Bool) (y z u:AV),gval (cond A (.val (.bool B)) (.tup [])) false true (anil (cond A (cond B z y) u))=gval (cond A (.val (.bool B)) (.tup [])) false true (anil y))∧
 (∀(B g:Bool) (y z:AV),gval (.val (.bool B)) true g (lenS (cond B y z))=gval (.val (.bool B)) true g (lenS y))∧
 (∀(B g:Bool) (y z:AV),gval (.val (.bool B)) false g (lenS (cond B z y))=gval (.val (.bool B)) false g (lenS y))∧
 (∀(A B:Bool) (y z u:AV),gval (cond A (.tup []) (.val (.bool B))) true true (lenS (cond A u (cond B y z)))=gval (cond A (.tup []) (.val (.bool B))) true true (lenS y))∧
 (∀(A B:Bool) (y z u:AV),gval (cond A (.tup []) (.val (.bool B))) false true (lenS (cond A u (cond B z y)))=gval (cond A (.tup []) (.val (.bool B))) false true (lenS y))∧
 (∀(A B:Bool) (y z u:AV),gval (cond A (.val (.bool B)) (.tup [])) true true (lenS (cond A (cond B y z) u))=gval (cond A (.val (.bool B)) (.tup [])) true true (lenS y))∧
 (∀(A B:Bool) (y z u:AV),gval (cond A (.val (.bool B)) (.tup [])) false true (lenS (cond A (cond B z y) u))=gval (cond A (.val (.bool B)) (.tup [])) false true (lenS y))∧
 (∀(B g:Bool) (y z:AV),gval (.val (.bool B)) true g (lenStr (cond B y z))=gval (.val (.bool B)) true g (lenStr y))∧
 (∀(B g:Bool) (y z:AV),gval (.val (.bool B)) false g (lenStr (cond B z y))=gval (.val (.bool B)) false g (lenStr y))∧
 (∀(A B:Bool) (y z u:AV),gval (cond A (.tup []) (.val (.bool B))) true true (lenStr (cond A u (cond B y z)))=gval (cond A (.tup []) (.val (.bool B))) true true (lenStr y))∧
 (∀(A B:Bool) (y z u:AV),gval (cond A (.tup []) (.val (.bool B))) false true (lenStr (cond A u (cond B z y)))=gval (cond A (.tup []) (.val (.bool B))) false true (lenStr y))∧
 (∀(A B:Bool) (y z u:AV),gval (cond A (.val (.bool B)) (.tup [])) true true (lenStr (cond A (cond B y z) u))=gval (cond A (.val (.bool B)) (.tup [])) true true (lenStr y))∧
 (∀(A B:Bool) (y z u:AV),gval (cond A (.val (.bool B)) (.tup [])) false true (lenStr (cond A (cond B z y) u))=gval (cond A (.val (.bool B)) (.tup [])) false true (lenStr y))∧
 (∀(B g:Bool) (y z:AV) (o:UnOp),gval (.val (.bool B)) true g (aun o (cond B y z))=gval (.val (.bool B)) true g (aun o y))∧
 (∀(B g:Bool) (y z:AV) (o:UnOp),gval (.val (.bool B)) false g (aun o (cond B z y))=gval (.val (.bool B)) false g (aun o y))∧
 (∀(A B:Bool) (y z u:AV) (o:UnOp),gval (cond A (.tup []) (.val (.bool B))) true true (aun o (cond A u (cond B y z)))=gval (cond A (.tup []) (.val (.bool B))) true true (aun o y))∧
 (∀(A B:Bool) (y z u:AV) (o:UnOp),gval (cond A (.tup []) (.val (.bool B))) false true (aun o (cond A u (cond B z y)))=gval (cond A (.tup []) (.val (.bool B))) false true (aun o y))∧
 (∀(A B:Bool) (y z u:AV) (o:UnOp),gval (cond A (.val (.bool B)) (.tup [])) true true (aun o (cond A (cond B y z) u))=gval (cond A (.val (.bool B)) (.tup [])) true true (aun o y))∧
 (∀(A B:Bool) (y z u:AV) (o:UnOp),gval (cond A (.val (.bool B)) (.tup [])) false true (aun o (cond A (cond B z y) u))=gval (cond A (.val (.bool B)) (.tup [])) false true (aun o y))∧
 (∀(B g:Bool) (y z:AV) (o:BinOp) (w:AV),gval (.val (.bool B)) true g (ibin o (cond B y z) w)=gval (.val (.bool B)) true g (ibin o y w))∧
 (∀(B g:Bool) (y z:AV) (o:BinOp) (w:AV),gval (.val (.bool B)) false g (ibin o (cond B z y) w)=gval (.val (.bool B)) false g (ibin o y w))∧
 (∀(A B:Bool) (y z u:AV) (o:BinOp) (w:AV),gval (cond A (.tup []) (.val (.bool B))) true true (ibin o (cond A u (cond B y z)) w)=gval (cond A (.tup []) (.val (.bool B))) true true (ibin o y w))∧
 (∀(A B:Bool) (y z u:AV) (o:BinOp) (w:AV),gval (cond A (.tup []) (.val (.bool B))) false true (ibin o (cond A u (cond B z y)) w)=gval (cond A (.tup []) (.val (.bool B))) false true (ibin o y w))∧
 (∀(A B:Bool) (y z u:AV) (o:BinOp) (w:AV),gval (cond A (.val (.bool B)) (.tup [])) true true (ibin o (cond A (cond B y z) u) w)=gval (cond A (.val (.bool B)) (.tup [])) true true (ibin o y w))∧
 (∀(A B:Bool) (y z u:AV) (o:BinOp) (w:AV),gval (cond A (.val (.bool B)) (.tup [])) false true (ibin o (cond A (cond B z y) u) w)=gval (cond A (.val (.bool B)) (.tup [])) false true (ibin o y w))∧
 (∀(B g:Bool) (y z:AV) (o:BinOp) (w:AV),gval (.val (.bool B)) true g (ibin o w (cond B y z))=gval (.val (.bool B)) true g (ibin o w y))∧
 (∀(B g:Bool) (y z:AV) (o:BinOp) (w:AV),gval (.val (.bool B)) false g (ibin o w (cond B z y))=gval (.val (.bool B)) false g (ibin o w y))∧
 (∀(A B:Bool) (y z u:AV) (o:BinOp) (w:AV),gval (cond A (.tup []) (.val (.bool B))) true true (ibin o w (cond A u (cond B y z)))=gval (cond A (.tup []) (.val (.bool B))) true true (ibin o w y))∧
 (∀(A B:Bool) (y z u:AV) (o:BinOp) (w:AV),gval (cond A (.tup []) (.val (.bool B))) false true (ibin o w (cond A u (cond B z y)))=gval (cond A (.tup []) (.val (.bool B))) false true (ibin o w y))∧
 (∀(A B:Bool) (y z u:AV) (o:BinOp) (w:AV),gval (cond A (.val (.bool B)) (.tup [])) true true (ibin o w (cond A (cond B y z) u))=gval (cond A (.val (.bool B)) (.tup [])) true true (ibin o w y))∧
 (∀(A B:Bool) (y z u:AV) (o:BinOp) (w:AV),gval (cond A (.val (.bool B)) (.tup [])) false true (ibin o w (cond A (cond B z y) u))=gval (cond A (.val (.bool B)) (.tup [])) false true (ibin o w y))∧
 (∀(B g:Bool) (y z:AV) (o:BinOp) (w:AV),gval (.val (.bool B)) true g (sbin o (cond B y z) w)=gval (.val (.bool B)) true g (sbin o y w))∧
 (∀(B g:Bool) (y z:AV) (o:BinOp) (w:AV),gval (.val (.bool B)) false g (sbin o (cond B z y) w)=gval (.val (.bool B)) false g (sbin o y w))∧
 (∀(A B:Bool) (y z u:AV) (o:BinOp) (w:AV),gval (cond A (.tup []) (.val (.bool B))) true true (sbin o (cond A u (cond B y z)) w)=gval (cond A (.tup []) (.val (.bool B))) true true (sbin o y w))∧
 (∀(A B:Bool) (y z u:AV) (o:BinOp) (w:AV),gval (cond A (.tup []) (.val (.bool B))) false true (sbin o (cond A u (cond B z y)) w)=gval (cond A (.tup []) (.val (.bool B))) false true (sbin o y w))∧
 (∀(A B:Bool) (y z u:AV) (o:BinOp) (w:AV),gval (cond A (.val (.bool B)) (.tup [])) true true (sbin o (cond A (cond B y z) u) w)=gval (cond A (.val (.bool B)) (.tup [])) true true (sbin o y w))∧
 (∀(A B:Bool) (y z u:AV) (o:BinOp) (w:AV),gval (cond A (.val (.bool B)) (.tup [])) false true (sbin o (cond A (cond B z y) u) w)=gval (cond A (.val (.bool B)) (.tup [])) false true (sbin o y w))∧
 (∀(B g:Bool) (y z:AV) (o:BinOp) (w:AV),gval (.val (.bool B)) true g (sbin o w (cond B y z))=gval (.val (.bool B)) true g (sbin o w y))∧
 (∀(B g:Bool) (y z:AV) (o:BinOp) (w:AV),gval (.val (.bool B)) false g (sbin o w (cond B z y))=gval (.val (.bool B)) false g (sbin o w y))∧
 (∀(A B:Bool) (y z u:AV) (o:BinOp) (w:AV),gval (cond A (.tup []) (.val (.bool B))) true true (sbin o w (cond A u (cond B y z)))=gval (cond A (.tup []) (.val (.bool B))) true true (sbin o w y))∧
 (∀(A B:Bool) (y z u:AV) (o:BinOp) (w:AV),gval (cond A (.tup []) (.val (.bool B))) false true (sbin o w (cond A u (cond B z y)))=gval (cond A (.tup []) (.val (.bool B))) false true (sbin o w y))∧
 (∀(A B:Bool) (y z u:AV) (o:BinOp) (w:AV),gval (cond A (.val (.bool B)) (.tup [])) true true (sbin o w (cond A (cond B y z) u))=gval (cond A (.val (.bool B)) (.tup [])) true true (sbin o w y))∧
 (∀(A B:Bool) (y z u:AV) (o:BinOp) (w:AV),gval (cond A (.val (.bool B)) (.tup [])) false true (sbin o w (cond A (cond B z y) u))=gval (cond A (.val (.bool B)) (.tup [])) false true (sbin o w y))∧
 (∀(B g:Bool) (y z:AV) (n:Nat) (w:AV) (σ:AH),gval (.val (.bool B)) true g (idx n (cond B y z) w σ)=gval (.val (.bool B)) true g (idx n y w σ))∧
 (∀(B g:Bool) (y z:AV) (n:Nat) (w:AV) (σ:AH),gval (.val (.bool B)) false g (idx n (cond B z y) w σ)=gval (.val (.bool B)) false g (idx n y w σ))∧
 (∀(A B:Bool) (y z u:AV) (n:Nat) (w:AV) (σ:AH),gval (cond A (.tup []) (.val (.bool B))) true true (idx n (cond A u (cond B y z)) w σ)=gval (cond A (.tup []) (.val (.bool B))) true true (idx n y w σ))∧
 (∀(A B:Bool) (y z u:AV) (n:Nat) (w:AV) (σ:AH),gval (cond A (.tup []) (.val (.bool B))) false true (idx n (cond A u (cond B z y)) w σ)=gval (cond A (.tup []) (.val (.bool B))) false true (idx n y w σ))∧
 (∀(A B:Bool) (y z u:AV) (n:Nat) (w:AV) (σ:AH),gval (cond A (.val (.bool B)) (.tup [])) true true (idx n (cond A (cond B y z) u) w σ)=gval (cond A (.val (.bool B)) (.tup [])) true true (idx n y w σ))∧
 (∀(A B:Bool) (y z u:AV) (n:Nat) (w:AV) (σ:AH),gval (cond A (.val (.bool B)) (.tup [])) false true (idx n (cond A (cond B z y) u) w σ)=gval (cond A (.val (.bool B)) (.tup [])) false true (idx n y w σ))∧
 (∀(B g:Bool) (y z:AV) (n:Nat) (w:AV) (σ:AH),gval (.val (.bool B)) true g (idx n w (cond B y z) σ)=gval (.val (.bool B)) true g (idx n w y σ))∧
 (∀(B g:Bool) (y z:AV) (n:Nat) (w:AV) (σ:AH),gval (.val (.bool B)) false g (idx n w (cond B z y) σ)=gval (.val (.bool B)) false g (idx n w y σ))∧
 (∀(A B:Bool) (y z u:AV) (n:Nat) (w:AV) (σ:AH),gval (cond A (.tup []) (.val (.bool B))) true true (idx n w (cond A u (cond B y z)) σ)=gval (cond A (.tup []) (.val (.bool B))) true true (idx n w y σ))∧
 (∀(A B:Bool) (y z u:AV) (n:Nat) (w:AV) (σ:AH),gval (cond A (.tup []) (.val (.bool B))) false true (idx n w (cond A u (cond B z y)) σ)=gval (cond A (.tup []) (.val (.bool B))) false true (idx n w y σ))∧
 (∀(A B:Bool) (y z u:AV) (n:Nat) (w:AV) (σ:AH),gval (cond A (.val (.bool B)) (.tup [])) true true (idx n w (cond A (cond B y z) u) σ)=gval (cond A (.val (.bool B)) (.tup [])) true true (idx n w y σ))∧
 (∀(A B:Bool) (y z u:AV) (n:Nat) (w:AV) (σ:AH),gval (cond A (.val (.bool B)) (.tup [])) false true (idx n w (cond A (cond B z y) u) σ)=gval (cond A (.val (.bool B)) (.tup [])) false true (idx n w y σ))∧
 (∀(B g:Bool) (y z:AV) (w:AV),gval (.val (.bool B)) true g (idxStr (cond B y z) w)=gval (.val (.bool B)) true g (idxStr y w))∧
 (∀(B g:Bool) (y z:AV) (w:AV),gval (.val (.bool B)) false g (idxStr (cond B z y) w)=gval (.val (.bool B)) false g (idxStr y w))∧
 (∀(A B:Bool) (y z u:AV) (w:AV),gval (cond A (.tup []) (.val (.bool B))) true true (idxStr (cond A u (cond B y z)) w)=gval (cond A (.tup []) (.val (.bool B))) true true (idxStr y w))∧
 (∀(A B:Bool) (y z u:AV) (w:AV),gval (cond A (.tup []) (.val (.bool B))) false true (idxStr (cond A u (cond B z y)) w)=gval (cond A (.tup []) (.val (.bool B))) false true (idxStr y w))∧
 (∀(A B:Bool) (y z u:AV) (w:AV),gval (cond A (.val (.bool B)) (.tup [])) true true (idxStr (cond A (cond B y z) u) w)=gval (cond A (.val (.bool B)) (.tup [])) true true (idxStr y w))∧
 (∀(A B:Bool) (y z u:AV) (w:AV),gval (cond A (.val (.bool B)) (.tup [])) false true (idxStr (cond A (cond B z y) u) w)=gval (cond A (.val (.bool B)) (.tup [])) false true (idxStr y w))∧
 (∀(B g:Bool) (y z:AV) (w:AV),gval (.val (.bool B)) true g (idxStr w (cond B y z))=gval (.val (.bool B)) true g (idxStr w y))∧
 (∀(B g:Bool) (y z:AV) (w:AV),gval (.val (.bool B)) false g (idxStr w (cond B z y))=gval (.val (.bool B)) false g (idxStr w y))∧
 (∀(A B:Bool) (y z u:AV) (w:AV),gval (cond A (.tup []) (.val (.bool B))) true true (idxStr w (cond A u (cond B y z)))=gval (cond A (.tup []) (.val (.bool B))) true true (idxStr w y))∧
 (∀(A B:Bool) (y z u:AV) (w:AV),gval (cond A (.tup []) (.val (.bool B))) false true (idxStr w (cond A u (cond B z y)))=gval (cond A (.tup []) (.val (.bool B))) false true (idxStr w y))∧
 (∀(A B:Bool) (y z u:AV) (w:AV),gval (cond A (.val (.bool B)) (.tup [])) true true (idxStr w (cond A (cond B y z) u))=gval (cond A (.val (.bool B)) (.tup [])) true true (idxStr w y))∧
 (∀(A B:Bool) (y z u:AV) (w:AV),gval (cond A (.val (.bool B)) (.tup [])) false true (idxStr w (cond A (cond B z y) u))=gval (cond A (.val (.bool B)) (.tup [])) false true (idxStr w y))∧
 (∀(B g:Bool) (y z:AV) (n:Nat) (a b c:Option AV) (σ:AH),gval (.val (.bool B)) true g (slc n (cond B y z) a b c σ)=gval (.val (.bool B)) true g (slc n y a b c σ))∧
 (∀(B g:Bool) (y z:AV) (n:Nat) (a b c:Option AV) (σ:AH),gval (.val (.bool B)) false g (slc n (cond B z y) a b c σ)=gval (.val (.bool B)) false g (slc n y a b c σ))∧
 (∀(A B:Bool) (y z u:AV) (n:Nat) (a b c:Option AV) (σ:AH),gval (cond A (.tup []) (.val (.bool B))) true true (slc n (cond A u (cond B y z)) a b c σ)=gval (cond A (.tup []) (.val (.bool B))) true true (slc n y a b c σ))∧
 (∀(A B:Bool) (y z u:AV) (n:Nat) (a b c:Option AV) (σ:AH),gval (cond A (.tup []) (.val (.bool B))) false true (slc n (cond A u (cond B z y)) a b c σ)=gval (cond A (.tup []) (.val (.bool B))) false true (slc n y a b c σ))∧
 (∀(A B:Bool) (y z u:AV) (n:Nat) (a b c:Option AV) (σ:AH),gval (cond A (.val (.bool B)) (.tup [])) true true (slc n (cond A (cond B y z) u) a b c σ)=gval (cond A (.val (.bool B)) (.tup [])) true true (slc n y a b c σ))∧
 (∀(A B:Bool) (y z u:AV) (n:Nat) (a b c:Option AV) (σ:AH),gval (cond A (.val (.bool B)) (.tup [])) false true (slc n (cond A (cond B z y) u) a b c σ)=gval (cond A (.val (.bool B)) (.tup [])) false true (slc n y a b c σ))∧
 (∀(B g:Bool) (y z:AV) (a b:AV),gval (.val (.bool B)) true g (pickV (cond B y z) a b)=gval (.val (.bool B)) true g (pickV y a b))∧
 (∀(B g:Bool) (y z:AV) (a b:AV),gval (.val (.bool B)) false g (pickV (cond B z y) a b)=gval (.val (.bool B)) false g (pickV y a b))∧
 (∀(B g:Bool) (y z:AV) (a b:AV),gval (.val (.bool B)) true g (pickV a (cond B y z) b)=gval (.val (.bool B)) true g (pickV a y b))∧
 (∀(B g:Bool) (y z:AV) (a b:AV),gval (.val (.bool B)) false g (pickV a (cond B z y) b)=gval (.val (.bool B)) false g (pickV a y b))∧
 (∀(B g:Bool) (y z:AV) (a b:AV),gval (.val (.bool B)) true g (pickV a b (cond B y z))=gval (.val (.bool B)) true g (pickV a b y))∧
 (∀(B g:Bool) (y z:AV) (a b:AV),gval (.val (.bool B)) false g (pickV a b (cond B z y))=gval (.val (.bool B)) false g (pickV a b y))∧
 (∀(B g:Bool) (y z:AV) (k:IntKind),gval (.val (.bool B)) true g (UI k (cond B y z))=gval (.val (.bool B)) true g (UI k y))∧
 (∀(B g:Bool) (y z:AV) (k:IntKind),gval (.val (.bool B)) false g (UI k (cond B z y))=gval (.val (.bool B)) false g (UI k y))∧
 (∀(A B:Bool) (y z u:AV) (k:IntKind),gval (cond A (.tup []) (.val (.bool B))) true true (UI k (cond A u (cond B y z)))=gval (cond A (.tup []) (.val (.bool B))) true true (UI k y))∧
 (∀(A B:Bool) (y z u:AV) (k:IntKind),gval (cond A (.tup []) (.val (.bool B))) false true (UI k (cond A u (cond B z y)))=gval (cond A (.tup []) (.val (.bool B))) false true (UI k y))∧
 (∀(A B:Bool) (y z u:AV) (k:IntKind),gval (cond A (.val (.bool B)) (.tup [])) true true (UI k (cond A (cond B y z) u))=gval (cond A (.val (.bool B)) (.tup [])) true true (UI k y))∧
 (∀(A B:Bool) (y z u:AV) (k:IntKind),gval (cond A (.val (.bool B)) (.tup [])) false true (UI k (cond A (cond B z y) u))=gval (cond A (.val (.bool B)) (.tup [])) false true (UI k y))∧
 (∀(B C:Bool) (z:AV),pickV (.val (.bool B)) (cond B (.val (.bool C)) z) (.val (.bool false))=some (.val (.bool (B&&C))))∧
 (∀(B C:Bool) (z:AV),pickV (.val (.bool B)) (.val (.bool true)) (cond B z (.val (.bool C)))=some (.val (.bool (B||C)))):=
 ⟨fun A x y z=>by cases A<;>rfl,fun A x y z=>by cases A<;>rfl,fun B g y=>by cases B<;>rfl,
  fun B g y=>by cases B<;>rfl,
  fun A B y=>by cases A<;>cases B<;>rfl,
  fun A B y=>by cases A<;>cases B<;>rfl,
  fun A B y=>by cases A<;>cases B<;>rfl,
  fun A B y=>by cases A<;>cases B<;>rfl,
  by intro B g y z;intros;cases B<;>rfl,
  by intro B g y z;intros;cases B<;>rfl,
  by intro A B y z u;intros;cases A<;>cases B<;>rfl,
  by intro A B y z u;intros;cases A<;>cases B<;>rfl,
  by intro A B y z u;intros;cases A<;>cases B<;>rfl,
  by intro A B y z u;intros;cases A<;>cases B<;>rfl,
  by intro B g y z;intros;cases B<;>rfl,
  by intro B g y z;intros;cases B<;>rfl,
  by intro A B y z u;intros;cases A<;>cases B<;>rfl,
  by intro A B y z u;intros;cases A<;>cases B<;>rfl,
  by intro A B y z u;intros;cases A<;>cases B<;>rfl,
  by intro A B y z u;intros;cases A<;>cases B<;>rfl,
  by intro B g y z;intros;cases B<;>rfl,
  by intro B g y z;intros;cases B<;>rfl,
  by intro A B y z u;intros;cases A<;>cases B<;>rfl,
  by intro A B y z u;intros;cases A<;>cases B<;>rfl,
  by intro A B y z u;intros;cases A<;>cases B<;>rfl,
  by intro A B y z u;intros;cases A<;>cases B<;>rfl,
  by intro B g y z;intros;cases B<;>rfl,
  by intro B g y z;intros;cases B<;>rfl,
  by intro A B y z u;intros;cases A<;>cases B<;>rfl,
  by intro A B y z u;intros;cases A<;>cases B<;>rfl,
  by intro A B y z u;intros;cases A<;>cases B<;>rfl,
  by intro A B y z u;intros;cases A<;>cases B<;>rfl,
  by intro B g y z;intros;cases B<;>rfl,
  by intro B g y z;intros;cases B<;>rfl,
  by intro A B y z u;intros;cases A<;>cases B<;>rfl,
  by intro A B y z u;intros;cases A<;>cases B<;>rfl,
  by intro A B y z u;intros;cases A<;>cases B<;>rfl,
  by intro A B y z u;intros;cases A<;>cases B<;>rfl,
  by intro B g y z;intros;cases B<;>rfl,
  by intro B g y z;intros;cases B<;>rfl,
  by intro A B y z u;intros;cases A<;>cases B<;>rfl,
  by intro A B y z u;intros;cases A<;>cases B<;>rfl,
  by intro A B y z u;intros;cases A<;>cases B<;>rfl,
  by intro A B y z u;intros;cases A<;>cases B<;>rfl,
  by intro B g y z;intros;cases B<;>rfl,
  by intro B g y z;intros;cases B<;>rfl,
  by intro A B y z u;intros;cases A<;>cases B<;>rfl,
  by intro A B y z u;intros;cases A<;>cases B<;>rfl,
  by intro A B y z u;intros;cases A<;>cases B<;>rfl,
  by intro A B y z u;intros;cases A<;>cases B<;>rfl,
  by intro B g y z;intros;cases B<;>rfl,
  by intro B g y z;intros;cases B<;>rfl,
  by intro A B y z u;intros;cases A<;>cases B<;>rfl,
  by intro A B y z u;intros;cases A<;>cases B<;>rfl,
  by intro A B y z u;intros;cases A<;>cases B<;>rfl,
  by intro A B y z u;intros;cases A<;>cases B<;>rfl,
  by intro B g y z;intros;cases B<;>rfl,
  by intro B g y z;intros;cases B<;>rfl,
  by intro A B y z u;intros;cases A<;>cases B<;>rfl,
  by intro A B y z u;intros;cases A<;>cases B<;>rfl,
  by intro A B y z u;intros;cases A<;>cases B<;>rfl,
  by intro A B y z u;intros;cases A<;>cases B<;>rfl,
  by intro B g y z;intros;cases B<;>rfl,
  by intro B g y z;intros;cases B<;>rfl,
  by intro A B y z u;intros;cases A<;>cases B<;>rfl,
  by intro A B y z u;intros;cases A<;>cases B<;>rfl,
  by intro A B y z u;intros;cases A<;>cases B<;>rfl,
  by intro A B y z u;intros;cases A<;>cases B<;>rfl,
  by intro B g y z;intros;cases B<;>rfl,
  by intro B g y z;intros;cases B<;>rfl,
  by intro A B y z u;intros;cases A<;>cases B<;>rfl,
  by intro A B y z u;intros;cases A<;>cases B<;>rfl,
  by intro A B y z u;intros;cases A<;>cases B<;>rfl,
  by intro A B y z u;intros;cases A<;>cases B<;>rfl,
  by intro B g y z;intros;cases B<;>rfl,
  by intro B g y z;intros;cases B<;>rfl,
  by intro A B y z u;intros;cases A<;>cases B<;>rfl,
  by intro A B y z u;intros;cases A<;>cases B<;>rfl,
  by intro A B y z u;intros;cases A<;>cases B<;>rfl,
  by intro A B y z u;intros;cases A<;>cases B<;>rfl,
  by intro B g y z;intros;cases B<;>rfl,
  by intro B g y z;intros;cases B<;>rfl,
  by intro A B y z u;intros;cases A<;>cases B<;>rfl,
  by intro A B y z u;intros;cases A<;>cases B<;>rfl,
  by intro A B y z u;intros;cases A<;>cases B<;>rfl,
  by intro A B y z u;intros;cases A<;>cases B<;>rfl,
  by intro B g y z;intros;cases B<;>rfl,
  by intro B g y z;intros;cases B<;>rfl,
  by intro A B y z u;intros;cases A<;>cases B<;>rfl,
  by intro A B y z u;intros;cases A<;>cases B<;>rfl,
  by intro A B y z u;intros;cases A<;>cases B<;>rfl,
  by intro A B y z u;intros;cases A<;>cases B<;>rfl,
  by intro B g y z;intros;cases B<;>rfl,
  by intro B g y z;intros;cases B<;>rfl,
  by intro A B y z u;intros;cases A<;>cases B<;>rfl,
  by intro A B y z u;intros;cases A<;>cases B<;>rfl,
  by intro A B y z u;intros;cases A<;>cases B<;>rfl,
  by intro A B y z u;intros;cases A<;>cases B<;>rfl,
  by intro B g y z;intros;cases B<;>rfl,
  by intro B g y z;intros;cases B<;>rfl,
  by intro A B y z u;intros;cases A<;>cases B<;>rfl,
  by intro A B y z u;intros;cases A<;>cases B<;>rfl,
  by intro A B y z u;intros;cases A<;>cases B<;>rfl,
  by intro A B y z u;intros;cases A<;>cases B<;>rfl,
  by intro B g y z;intros;cases B<;>rfl,
  by intro B g y z;intros;cases B<;>rfl,
  by intro A B y z u;intros;cases A<;>cases B<;>rfl,
  by intro A B y z u;intros;cases A<;>cases B<;>rfl,
  by intro A B y z u;intros;cases A<;>cases B<;>rfl,
  by intro A B y z u;intros;cases A<;>cases B<;>rfl,
  by intro B g y z;intros;cases B<;>rfl,
  by intro B g y z;intros;cases B<;>rfl,
  by intro B g y z;intros;cases B<;>rfl,
  by intro B g y z;intros;cases B<;>rfl,
  by intro B g y z;intros;cases B<;>rfl,
  by intro B g y z;intros;cases B<;>rfl,
  by intro B g y z;intros;cases B<;>rfl,
  by intro B g y z;intros;cases B<;>rfl,
  by intro A B y z u;intros;cases A<;>cases B<;>rfl,
  by intro A B y z u;intros;cases A<;>cases B<;>rfl,
  by intro A B y z u;intros;cases A<;>cases B<;>rfl,
  by intro A B y z u;intros;cases A<;>cases B<;>rfl,
  fun B C z=>by cases B<;>rfl,
  fun B C z=>by cases B<;>rfl⟩
theorem QI {B:Bool} {X Y:Prop} (h1:B=true→X) (h2:B=false→Y):apick (.val (.bool B)) X Y:=by cases B with|false=>exact h2 rfl|true=>exact h1 rfl
theorem QgJ {B:Bool} {X Y Z:Prop} (h1:B=true→X) (h2:B=false→Y):gpick (.val (.bool B)) X Y Z:=by cases B with|false=>exact h2 rfl|true=>exact h1 rfl
theorem Qg6 {v:AV} {σ:AH}:lod (.rop [v] 0) σ=some v:=rfl
theorem Qan {x:AV} {xs:List AV} {σ:AH} {k:AV→AH→Prop} (hx:JF x=some xs) (h:k (.rop xs 0) σ):abox x σ fun v σ=>frz v σ k:=by
 unfold abox;rw[hx];exact fun φ hφ=>QK hφ rfl h
theorem Ji {x:AV} {zs xs:List AV} {n:Nat} {σ:AH} {k:AV→AH→Prop} (hx:JF x=some xs) (hn:xs.length=n) (hz:zs.length=n) (h1:∀y,y∈xs→y.one=true) (h:k (.rop xs 0) σ):
  new zs σ fun v σ=>sto n v x σ fun σ=>frz v σ k:=by
 intro φ hφ;refine QH (es:=[zs]) (cs:=xs) (by rw[AH.set_same,hz]) (by simp) (by simpa using hz) hx hn h1 ?_;simp only[List.set_cons_zero,AH.set_set];exact QK hφ hn h
theorem QxY {φ n sz:Nat} {es:List (List AV)} {σ:AH} {k:AV→AH→Prop} (hφ:σ φ=none) (hn:es.length=n) (hz:∀c,c∈es→c.length=sz) (h:k (.ro es) σ):frz (.own φ 0 0 n) (σ.set φ ⟨0,sz,es⟩) k:=by
 subst hn;refine ⟨.ro es,σ,.set (.refl σ) _ hφ,.own (AH.set_same ..) hφ rfl (by simp) rfl (fun i hi=>?_) (fun i j _ _=>by rw[Nat.zero_add];exact .same _),h⟩;exact hz _ (by rw[List.getD,List.getElem?_eq_getElem hi];exact List.getElem_mem hi)
theorem Qpc {z:List AV} {n sz:Nat} {ps:List (Nat × AV)} {es:List (List AV)} {σ:AH} {k:AV→AH→Prop} (he:JD sz (List.replicate n z) ps=some es) (hb:n*sz≤16777216) (hn:es.length=n) (hz:∀c,c∈es→c.length=sz)
  (h:k (.ro es) σ):bsl sz z n ps σ fun v σ=>frz v σ k:=by
 unfold bsl;rw[he];refine ⟨hb,?_⟩;split
 ·rename_i c;obtain rfl:es=[]:=List.length_eq_zero_iff.1 (by rw[hn,c]);exact ⟨.ro [],σ,.refl σ,.emp,h⟩
 ·exact fun φ hφ=>QxY hφ hn hz h
theorem Qd9 {X:Type} {r:X→AH→Prop} {f:(X→AH→Prop)→Prop} (P:X→AH→Prop) (hr:∀x σ,P x σ→r x σ) (hf:∀k:X→AH→Prop,(∀x σ,P x σ→k x σ)→f k):jn r f:=hf r hr
theorem Qq {X:Type} {enc:X→List AV} {es:List X} {sz i:Nat} {σ:AH} (h:i<es.length) (hl:∀x,(enc x).length=sz):idx sz (.ro (es.map enc)) (.val (.int .i64 (i:Int))) σ=some (.rop (enc es[i]) 0):=by
 have e:(es.map enc).getD i []=enc es[i]:=by simp[List.getD,h]
 have h1:(i:Int)<((es.map enc).length:Int):=by simp;omega
 simp only[idx,Int.toNat_natCast,e];rw[if_pos ⟨by omega,h1,hl _⟩]
theorem Qg7 {X:Type} {enc:X→List AV} {es:List X} {sz:Nat} {i:Int} {σ:AH} (h0:0≤i) (h:i.toNat<es.length) (hl:∀x,(enc x).length=sz):idx sz (.ro (es.map enc)) (.val (.int .i64 i)) σ=some (.rop (enc es[i.toNat]) 0):=by
 have:=Qq (σ:=σ) h hl
 rwa [show ((i.toNat:Nat):Int)=i by omega] at this
theorem QA {X:Type} (enc:X→List AV) (es:List X):lenS (.ro (es.map enc))=some (.val (.int .i64 (es.length:Int))):=by simp[lenS]
theorem Qin {P:Program} {f:FuncId} {first cap args:List AV} {σ:AH} {K:AEnd→AH→Prop} (h:acall P f (first++(args++cap)) σ K):Uo P (.clo (.func f) first cap) args σ K:=h
theorem QaA (a b:ByteArray):sbin .neq (.val (.string a)) (.val (.string b))=some (.val (.bool (!decide (a=b)))):=Qv9 a b
theorem Jy (a b:ByteArray):sbin .eql (.val (.string a)) (.val (.string b))=some (.val (.bool (decide (a=b)))):=Qv8 a b
structure Dat where
 kind:Int
 parent:Int
 num:Int
 name:ByteArray
 deriving Inhabited
def Qc (x:Dat):List AV:=[iv x.kind,iv x.parent,iv x.num,str x.name]
abbrev roD (xs:List Dat):AV:= .ro (xs.map Qc)
theorem Ql (x:Dat):(Qc x).length=4:=rfl
theorem Q2 (x:Dat):∀y,y∈Qc x→y.one=true:=by
 intro y hy;simp only[Qc,List.mem_cons,List.not_mem_nil,or_false] at hy;rcases hy with rfl|rfl|rfl|rfl<;>rfl
theorem QtE {x:Dat} {zs:List AV} {σ:AH} {k:AV→AH→Prop} (hz:zs.length=4) (h:k (.rop (Qc x) 0) σ):new zs σ fun v σ=>sto 4 v (.agg (Qc x)) σ fun σ=>frz v σ k:=Ji rfl rfl hz (Q2 x) h
structure OpD where
 kind:Int
 a:Int
 b:Int
 c:Int
 d:Int
 name:ByteArray
 data:List Dat
 deriving Inhabited
def Qk (x:OpD):List AV:=[iv x.kind,iv x.a,iv x.b,iv x.c,iv x.d,str x.name,roD x.data]
abbrev roO (xs:List OpD):AV:= .ro (xs.map Qk)
theorem Q5 (x:OpD):(Qk x).length=7:=rfl
theorem Qdg (x:OpD):∀y,y∈Qk x→y.one=true:=by
 intro y hy;simp only[Qk,List.mem_cons,List.not_mem_nil,or_false] at hy;rcases hy with rfl|rfl|rfl|rfl|rfl|rfl|rfl<;>rfl
theorem QjX {x:OpD} {σ:AH} {k:AV→AH→Prop} (h:k (.rop (Qk x) 0) σ):abox (.agg (Qk x)) σ fun v σ=>frz v σ k:=Qan rfl h
theorem Qp7 {x:OpD} {zs:List AV} {σ:AH} {k:AV→AH→Prop} (hz:zs.length=7) (h:k (.rop (Qk x) 0) σ):new zs σ fun v σ=>sto 7 v (.agg (Qk x)) σ fun σ=>frz v σ k:=Ji rfl rfl hz (Qdg x) h
structure Blk where
 args:Int
 ops:List OpD
 deriving Inhabited
def QC (x:Blk):List AV:=[iv x.args,roO x.ops]
abbrev roBk (xs:List Blk):AV:= .ro (xs.map QC)
theorem Jr (x:Blk):(QC x).length=2:=rfl
theorem QnT (x:Blk):∀y,y∈QC x→y.one=true:=by
 intro y hy;simp only[QC,List.mem_cons,List.not_mem_nil,or_false] at hy;rcases hy with rfl|rfl<;>rfl
theorem QnU {x:Blk} {σ:AH} {k:AV→AH→Prop} (h:k (.rop (QC x) 0) σ):abox (.agg (QC x)) σ fun v σ=>frz v σ k:=Qan rfl h
theorem QnV {x:Blk} {zs:List AV} {σ:AH} {k:AV→AH→Prop} (hz:zs.length=2) (h:k (.rop (QC x) 0) σ):new zs σ fun v σ=>sto 2 v (.agg (QC x)) σ fun σ=>frz v σ k:=Ji rfl rfl hz (QnT x) h
structure Cor where
 kind:Int
 parent:Int
 a:Int
 b:Int
 name:ByteArray
 data:List Dat
 deriving Inhabited
def Qs (x:Cor):List AV:=[iv x.kind,iv x.parent,iv x.a,iv x.b,str x.name,roD x.data]
abbrev roC (xs:List Cor):AV:= .ro (xs.map Qs)
theorem UJ (x:Cor):(Qs x).length=6:=rfl
theorem Qea (x:Cor):∀y,y∈Qs x→y.one=true:=by
 intro y hy;simp only[Qs,List.mem_cons,List.not_mem_nil,or_false] at hy;rcases hy with rfl|rfl|rfl|rfl|rfl|rfl<;>rfl
theorem QtF {x:Cor} {zs:List AV} {σ:AH} {k:AV→AH→Prop} (hz:zs.length=6) (h:k (.rop (Qs x) 0) σ):new zs σ fun v σ=>sto 6 v (.agg (Qs x)) σ fun σ=>frz v σ k:=Ji rfl rfl hz (Qea x) h
theorem RT:(∀(x:Dat) (σ:AH),lod (.rop (Qc x) 0) σ=some (iv x.kind))∧
 (∀x:Dat,fldV 0 (.agg (Qc x))=some (iv x.kind))∧
 (∀(x:Dat) (σ:AH),lod (.rop (Qc x) 1) σ=some (iv x.parent))∧
 (∀x:Dat,fldV 1 (.agg (Qc x))=some (iv x.parent))∧
 (∀(x:Dat) (σ:AH),lod (.rop (Qc x) 2) σ=some (iv x.num))∧
 (∀x:Dat,fldV 2 (.agg (Qc x))=some (iv x.num))∧
 (∀(x:Dat) (σ:AH),lod (.rop (Qc x) 3) σ=some (str x.name))∧
 (∀x:Dat,fldV 3 (.agg (Qc x))=some (str x.name))∧
 (∀(x:Dat) (σ:AH),lodA 4 (.rop (Qc x) 0) σ=some (.agg (Qc x)))∧
 (∀xs:List Dat,lenS (.ro (xs.map Qc))=some (iv (xs.length:Int)))∧
 (∀(x:OpD) (σ:AH),lod (.rop (Qk x) 0) σ=some (iv x.kind))∧
 (∀x:OpD,fldV 0 (.agg (Qk x))=some (iv x.kind))∧
 (∀(x:OpD) (σ:AH),lod (.rop (Qk x) 1) σ=some (iv x.a))∧
 (∀x:OpD,fldV 1 (.agg (Qk x))=some (iv x.a))∧
 (∀(x:OpD) (σ:AH),lod (.rop (Qk x) 2) σ=some (iv x.b))∧
 (∀x:OpD,fldV 2 (.agg (Qk x))=some (iv x.b))∧
 (∀(x:OpD) (σ:AH),lod (.rop (Qk x) 3) σ=some (iv x.c))∧
 (∀x:OpD,fldV 3 (.agg (Qk x))=some (iv x.c))∧
 (∀(x:OpD) (σ:AH),lod (.rop (Qk x) 4) σ=some (iv x.d))∧
 (∀x:OpD,fldV 4 (.agg (Qk x))=some (iv x.d))∧
 (∀(x:OpD) (σ:AH),lod (.rop (Qk x) 5) σ=some (str x.name))∧
 (∀x:OpD,fldV 5 (.agg (Qk x))=some (str x.name))∧
 (∀(x:OpD) (σ:AH),lod (.rop (Qk x) 6) σ=some (roD x.data))∧
 (∀x:OpD,fldV 6 (.agg (Qk x))=some (roD x.data))∧
 (∀(x:OpD) (σ:AH),lodA 7 (.rop (Qk x) 0) σ=some (.agg (Qk x)))∧
 (∀xs:List OpD,lenS (.ro (xs.map Qk))=some (iv (xs.length:Int)))∧
 (∀(x:Blk) (σ:AH),lod (.rop (QC x) 0) σ=some (iv x.args))∧
 (∀x:Blk,fldV 0 (.agg (QC x))=some (iv x.args))∧
 (∀(x:Blk) (σ:AH),lod (.rop (QC x) 1) σ=some (roO x.ops))∧
 (∀x:Blk,fldV 1 (.agg (QC x))=some (roO x.ops))∧
 (∀(x:Blk) (σ:AH),lodA 2 (.rop (QC x) 0) σ=some (.agg (QC x)))∧
 (∀xs:List Blk,lenS (.ro (xs.map QC))=some (iv (xs.length:Int)))∧
 (∀(x:Cor) (σ:AH),lod (.rop (Qs x) 0) σ=some (iv x.kind))∧
 (∀x:Cor,fldV 0 (.agg (Qs x))=some (iv x.kind))∧
 (∀(x:Cor) (σ:AH),lod (.rop (Qs x) 1) σ=some (iv x.parent))∧
 (∀x:Cor,fldV 1 (.agg (Qs x))=some (iv x.parent))∧
 (∀(x:Cor) (σ:AH),lod (.rop (Qs x) 2) σ=some (iv x.a))∧
 (∀x:Cor,fldV 2 (.agg (Qs x))=some (iv x.a))∧
 (∀(x:Cor) (σ:AH),lod (.rop (Qs x) 3) σ=some (iv x.b))∧
 (∀x:Cor,fldV 3 (.agg (Qs x))=some (iv x.b))∧
 (∀(x:Cor) (σ:AH),lod (.rop (Qs x) 4) σ=some (str x.name))∧
 (∀x:Cor,fldV 4 (.agg (Qs x))=some (str x.name))∧
 (∀(x:Cor) (σ:AH),lod (.rop (Qs x) 5) σ=some (roD x.data))∧
 (∀x:Cor,fldV 5 (.agg (Qs x))=some (roD x.data))∧
 (∀(x:Cor) (σ:AH),lodA 6 (.rop (Qs x) 0) σ=some (.agg (Qs x)))∧
 (∀xs:List Cor,lenS (.ro (xs.map Qs))=some (iv (xs.length:Int))):=
 ⟨fun _ _=>id rfl,fun _=>id rfl,fun _ _=>id rfl,fun _=>id rfl,fun _ _=>id rfl,fun _=>id rfl,fun _ _=>id rfl,fun _=>id rfl,fun _ _=>id rfl,QA _,fun _ _=>id rfl,fun _=>id rfl,fun _ _=>id rfl,fun _=>id rfl,fun _ _=>id rfl,fun _=>id rfl,fun _ _=>id rfl,fun _=>id rfl,fun _ _=>id rfl,fun _=>id rfl,fun _ _=>id rfl,fun _=>id rfl,fun _ _=>id rfl,fun _=>id rfl,fun _ _=>id rfl,QA _,fun _ _=>id rfl,fun _=>id rfl,fun _ _=>id rfl,fun _=>id rfl,fun _ _=>id rfl,QA _,fun _ _=>id rfl,fun _=>id rfl,fun _ _=>id rfl,fun _=>id rfl,fun _ _=>id rfl,fun _=>id rfl,fun _ _=>id rfl,fun _=>id rfl,fun _ _=>id rfl,fun _=>id rfl,fun _ _=>id rfl,fun _=>id rfl,fun _ _=>id rfl,QA _⟩
end
section
set_option maxRecDepth 100000
variable [L:Lam]
def Hold (W:List (Nat × Value)) (a:Act):Prop:=∀p,p∈W→a.tmps[p.1]? =some p.2
def QnW (W:List Nat) (o:Oper):Bool:=match o.dst with
 |some d=> !W.contains d
 |none=>true
theorem Hold.put {W:List (Nat × Value)} {a:Act} {o:Oper} (h:Hold W a) (hk:QnW (W.map (·.1)) o=true) (v:Value):Hold W (a.put o.dst v):=by
 intro p hp;have h1:=h p hp;unfold QnW at hk;cases hd:o.dst with
 |none=>exact h1
 |some d=>
  rw[hd] at hk;have hne:d≠p.1:=by
   rintro rfl;simp at hk;exact hk p.2 hp
  show (a.tmps.setIfInBounds d v)[p.1]? =_;rw[Array.getElem?_setIfInBounds_ne hne];exact h1
theorem Qwb {P:Program} {T:Tab} (hT:TabOk P T) {W:List (Nat × Value)} {ops:Array Oper} (ms:List (Nat × Nat)) (rest:List Oper):∀(i:Nat) (t:List AV) (σ:AH) (K:List AV→AH→Prop) (Kp:AV→List AV→AH→Prop),bops P T ops ms i rest t σ K Kp→
  rest.all (QnW (W.map (·.1)))=true→
  ∀(D:List Deferred) r m κ w (a:Act),Rel κ σ w→EnvR κ t a.tmps→a.defers=D→Hold W a→∀(Q:Exit→Act→World→Prop),
   (∀κ' t' σ' (a':Act) w',K t' σ'→Stp κ σ w κ' σ' w'→EnvR κ' t' a'.tmps→a'.defers=D→Hold W a'→Q .normal a' w')→
   (∀κ' v u t' σ' (a':Act) w',Kp v t' σ'→Stp κ σ w κ' σ' w'→VR κ' v u→EnvR κ' t' a'.tmps→a'.defers=D→Hold W a'→Q (.panic [{v:=u,recovered:=false}]) a' w')→
   wpListIn (FR r) m P ops Q rest a w:=by
 induction rest with
 |nil=>
  intro i t σ K Kp h _ D r m κ w a hr he hd hh Q h1 _;exact h1 κ t σ a w h (.refl hr) he hd hh
 |cons o rest ih=>
  intro i t σ K Kp h hW D r m κ w a hr he hd hh Q h1 h2;rw[List.all_cons,Bool.and_eq_true] at hW;have he:=he.fgm ms i;unfold wpListIn;have h:=Qp0 h;generalize fgm ms i t=t at h he;rcases QnD he h with ⟨hw,h⟩|⟨hw,h⟩
  ·rw[if_pos hw];refine QaS hT (Qci h) r m κ w a hr he _ _ ?_ ?_
   ·intro κ' x v σ' w' hk hs hv;refine ih (i+1) (aput t o.dst x) σ' K Kp hk hW.2 D r m κ' w' (a.put o.dst v) hs.rel ((he.mono hs.ext).put o.dst hv) (by rw[Ur,hd]) (hh.put hW.1 v) Q ?_ ?_
    ·intro κ2 t2 σ2 a2 w2 g1 g2 g3 g4 g5;exact h1 κ2 t2 σ2 a2 w2 g1 (hs.trans g2) g3 g4 g5
    ·intro κ2 v2 u2 t2 σ2 a2 w2 g1 g2 g3 g4 g5 g6;exact h2 κ2 v2 u2 t2 σ2 a2 w2 g1 (hs.trans g2) g3 g4 g5 g6
   ·intro κ' x v σ' w' hk hs hv;exact h2 κ' x v t σ' a w' hk hs hv (he.mono hs.ext) hd hh
  ·rw[if_neg (by rw[hw];decide)];exact ⟨fun _ _=>trivial,ih (i+1) (aput t o.dst (.tup [])) σ K Kp h hW.2 D r m κ w (a.put o.dst undef) hr (he.put o.dst (QgW κ)) (by rw[Ur,hd]) (hh.put hW.1 undef) Q h1 h2⟩
def swpI (W:List (Nat × Value)) (P:Program) (c:Code) (Q:QT) (t:List AV) (σ:AH):Prop:=
 ∀r m n0 κ w (a:Act),Rel κ σ w→EnvR κ t a.tmps→DF r n0 a w→Hold W a→c.wpIn (FR r) m P (fun e a' w'=>PostR κ σ w r n0 Q e a' w'∧Hold W a') a w
def linC (W:List Nat):Code→Bool
 | .skip=>true
 | .ret=>true
 | .region _ ops false=>ops.toList.all (QnW W)
 | .seq a b=>linC W a&&linC W b
 |_=>false
section
variable {P:Program} {T:Tab} {W:List (Nat × Value)} {R:AEnd→AH→Prop}
theorem Qwc {c:Code} {Q:QT} {t t2:List AV} {σ σ':AH} {a v':AV} (hs:AH.Sub σ' σ) (hf:Fz σ' σ a v') (hl:t2.length=t.length)
  (ht:∀i,i<t.length→t2.getD i .any=t.getD i .any∨(t.getD i .any=a∧t2.getD i .any=v')) (h:swpI W P c Q t2 σ'):swpI W P c Q t σ:=by
 intro r m n0 κ w act hr he hd hh;obtain ⟨k1,k2⟩:=Qbh (κ:=κ) (w:=w) hs hr;have he2:EnvR (kapF σ' σ κ w) t2 act.tmps:=by
  refine ⟨hl.trans he.size,fun i hi=>?_⟩;rcases ht i (by omega) with e|⟨e1,e2⟩
  ·rw[e];exact (he.at i).mono k1.ext
  ·rw[e2];exact k2 _ _ _ hf (e1▸he.at i)
 refine Code.wpIn_mono ?_ (h r m n0 _ w act k1.rel he2 hd hh);exact fun _ _ _ hp=>⟨PostR.mono k1 (fun _ _ _ h=>h) hp.1,hp.2⟩
theorem Qwd {c:Code} {Q:QT} {K:List SV→Nat→Sx→Bool} {ks:List Kont} (hK:∀t ρ x σ,K t ρ.length x=true→WF ρ.length t→den P T R x ρ ks σ→swpI W P c Q (t.map (dv ρ)) σ):
  ∀(x:Sx) (t:List SV) (ρ:List AV) (σ:AH),peel K x t ρ.length=true→WF ρ.length t→den P T R x ρ ks σ→swpI W P c Q (t.map (dv ρ)) σ:=by
 intro x
 induction x with
 |frz n x k ih=>
  intro t ρ σ h hw hd;simp only[peel,Bool.and_eq_true] at h;obtain ⟨⟨h1,h2⟩,h3⟩:=h;simp only[den] at hd;obtain ⟨v',σ',g1,g2,g3⟩:=hd;rw[Qp h1] at g2;refine Qwc (t2:=(rplS n ρ.length t).map (dv (v'::ρ))) g1 g2 (by simp[QmB]) (fun i hi=>Qpb hw i (by simpa using hi)) ?_;exact ih _ (v'::ρ) σ' h3 (Qpa hw) g3
 |_=>intro t ρ σ h hw hd;exact hK t ρ _ σ h hw hd
theorem Qrx {x y:Code} {Q:QT} {t:List AV} {σ:AH} (h:swpI W P x (fun z t σ=>match z with| .normal=>swpI W P y Q t σ|z=>Q z t σ) t σ):swpI W P (.seq x y) Q t σ:=by
 intro r m n0 κ w a hr he hd hh;refine wpIn_seq (Code.wpIn_mono ?_ (h r m n0 κ w a hr he hd hh));rintro e a' w' ⟨⟨κ',z,t',σ',h1,h2,h3,h4,h5⟩,h6⟩;cases e<;>cases z<;>try exact h5.elim
 ·exact Code.wpIn_mono (fun _ _ _ hp=>⟨PostR.mono h2 (fun _ _ _ h=>h) hp.1,hp.2⟩) (h1 r m n0 κ' w' a' h2.rel h3 h4 h6)
 all_goals exact ⟨⟨κ',_,t',σ',h1,h2,h3,h4,h5⟩,h6⟩
theorem QxZ (hT:TabOk P T) (c:Code):linC (W.map (·.1)) c=true→∀(R:AEnd→AH→Prop) (p:Nat) (t:List SV) (ρ:List AV) (K:KS) (x:Sx) (Q:QT) (ks:List Kont) (σ:AH),okC T p c t ρ.length ks.length K x=true→WF ρ.length t→den P T R x ρ ks σ→
  (∀ax t' ρ' ks' x' σ',(∃pre,ks'=pre++ks)→K ax t' ρ'.length ks'.length x'=true→WF ρ'.length t'→den P T R x' ρ' ks' σ'→Q ax.up (t'.map (dv ρ')) σ')→(∀v a σ,apan v σ R→Q (.pan v) a σ)→
  swpI W P c Q (t.map (dv ρ)) σ:=by
 induction c with
 |skip=>intro _ R p t ρ K x Q ks σ h hw hd hK hP;exact fun _ _ _ κ _ _ hr he hde hh=>wpIn_skip ⟨⟨κ,.normal,_,σ,hK .normal t ρ ks x σ ⟨[],rfl⟩ h hw hd,.refl hr,he,hde,trivial⟩,hh⟩
 |ret=>intro _ R p t ρ K x Q ks σ h hw hd hK hP;exact fun _ _ _ κ _ _ hr he hde hh=>wpIn_ret ⟨⟨κ,.ret,_,σ,hK .ret t ρ ks x σ ⟨[],rfl⟩ h hw hd,.refl hr,he,hde,trivial⟩,hh⟩
 |region id ops draw=>
  intro hl R p t ρ K x Q ks σ h hw hd hK hP;cases draw with
  |true=>cases hl
  |false=>
   refine Qwd ?_ x t ρ σ h hw hd;clear h hw hd x t ρ σ;intro t ρ x σ h hw hd;have hKb:∀a σ,Goes P T R ks (fun t d x=>K .normal t d ks.length x) a σ→Q .normal a σ:=by
    rintro a σ ⟨ρ',t',x',g1,g2,rfl,g3⟩;exact hK .normal t' ρ' ks x' σ ⟨[],rfl⟩ g1 g2 g3
   have hb:=Qrq (Kp:=fun v a σ=>Q (.pan v) a σ) hKb hP ops.toList 0 _ σ ⟨ρ,t,x,h,hw,rfl,hd⟩;intro r m n0 κ w a hr he hde hh;refine wpIn_region_list (Qwb hT [] ops.toList 0 _ σ _ _ hb hl a.defers r m κ w a hr he rfl hh _ ?_ ?_)
   ·intro κ' t' σ' a' w' hk hs he' hd' hh';exact ⟨⟨κ',.normal,t',σ',hk,hs,he',hde.stp hr hs hd',trivial⟩,hh'⟩
   ·intro κ' v u t' σ' a' w' hk hs hv he' hd' hh';exact ⟨⟨κ',.pan v,t',σ',hk,hs,he',hde.stp hr hs hd',u,rfl,hv⟩,hh'⟩
 |seq a b iha ihb=>
  intro hl R p t ρ K x Q ks σ h hw hd hK hP;simp only[linC,Bool.and_eq_true] at hl;simp only[okC] at h;split at h
  ·rename_i ls r k hj;unfold isJn at hj;split at hj
   case h_2=>cases hj
   split at hj
   case h_2=>cases hj
   cases hj
   simp only[Bool.and_eq_true] at h;obtain ⟨h1,h2⟩:=h;simp only[den,jn] at hd;refine Qrx (iha hl.1 R (2*p) t ρ _ k _ (_::ks) σ h1 hw hd ?_ (fun v a σ g=>hP v a σ g));rintro ax t' ρ' ks' x' σ' ⟨pre,hpre⟩ g1 g2 g3;cases ax with
   |normal=>
    obtain ⟨l1,l2⟩:=Qo9 g1 hpre g3;simp only[QeA] at l2;have hb:=ihb hl.2 R (2*p+1) (expS ls (Qak t)) (tupL ls (Qby (t'.map (dv ρ')) ls)) K r Q ks σ' (by rw[Ux];exact h2) (by rw[Ux];exact Qle ls _ (QfD _ t) (Nat.le_refl _)) l2 hK hP;have e:=Qik ls [] (Qby (t'.map (dv ρ')) ls) (Qak t);simp only[List.nil_append] at e;rw[e,Qd7] at hb;intro r m n0 κ w a hr he hde;refine hb r m n0 κ w a hr (Qg1 he ls _ (Qmu ?_)) hde;have:=he.size;simp only[List.length_map] at this ⊢;omega
   |exit id=>exact hK (.exit id) t' ρ' ks' x' σ' ⟨pre++[_],by rw[hpre,List.append_assoc];rfl⟩ g1 g2 g3
   |ret=>exact hK .ret t' ρ' ks' x' σ' ⟨pre++[_],by rw[hpre,List.append_assoc];rfl⟩ g1 g2 g3
  ·refine Qrx (iha hl.1 R (2*p) t ρ _ x _ ks σ h hw hd ?_ (fun v a σ g=>hP v a σ g));rintro ax t' ρ' ks' x' σ' ⟨pre,hpre⟩ g1 g2 g3;cases ax with
   |normal=>
    refine ihb hl.2 R (2*p+1) t' ρ' K x' Q ks' σ' g1 g2 g3 ?_ hP;rintro ax t2 ρ2 ks2 x2 σ2 ⟨pre2,hpre2⟩ q1 q2 q3;exact hK ax t2 ρ2 ks2 x2 σ2 ⟨pre2++pre,by rw[hpre2,hpre,List.append_assoc]⟩ q1 q2 q3
   |exit id=>exact hK (.exit id) t' ρ' ks' x' σ' ⟨pre,hpre⟩ g1 g2 g3
   |ret=>exact hK .ret t' ρ' ks' x' σ' ⟨pre,hpre⟩ g1 g2 g3
 |_=>intro hl;cases hl
end
end
section
set_option maxRecDepth 100000
variable [L:Lam]
section
variable {P:Program} {T:Tab} {R:AEnd→AH→Prop}
def RD (φa φb:Nat) (tF:TypeId) (R:AEnd→AH→Prop):AEnd→AH→Prop:=fun e σ=>match e with
 | .ret v=>R (.ret v) σ
 | .pan v=>∃(c:Int) (x y:AV),v= .ifc tF (.agg [.val (.int .i64 c)])∧σ φa=some ⟨0,1,[[x]]⟩∧σ φb=some ⟨0,1,[[y]]⟩∧R (.ret (.tup [.val (.slice none 0 0),.val (.int .i64 c)])) ((σ.set φa ⟨0,1,[[.val (.slice none 0 0)]]⟩).set φb ⟨0,1,[[.val (.int .i64 c)]]⟩)
structure Catch (P:Program) (g:FuncId) (tF:TypeId):Prop where
 fn : ∃ gfn, P.funcs[g]? = some gfn ∧ gfn.body.isNone = false ∧ (gfn.name == "runtime.NumGoroutine") = false
 idle:∀(v2 v3:Value) (w:World),CallsDIn (FR none) 0 P g #[v2,v3] .returning w fun e u' w'=>(∃t,e= .returned t)∧u'= .returning∧∃o,w'=w.alloc o
 caught:∀(κ:Kap) (σ:AH) (w:World) (c:Int) (φa φb:Nat) (x y:AV) (v2 v3:Value),Rel κ σ w→VR κ (.ptr φa 0 0 0) v2→VR κ (.ptr φb 0 0 0) v3→φa≠φb→σ φa=some ⟨0,1,[[x]]⟩→σ φb=some ⟨0,1,[[y]]⟩→
  CallsDIn (FR none) 0 P g #[v2,v3] (.panicking [{v:= .iface tF (.agg #[.int .i64 c]),recovered:=false}]) w fun e u' w'=>(∃t,e= .returned t)∧settle u'= .returning∧
   ∃κ',Stp κ σ w κ' ((σ.set φa ⟨0,1,[[.val (.slice none 0 0)]]⟩).set φb ⟨0,1,[[.val (.int .i64 c)]]⟩) w'
instance:Inhabited TI:=⟨⟨.struct #[],0,0,.agg #[],false⟩⟩
theorem Qwe {o:Oper} {a:Act} {w:World} {g:FuncId} {v2 v3:Value} {d:Nat} {next:Act→World→Prop} {Q:Exit→Act→World→Prop} (ho:o.op= .defer {callee:= .value (.tmp d),args:=#[],argTypes:=#[]}) (hd:o.dst=none) (ha:a.eval (.tmp d)= .func (.func g) #[] #[v2,v3])
  (h:next {a with defers:={target:= .fn (.func g) #[v2,v3],args:=#[]}::a.defers} w):o.wpIn (FR none) 0 P a w next Q:=by
 simp only[Act.eval] at ha;unfold Oper.wpIn;simp[Oper.uponIn,execOp,ho,resolve,go_sem,ha,hd];simpa using h
theorem Qx0 {o:Oper} {a:Act} {w:World} {g:FuncId} {v2 v3:Value} {d2 d3:Nat} {next:Act→World→Prop} {Q:Exit→Act→World→Prop} (ho:o.op= .makeFunc (.func g) #[] #[.tmp d2,.tmp d3]) (h2:a.eval (.tmp d2)=v2) (h3:a.eval (.tmp d3)=v3)
  (h:next (a.put o.dst (.func (.func g) #[] #[v2,v3])) w):o.wpIn (FR none) 0 P a w next Q:=by
 simp only[Act.eval] at h2 h3;unfold Oper.wpIn;have hmf:Sem.run P (Instr.makeFunc (.func g) #[] #[v2,v3]) w= .ok (.func (.func g) #[] #[v2,v3]) w:=rfl;simp[Oper.uponIn,execOp,ho,go_sem,h2,h3,hmf];exact h
set_option maxHeartbeats 2000000 in
theorem Qp8 (hT : TabOk P T) {f : FuncId} {fn : Func} {args : List AV} {σ : AH} (hf : P.funcs[f]? = some fn) (hn : (fn.name == "runtime.NumGoroutine") = false) {iA iB : Nat} {oA oB oF oD : Oper} {C : Code} (x : Sx)
   (hb:fn.body=some ((Code.region iA #[oA,oB] false).seq ((Code.region iB #[oF,oD] false).seq C))) {tA tB tF:TypeId} {dA dB dF g:Nat} {nA nB:TI}
   (hA:oA.op= .alloc tA∧oA.dst=some dA∧oA.guard=none) (hB:oB.op= .alloc tB∧oB.dst=some dB∧oB.guard=none)
   (hF:oF.op= .makeFunc (.func g) #[] #[.tmp dA,.tmp dB]∧oF.dst=some dF∧oF.guard=none) (hD:oD.op= .defer {callee:= .value (.tmp dF),args:=#[],argTypes:=#[]}∧oD.dst=none∧oD.guard=none)
   (hTA:T tA=some nA) (hTB:T tB=some nB) (hzA:nA.zero.cells=#[.slice none 0 0]) (hzB:nB.zero.cells=#[.int .i64 0]) (hrs:fn.results.toList=[.cell dA tA,.cell dB tB]) (hnA:nA.size=1∧Un nA.under=false) (hnB:nB.size=1∧Un nB.under=false)
   (hd3:dA≠dB∧dA≠dF∧dB≠dF∧dA<fn.ntmps∧dB<fn.ntmps∧dF<fn.ntmps) (hc:Catch P g tF)
   (h:okC T 1 C ((((QfE args.length fn.ntmps).set dA (.var args.length)).set dB (.var (args.length+1))).set dF .any) (args.length+2) 0 (endK T fn.results.toList) x=true) (hl:linC [dA,dB] C=true)
   (hd:∀φa φb,σ φa=none→(σ.set φa ⟨0,1,[[.val (.slice none 0 0)]]⟩) φb=none→den P T (RD φa φb tF R) x (.ptr φb 0 0 0:: .ptr φa 0 0 0::args.reverse) [] ((σ.set φa ⟨0,1,[[.val (.slice none 0 0)]]⟩).set φb ⟨0,1,[[.val (.int .i64 0)]]⟩)):
   acall P f args σ R:=by
 refine ⟨fn,hf,by rw[hb];rfl,hn,fun κ w vs hr hv=>?_⟩;refine (Qd3 (r:=none) (n:=0)).1 (callsIn_of_wp_marks (F:=FR none) (n:=0) hf hb trivial ?_ rfl);have he:EnvR κ (pad fn.ntmps args) (vs.toArray++Array.replicate (fn.ntmps - vs.toArray.size) undef):=by
   refine .ofList ?_;have:(vs.toArray++Array.replicate (fn.ntmps - vs.toArray.size) undef).toList=vs++List.replicate (fn.ntmps - args.length) undef:=by simp[hv.1]
   rw[this];refine hv.append ⟨by simp,fun i hi=>?_⟩;have hi':i<fn.ntmps - args.length:=by simpa using hi
   simp only[List.getD,List.getElem?_replicate,hi',if_true,Option.getD_some];exact QgW κ
 have hlen:(pad fn.ntmps args).length=fn.ntmps∨fn.ntmps<args.length:=by unfold pad;simp;omega
 have hbops:bops P T #[oA,oB] [] 0 [oA,oB] (pad fn.ntmps args) σ (fun t σ'=>∃φa φb,σ φa=none∧(σ.set φa ⟨0,1,[[.val (.slice none 0 0)]]⟩) φb=none∧t=((pad fn.ntmps args).set dA (.ptr φa 0 0 0)).set dB (.ptr φb 0 0 0)∧σ'=(σ.set φa ⟨0,1,[[.val (.slice none 0 0)]]⟩).set φb ⟨0,1,[[.val (.int .i64 0)]]⟩) (fun _ _ _=>False):=by
   simp only[bops,hA.1,hB.1,hA.2.1,hB.2.1,hA.2.2,hB.2.2,Qbi,bgd,bop,hTA,hTB,hzA,hzB,onr,fgm,lk,aput];intro φa h1 φb h2;exact ⟨φa,φb,h1,h2,rfl,rfl⟩
 refine wpIn_seq (wpIn_region_list (QsK hT [] [oA,oB] 0 _ σ _ _ hbops [] none 0 κ w _ hr he rfl _ ?_ (fun _ _ _ _ _ _ _ h=>h.elim)));rintro κ1 _ _ a1 w1 ⟨φa,φb,hφa,hφb,rfl,rfl⟩ hs1 he1 hd1;have hlt:dA<(pad fn.ntmps args).length∧dB<(pad fn.ntmps args).length:=by unfold pad;simp;omega
 have hva:VR κ1 (.ptr φa 0 0 0) (a1.tmps.getD dA undef):=by
   have:=he1.at dA;rw[show (((pad fn.ntmps args).set dA (.ptr φa 0 0 0)).set dB (.ptr φb 0 0 0)).getD dA .any= .ptr φa 0 0 0 by rw[List.getD,List.getElem?_set_ne hd3.1.symm,List.getElem?_set_self hlt.1];rfl] at this;exact this
 have hvb:VR κ1 (.ptr φb 0 0 0) (a1.tmps.getD dB undef):=by
   have:=he1.at dB;rw[show (((pad fn.ntmps args).set dA (.ptr φa 0 0 0)).set dB (.ptr φb 0 0 0)).getD dB .any= .ptr φb 0 0 0 by rw[List.getD,List.getElem?_set_self (by rw[List.length_set];exact hlt.2)];rfl] at this;exact this
 generalize hv2:a1.tmps.getD dA undef=v2 at hva;generalize hv3:a1.tmps.getD dB undef=v3 at hvb;have hsz:a1.tmps.size=(pad fn.ntmps args).length:=by have:=he1.size;simpa using this.symm
 have hne:φa≠φb:=by rintro rfl;rw[AH.set_same] at hφb;cases hφb
 refine wpIn_seq (wpIn_region_list ?_);have hwF:Region.wanted oF (yielded #[oF,oD] a1.tmps)=true:=by simp[Region.wanted,hF.2.2]
 have hwD:∀t,Region.wanted oD (yielded #[oF,oD] t)=true:=fun t=>by simp[Region.wanted,hD.2.2]
 have hdF:dF<a1.tmps.size:=by rw[hsz];unfold pad;simp;omega
 show wpListIn (FR none) 0 P #[oF,oD] _ [oF,oD] a1 w1;unfold wpListIn;rw[if_pos hwF];refine Qx0 (v2:=v2) (v3:=v3) hF.1 (by simpa[Act.eval] using hv2) (by simpa[Act.eval] using hv3) ?_;unfold wpListIn;rw[if_pos (hwD _)];refine Qwe (v2:=v2) (v3:=v3) (g:=g) hD.1 hD.2.1 (by rw[hF.2.1];simp[Act.eval,Act.put,hdF]) ?_;unfold wpListIn;rw[hF.2.1];show Code.wpIn _ _ _ _ _ _ _;generalize ha2:({a1.put (some dF) (.func (.func g) #[] #[v2,v3]) with defers:={target:= .fn (.func g) #[v2,v3],args:=#[]}::(a1.put (some dF) (.func (.func g) #[] #[v2,v3])).defers}:Act)=a2;have hdef:a2.defers=[{target:= .fn (.func g) #[v2,v3],args:=#[]}]:=by rw[←ha2];show _::(a1.put _ _).defers=_;rw[Ur,hd1]
 have htm:a2.tmps=a1.tmps.setIfInBounds dF (.func (.func g) #[] #[v2,v3]):=by rw[←ha2];rfl
 have he2:EnvR κ1 ((((pad fn.ntmps args).set dA (.ptr φa 0 0 0)).set dB (.ptr φb 0 0 0)).set dF .any) a2.tmps:=by rw[htm];exact he1.set dF (.any _)
 have hh2:Hold [(dA,v2),(dB,v3)] a2:=by
   intro p hp;rw[htm];simp only[List.mem_cons,List.not_mem_nil,or_false] at hp;have hd:∀d,d<a1.tmps.size→a1.tmps[d]? =some (a1.tmps.getD d undef):=fun d hd=>by simp[Array.getD,hd]
   rcases hp with rfl|rfl
   · rw[Array.getElem?_setIfInBounds_ne (Ne.symm hd3.2.1),hd dA (by rw[hsz];exact hlt.1),hv2]
   · rw[Array.getElem?_setIfInBounds_ne (Ne.symm hd3.2.2.1),hd dB (by rw[hsz];exact hlt.2),hv3]
 have hmap:(((((QfE args.length fn.ntmps).set dA (.var args.length)).set dB (.var (args.length+1))).set dF .any).map (dv (.ptr φb 0 0 0:: .ptr φa 0 0 0::args.reverse)))=(((pad fn.ntmps args).set dA (.ptr φa 0 0 0)).set dB (.ptr φb 0 0 0)).set dF .any:=by
   rw[List.map_set,List.map_set,List.map_set];have e0:(QfE args.length fn.ntmps).map (dv (.ptr φb 0 0 0:: .ptr φa 0 0 0::args.reverse))=pad fn.ntmps args:=by
     rw[←Qp5];refine List.map_congr_left fun s hs=>?_
     have hlt:=QmC args.length fn.ntmps s hs;rw[QcP _ (by simpa using SV.lt_mono hlt (Nat.le_succ _)),QcP _ (by simpa using hlt)]
   have e1:dv (.ptr φb 0 0 0:: .ptr φa 0 0 0::args.reverse) (.var args.length)= .ptr φa 0 0 0:=by simp[dv]
   have e2:dv (.ptr φb 0 0 0:: .ptr φa 0 0 0::args.reverse) (.var (args.length+1))= .ptr φb 0 0 0:=by simp[dv]
   rw[e0,e1,e2];rfl
 have hwf:WF (args.length+2) ((((QfE args.length fn.ntmps).set dA (.var args.length)).set dB (.var (args.length+1))).set dF .any):=by
   intro s hs;rcases List.mem_or_eq_of_mem_set hs with hs|rfl
   · rcases List.mem_or_eq_of_mem_set hs with hs|rfl
     · rcases List.mem_or_eq_of_mem_set hs with hs|rfl
       · exact SV.lt_mono (QmC _ _ s hs) (by omega)
       · exact Nat.lt_succ_of_lt (Nat.lt_succ_self _)
     · exact Nat.lt_succ_self _
   · trivial
 have hlr:(.ptr φb 0 0 0:: .ptr φa 0 0 0::args.reverse:List AV).length=args.length+2:=by simp
 have hsC:swpI [(dA,v2),(dB,v3)] P C (bqq T fn.results.toList (RD φa φb tF R)) ((((pad fn.ntmps args).set dA (.ptr φa 0 0 0)).set dB (.ptr φb 0 0 0)).set dF .any) ((σ.set φa ⟨0,1,[[.val (.slice none 0 0)]]⟩).set φb ⟨0,1,[[.val (.int .i64 0)]]⟩):=by
   rw[←hmap];refine QxZ (W:=[(dA,v2),(dB,v3)]) hT C hl (RD φa φb tF R) 1 _ (.ptr φb 0 0 0:: .ptr φa 0 0 0::args.reverse) _ x _ [] _ (by rw[hlr];exact h) (by rw[hlr];exact hwf) (hd φa φb hφa hφb) ?_ (fun v a σ g=>g);intro ax t' ρ' ks' x' σ' _ g1 g2 g3;cases ax with
   |normal=>exact Qil g1 g2 g3
   |ret=>exact Qil g1 g2 g3
   |exit id=>cases g1
 refine Code.wpIn_mono ?_ (hsC none 0 (w1.heap.size,[{target:= .fn (.func g) #[v2,v3],args:=#[]}]) κ1 w1 a2 hs1.rel he2 ⟨Nat.le_refl _,⟨[],by rw[hdef];rfl,(fun d hd=>by cases hd),.nil⟩,(fun l hl=>by cases hl)⟩ hh2);rintro e a w' ⟨⟨κ',x,t',σ',h1,h2,h3,h4,h5⟩,h6⟩;obtain ⟨ms,m1,m2,m3⟩:=h4.mark;have hcall:∀{u:FrameMode} {w2:World} {R':Ending→World→Prop},u≠ .run→CallsDIn (FR none) 0 P g #[v2,v3] u w2 (fun
         | .returned _,u',w'=>LeavesInM (FR none) 0 P fn a.tmps R' [] (settle u') w'
         | .panicked chain,u',w'=>LeavesInM (FR none) 0 P fn a.tmps R' [] (raised u' chain) w'
         | .outgrown,_,w'=>R' .outgrown w')→LeavesInM (FR none) 0 P fn a.tmps R' [{target:= .fn (.func g) #[v2,v3],args:=#[]}] u w2:=by
   intro u w2 R' hu hk;refine ⟨hu,.inr ⟨(fun h=>by cases h),.func g,#[v2,v3],g,#[v2,v3],rfl,?_,(fun _ _=>trivial),hk⟩⟩;obtain ⟨gfn,q1,q2,q3⟩:=hc.fn;simp only[invoke,callFunc,Sem.run_bind,Sem.run_pure,Result.andThen_ok,run_program,q1,q2,q3,Bool.false_eq_true,if_false];rfl
 have fin:∀(hq:og (ares T fn.results.toList t' σ') fun v=>aret v σ' (RD φa φb tF R)),LeavesInM (FR none) 0 P fn a.tmps (fun e w'=>∃κ' ae σ',R ae σ'∧Stp κ σ w κ' σ' w'∧EdR κ' ae e) a.defers .returning w':=by
   intro hq;obtain ⟨v,hv1,v',σ'',hi,hR⟩:=Ud hq;rw[m1];refine Qcl (by simp) hs1.rel ms _ h2 m2 m3 fun w2 r2=>hcall (by simp) ?_
   refine (hc.idle v2 v3 w2).mono ?_;rintro e u' w3 ⟨⟨tt,rfl⟩,rfl,o,rfl⟩;have r3:=r2.lay o;obtain ⟨u,g1,g2⟩:=QgI hT (w:=w2.alloc o) r3.rel h3 hv1;obtain ⟨κ2,k1,k2⟩:=hi κ' _ u r3.rel g2;exact ⟨u,g1,κ2,.ret v',σ'',hR,(hs1.trans r3).trans k1,k2⟩
 cases e<;>cases x<;>try exact h5.elim
 · exact fin (Qlb h1)
 · exact h1.elim
 · exact fin (Qlb h1)
 · obtain ⟨u,rfl,hv⟩:=h5
   obtain ⟨v',σ'',hi,hR⟩:=h1;show LeavesInM (FR none) 0 P fn a.tmps _ a.defers _ w';rw[m1];refine Qcl (by simp) hs1.rel ms _ h2 m2 m3 fun w2 r2=>?_
   obtain ⟨κ2,k1,k2⟩:=hi κ' w2 u r2.rel hv;obtain ⟨c,x,y,rfl,e1,e2,hR⟩:=hR;have hu:u= .iface tF (.agg #[.int .i64 c]):=by
     cases k2 with
     |ifc k=>
       cases k with
       |agg hl hh=>
         rename_i vs;match vs,hl with
         |[v1],_=>
           have:=hh 0 (by simp);cases this;rfl
   subst hu;have hS:=hs1.trans (r2.trans k1);refine hcall (by simp) ((hc.caught κ2 σ'' w2 c φa φb x y v2 v3 hS.rel (hva.mono (r2.trans k1).ext) (hvb.mono (r2.trans k1).ext) hne e1 e2).mono ?_);rintro e u' w3 ⟨⟨tt,rfl⟩,hu',κ3,hS3⟩;show LeavesInM (FR none) 0 P fn a.tmps _ [] (settle u') w3;rw[hu'];have heX:EnvR κ3 (((List.replicate a.tmps.size AV.any).set dA (.ptr φa 0 0 0)).set dB (.ptr φb 0 0 0)) a.tmps:=by
     have hat:∀d v,(d,v)∈[(dA,v2),(dB,v3)]→d<a.tmps.size∧a.tmps.getD d undef=v:=fun d v hm=>by
       have:=h6 (d,v) hm;obtain ⟨k1,k2⟩:=Array.getElem?_eq_some_iff.1 this;exact ⟨k1,by rw[Array.getD_eq_getD_getElem?,this];rfl⟩
     obtain ⟨a1,a2⟩:=hat dA v2 (by simp);obtain ⟨b1,b2⟩:=hat dB v3 (by simp);refine ⟨by simp,fun i hi=>?_⟩;have hi':i<a.tmps.size:=by simpa using hi
     by_cases cB:dB=i
     · subst cB
       rw[List.getD,List.getElem?_set_self (by simpa using hi'),Option.getD_some,b2];exact hvb.mono ((r2.trans k1).ext.trans hS3.ext)
     · rw[List.getD,List.getElem?_set_ne cB]
       by_cases cA:dA=i
       · subst cA
         rw[List.getElem?_set_self (by simpa using hi'),Option.getD_some,a2];exact hva.mono ((r2.trans k1).ext.trans hS3.ext)
       · rw[List.getElem?_set_ne cA]
         simp only[List.getElem?_replicate,hi',if_true,Option.getD_some];exact .any _
   have hres:ares T fn.results.toList (((List.replicate a.tmps.size AV.any).set dA (.ptr φa 0 0 0)).set dB (.ptr φb 0 0 0)) ((σ''.set φa ⟨0,1,[[.val (.slice none 0 0)]]⟩).set φb ⟨0,1,[[.val (.int .i64 c)]]⟩)=some (.tup [.val (.slice none 0 0),.val (.int .i64 c)]):=by
     have hA2:dA<a.tmps.size:=(Array.getElem?_eq_some_iff.1 (h6 (dA,v2) (by simp))).1;have hB2:dB<a.tmps.size:=(Array.getElem?_eq_some_iff.1 (h6 (dB,v3) (by simp))).1;have gA:(((List.replicate a.tmps.size AV.any).set dA (.ptr φa 0 0 0)).set dB (.ptr φb 0 0 0)).getD dA .any= .ptr φa 0 0 0:=by
       rw[List.getD,List.getElem?_set_ne (Ne.symm hd3.1),List.getElem?_set_self (by simpa using hA2)];rfl
     have gB:(((List.replicate a.tmps.size AV.any).set dA (.ptr φa 0 0 0)).set dB (.ptr φb 0 0 0)).getD dB .any= .ptr φb 0 0 0:=by
       rw[List.getD,List.getElem?_set_self (by simpa using hB2)];rfl
     have lA:Qcc T tA (.ptr φa 0 0 0) ((σ''.set φa ⟨0,1,[[.val (.slice none 0 0)]]⟩).set φb ⟨0,1,[[.val (.int .i64 c)]]⟩)=some (.val (.slice none 0 0)):=by
       refine Qmv _ ?_;unfold Qla;rw[hTA];simp only[hnA.1,hnA.2];exact Qz (i:=0) (by rw[AH.set_ne' hne];exact AH.set_same ..) rfl rfl
     have lB:Qcc T tB (.ptr φb 0 0 0) ((σ''.set φa ⟨0,1,[[.val (.slice none 0 0)]]⟩).set φb ⟨0,1,[[.val (.int .i64 c)]]⟩)=some (.val (.int .i64 c)):=by
       refine Qmv _ ?_;unfold Qla;rw[hTB];simp only[hnB.1,hnB.2];exact Qz (i:=0) (AH.set_same ..) rfl rfl
     rw[hrs];simp only[ares,Qbx,aone,gA,gB,lA,lB,Option.map_some]
   obtain ⟨u,g1,g2⟩:=QgI hT (w:=w3) hS3.rel heX hres;exact ⟨u,g1,κ3,.ret _,_,hR,hS.trans hS3,g2⟩
end
end
end Go.Proofs.YtggnjjalfnhiiaaGreatDoor.E

/- Parts. -/
import Derived.Test.YtfadhdacjpmmeaaGreatDoorQ6
set_option linter.unusedVariables false
set_option linter.unusedSimpArgs false
namespace Go.Proofs.YtfadhdacjpmmeaaGreatDoor
set_option maxRecDepth 100000
set_option maxHeartbeats 1600000
open Go.IntKind renaming i64→aI
open Go.Obj renaming cells→aC
open Go.Proofs.Tryz renaming prog→aB
open Go.Value renaming string→aK,int→bC
open Go.RowKit
theorem AaD{s r w}(hs:s.size≤maxLen)(h:Ap s=r):Calls aB 231 #[.string s] w fun e w'=>e=.returned (.bool r)∧w=w':=by rw[←h];exact Cw s w hs
theorem AyP{s r w}(hs:s.size≤maxLen)(h:Ap s=r):Calls aB 94 #[.string s] w fun e w'=>e=.returned (.bool r)∧w=w':=by rw[←h];exact Cm s w hs
theorem AtD(fs:List Fwd)(k c){r}(h:Gg (fs.take k) c=r):(fs.take k).all (fun y=> !sEq y.src c)= !decide (0≤r):=by have:=ArO (fun y:Fwd=>sEq y.src c) (fs.take k);rw[←h];unfold Gg;rw[this,Bool.not_not]
theorem AjD{fs}{k:Nat}(h:k<fs.length):(Gg fs fs[k].src==(k:Int))=(fs.take k).all (fun y=> !sEq y.src fs[k].src):=
 An4 (p:=fun y:Fwd=>sEq y.src fs[k].src) h (Mq _)
theorem D2(v fs w)(hv:rd w w.heap.size v fs):
 Calls aB 77 #[v] w fun e w'=>e=.returned (.bool (Be fs))∧w=w':=by
 refine' ZDW;refine' zw;go_enter Tryz.func77,Tryz.ntmps77;go_wp2
 go_loop[3] (fun i=>∃k:Nat,k≤fs.length∧i=.int .i64 k∧Hid (∀j,j<k→AeV fs j=true)) (fun i=>fs.length - (intOf i).toNat)
 case atStart=>exact ZEi
 case round=>
  refine' YE;by_cases ab:k<fs.length
  ·refine' ZEj;have hG:=aA (Zd ab);have hS:=aA (AjD ab);have am:=aA (fun h=>AhG ab h);refine' YU;refine' ZAo;refine' ZC;refine(Cm x.src _ mc).mono ?_;refine' ZW;cases h1:Ap x.src
   exact ZHH;refine' zP;refine(Cm x.dst _ me).mono ?_;refine' ZW;cases h2:Ap x.dst
   ·refine' zA;exact ZHI
   refine' zA;obtain⟨r,aj⟩:∃r,Hid (Gg fs x.src=r):=⟨_,rfl⟩
   refine' ZC;refine(Om _ fs x.src _ ev.out).mono ?_;exact ZMt
  ·refine' ZCL;by_cases pH:fs.length≤30
   ·have rS:=aA pH
    have qh:(fs.length:Int)≤30:=ZA
    refine' ZI;exact⟨Al (Ad0 rS.out ZAF).symm,rfl⟩
   ·have rS:=aA pH
    have qh:¬(fs.length:Int)≤30:=ZA
    refine' ZI;exact⟨Al (AhW rS.out).symm,rfl⟩
theorem Dj(v fs w)(hv:rd w w.heap.size v fs):
 Calls aB 204 #[v] w fun e w'=>e=.returned (.bool (Be fs))∧Below w.heap.size w w':=by
 refine' ZDW;refine' zw;go_enter Tryz.func204,Tryz.ntmps204;by_cases pH:(30:Int)<(fs.length:Int)
 ·have HF:=aA (show¬fs.length≤30 by omega)
  refine' ZO;exact⟨Al (AhW HF.out).symm,l0⟩
 have rS:=aA (show fs.length≤30 by omega);go_wp2
 go_loopw[10] (fun i wr=>∃k:Nat,k≤fs.length∧i=.int .i64 k∧Below w.heap.size w wr∧Hid (∀j,j<k→AeV fs j=true)) (fun i _=>fs.length - (intOf i).toNat)
 case atStart=>exact ZHJ
 case round=>
  refine' ZBA;clear l0;by_cases ab:k<fs.length
  ·refine' ZEj;have hG:=aA (Zd ab);have am:=aA (fun h=>AhG ab h);refine' YU;refine' ZAo;obtain⟨wo,ie⟩:∃wo:World,wo=w1.alloc (aC #[.string x.src,.string x.dst] 128):=⟨_,rfl⟩;refine' ZHK;refine' ZMu;cases h1:Ap x.src
   ·refine' zS;have C1:=aA (fun w=>AaD (w:=w) mc H1.out);refine' ZAp;go_quiet (first|(go_at_call 231;exact ZBB))
    exact ZHL
   refine' zS;have C1:=aA (fun w=>AaD (w:=w) mc H1.out);cases h2:Ap x.dst
   ·refine' zA;have C2:=aA (fun w=>AaD (w:=w) me H2.out);refine' ZAp;go_quiet (first|(go_at_call 231;exact ZHM))
    exact ZHN
   refine' zA;have C2:=aA (fun w=>AaD (w:=w) me H2.out);refine' ZMv;have C3:Hid (∀W,Below wo.heap.size wo W→Calls aB 228 #[.slice (some ⟨b,o,none⟩) k cp,.string x.src] W fun e w'=>e=.returned (.int .i64 r)∧Below W.heap.size W w'):=fun W hW=>by have h:=Mn (.slice (some ⟨b,o,none⟩) k cp) (fs.take k) x.src W ((im.out.on hW).take hk);rw[aj.out]at h;exact h
   refine' ZHO;by_cases f9:0≤r
   ·have HD:=aA (aJ f9)
    refine' ZMw;go_ret;exact ZHP
   ·have HD:=aA (aO f9)
    refine' ZMw;exact ZMx
  ·refine' ZCL;refine' ZO;exact⟨Al (Ad0 rS.out ZAF).symm,lr⟩
def resolve(fs:List Fwd)(c:ByteArray):ByteArray×Nat×Bool:=if Ap c&&Be fs then Bc fs c else(⟨#[]⟩,0,false)
theorem Sb(v fs c w)(hv:rd w w.heap.size v fs)(ax:c.size≤maxLen):
 Calls aB 230 #[v,.string c] w fun e w'=>e=.returned (.tuple #[.string (resolve fs c).1,.int .i64 ((resolve fs c).2.1:Nat),.bool (resolve fs c).2.2])∧Below w.heap.size w w':=by
 have HQ:Hid (resolve fs c=if Ap c&&Be fs then Bc fs c else(⟨#[]⟩,0,false)):=rfl;go_enter Tryz.func230,Tryz.ntmps230
 refine' ZC;refine(Cw c _ ax).mono ?_;refine' ZW;cases h1:Ap c
 ·refine' zP;go_ret3
  exact⟨Bf (by rw[HQ.out,H1.out]<;>rfl),aF _ _⟩
 refine' zP;refine(Dj v fs _ hv).mono ?_;refine' ZT;cases h2:Be fs
 ·refine' zA;refine' zV;exact⟨Bf ZHQ,b1⟩
 have hl:=(Ch.1 h2).1;refine' zA;refine' ZC;refine(Hj v fs c _ (hv.on b1) ax ZA).mono ?_;refine' zK;refine' zV;exact⟨Bf ZHQ,Aa b1 b2⟩
end Go.Proofs.YtfadhdacjpmmeaaGreatDoor

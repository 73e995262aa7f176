/- Parts. -/
import Derived.Test.YtfadhdacjpmmeaaGreatDoorU8
set_option linter.unusedVariables false
set_option linter.unusedSimpArgs false
set_option maxRecDepth 100000
set_option maxHeartbeats 16000000
open Go.Proofs.Tryz
open Go renaming madeCells->bF
open Go.IntKind renaming i64->aD
open Go.Obj renaming cells->aB
open Go.Value renaming string->aG,int->aH
namespace Go.Proofs.YtfadhdacjpmmeaaGreatDoor
open Go.RowKit
theorem M_{s r w}(hs:s.size<=maxLen)(h:Ap s=r):ya 231 #[.string s] w (.bool r):=by rw[<-h];exact Cw s w hs
theorem AyP{s r w}(hs:s.size<=maxLen)(h:Ap s=r):ya 94 #[.string s] w (.bool r):=by rw[<-h];exact Cm s w hs
theorem AtD(fs:List Fwd)(k c){r}(h:Gg (fs.take k) c=r):(fs.take k).all (fun y=> !zU y.src c)= !decide (0<=r):=by have:=ArO (fun y:Fwd=>zU y.src c) (fs.take k);rw[<-h];unfold Gg;rw[this,Bool.not_not]
theorem AjD{fs}{k:Nat}(h:k<fs.length):(Gg fs fs[k].src==(k:Int))=(fs.take k).all (fun y=> !zU y.src fs[k].src):=
 An4 (p:=fun y:Fwd=>zU y.src fs[k].src) h (Mq _)
theorem D2(v fs w)(hv:R_ w v fs):
 ya 77 #[v] w (.bool (Be fs)):=by
 refine' Qw;refine' YA;go_enter func77,ntmps77;go_wp2
 go_loop[3] (fun i=>∃k:Nat,k<=fs.length/\i=.int .i64 k/\Hid (∀j,j<k->Xk fs j=true)) (fun i=>fs.length - (intOf i).toNat)
 case atStart=>exact ZE5
 case round=>
  refine' YH;by_cases ab:k<fs.length
  .refine' ZE6;have hG:=aA (ZBq ab);have hS:=aA (AjD ab);have ao:=aA (fun h=>AhG ab h);refine' YR;refine' Zd;refine' ZC;refine(Cm x.src _ nz).mono ?_;refine' ZZ;cases h1:Ap x.src
   exact ZIR;refine' zp;refine(Cm x.dst _ nC).mono ?_;refine' ZZ;cases h2:Ap x.dst
   .refine' zN;exact ZIS
   refine' ZPR;refine(Om _ fs x.src _ fg.out).mono ?_;exact ZPS
  .refine' Uu;by_cases qS:fs.length<=30
   .have tF:=aA qS
    have rD:(fs.length:Int)<=30:=ZA
    refine' ZI;exact⟨Al (Ad0 tF.out iQ).symm,rfl⟩
   .have tF:=aA qS
    have rD:¬(fs.length:Int)<=30:=ZA
    refine' ZI;exact⟨Al (AhW tF.out).symm,rfl⟩
theorem Dj(v fs w)(hv:R_ w v fs):
 C_ 204 #[v] w (.bool (Be fs)):=by
 refine' Qw;refine' YA;go_enter func204,ntmps204;by_cases qS:(30:Int)<(fs.length:Int)
 .have HF:=aA (show¬fs.length<=30 by omega)
  refine' ZO;exact⟨Al (AhW HF.out).symm,l0⟩
 have tF:=aA (show fs.length<=30 by omega);go_wp2
 go_loopw[10] (fun i wr=>∃k:Nat,k<=fs.length/\i=.int .i64 k/\B_ w wr/\Hid (∀j,j<k->Xk fs j=true)) (fun i _=>fs.length - (intOf i).toNat)
 case atStart=>exact ZIT
 case round=>
  refine' Ya;clear l0;by_cases ab:k<fs.length
  .refine' ZE6;have hG:=aA (ZBq ab);have ao:=aA (fun h=>AhG ab h);refine' YR;refine' Zd;obtain⟨wo,ja⟩:∃wo:World,wo=w1.alloc (aB #[.string x.src,.string x.dst] 128):=⟨_,rfl⟩;refine' ZIU;refine' ZPT;cases h1:Ap x.src
   .refine' zS;have C1:=aA (fun w=>M_ (w:=w) nz H1.out);refine' Zc;go_quiet (first|(go_at_call 231;exact Y9))
    exact ZIV
   refine' zS;have C1:=aA (fun w=>M_ (w:=w) nz H1.out);cases h2:Ap x.dst
   .refine' zN;have C2:=aA (fun w=>M_ (w:=w) nC H2.out);refine' Zc;go_quiet (first|(go_at_call 231;exact ZIW))
    exact ZIX
   refine' zN;have C2:=aA (fun w=>M_ (w:=w) nC H2.out);refine' ZPU;have C3:Hid (∀W,B_ wo W->C_ 228 #[.slice (some ⟨b,o,none⟩) k cp,.string x.src] W (.int .i64 r)):=fun W hW=>by{have h:=Mn (.slice (some ⟨b,o,none⟩) k cp) (fs.take k) x.src W ((je.out.on hW).take hk);rw[ak.out]at h;exact h};refine' ZIY;by_cases fi:0<=r
   .have HD:=aA (aL fi)
    refine' ZPV;go_ret;exact ZIZ
   .have HD:=aA (aP fi)
    refine' ZPV;exact ZPW
  .refine' Uu;refine' ZO;exact⟨Al (Ad0 tF.out iQ).symm,lr⟩
def rSv(fs:List Fwd)(c:Y_):Y_×Nat×Bool:=if Ap c&&Be fs then Bc fs c else(⟨#[]⟩,0,false)
theorem ZBJ(v fs c w)(hv:R_ w v fs)(ax:c.size<=maxLen):
 C_ 230 #[v,.string c] w (.tuple #[.string (rSv fs c).1,.int .i64 ((rSv fs c).2.1:Nat),.bool (rSv fs c).2.2]):=by
 have HQ:Hid (rSv fs c=if Ap c&&Be fs then Bc fs c else(⟨#[]⟩,0,false)):=rfl;go_enter func230,ntmps230
 refine' ZC;refine(Cw c _ ax).mono ?_;refine' ZZ;cases h1:Ap c
 .refine' zS;refine' zX;exact⟨Bf (by rw[HQ.out,H1.out]<;>rfl),aF _ _⟩
 refine' zp;refine(Dj v fs _ hv).mono ?_;refine' ZU;cases h2:Be fs
 .refine' zN;refine' zX;exact⟨Bf ZIa,b1⟩
 have hl:=(Ch.1 h2).1;refine' zN;refine' ZC;refine(Hj v fs c _ (hv.on b1) ax ZA).mono ?_;refine' zK;refine' zX;exact⟨Bf ZIa,Aa b1 b2⟩
end Go.Proofs.YtfadhdacjpmmeaaGreatDoor

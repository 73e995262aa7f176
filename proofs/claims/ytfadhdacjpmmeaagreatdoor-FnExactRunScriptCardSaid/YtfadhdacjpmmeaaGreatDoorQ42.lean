/- Parts. -/
import Derived.Test.YtfadhdacjpmmeaaGreatDoorQ40
import Derived.Test.YtfadhdacjpmmeaaGreatDoorQ41
set_option linter.unusedVariables false
set_option linter.unusedSimpArgs false
namespace Go.Proofs.YtfadhdacjpmmeaaGreatDoor
set_option maxRecDepth 100000
set_option maxHeartbeats 1600000
open Go.IntKind renaming i64→aI
open Go.Obj renaming cells→aC
open Go.Proofs.Tryz renaming prog→aB
open Go.Value renaming string→aK,int→bC
open Go.RowKit
theorem Ba9(R:Nat→Prop)(vL vO vF vH vN s wd w)(hS:stN R w vL vO vF vH vN s)(hw:∀x∈[Cf,Mf,Df,Ef,Gd,Bg,Db,Dx,Fm,G3,Dq,Es,F4],(wd.toList==x.data.toList)=false):
 Calls aB 11 #[stV vL vO vF vH vN s,.string wd] w (Bs R s Hg w):=by refine' zJ;show Calls aB _ #[.agg #[.slice AL s.letters.length cL,.int .i64 s.day.plan.bins,.int .i64 s.day.plan.passes,.slice AO s.day.plan.order.length cO,.slice AF s.day.fwds.length cF,.slice AH s.day.held.length cH,.int .i64 s.day.size,.slice AN s.net.length cN],.string wd] w _;refine' ZTE;have ca:(wd.toList==[108,101,116,116,101,114,115])=false:=hw Cf ZE;have db:(wd.toList==[115,111,114,116])=false:=hw Mf ZE;have d8:(wd.toList==[112,108,97,110])=false:=hw Df ZE;have fd:(wd.toList==[115,101,113,117,101,110,99,101])=false:=hw Ef ZE;have gq:(wd.toList==[109,111,118,101,100])=false:=hw Gd ZE;have i8:(wd.toList==[102,111,114,119,97,114,100,115])=false:=hw Bg ZE;have jQ:(wd.toList==[101,110,100,108,101,115,115])=false:=hw Db ZE;have kJ:(wd.toList==[100,105,114,101,99,116])=false:=hw Dx ZE;have lP:(wd.toList==[104,101,108,100])=false:=hw Fm ZE;have nK:(wd.toList==[100,97,121])=false:=hw G3 ZE;have kK:(wd.toList==[116,114,97,121,115])=false:=hw Dq ZE;have mX:(wd.toList==[110,101,116])=false:=hw Es ZE;have qX:(wd.toList==[115,101,97,108])=false:=hw F4 ZE;clear k0 m0 hS hw;refine' YB;refine Ax rfl rfl M0.out gI rfl Tryz.sizeSt rfl ?_;have h:=Bs.of (m:=w.heap.size+2) (a:=Hg) (HS.out.cut K0.out.lay) ZA (Ct.refl _ _) K0.out.lay;rw[show Em Hg=⟨#[119,104,97,116,10]⟩ by exact ZS]at h;exact h
theorem Fy{a b:ByteArray}(h:a≠b):(a.toList==b.data.toList)=false:=ZSD
theorem AhQ{s}(h:Inv s):Bj s.day.plan.bins∧Bj s.day.plan.passes∧Bj s.day.size:=ZSE
theorem Ss{s}(h:Inv s):Bj s.day.plan.bins∧Bj s.day.plan.passes:=⟨(AhQ h).1,(AhQ h).2.1⟩
theorem BcD{s}(h:Inv s):AyD (Dh s.day s.letters) 1048576:=by obtain⟨h1,h2,h3,h4⟩:=AbJ h.rd;have h1:=Cq h1;have h2:=Cq h2;have h3:=Cq h3;have h4:=Cq h4;exact⟨ZA,ZA,ZA,ZA⟩
theorem Ba4(R:Nat→Prop)(vL vO vF vH vN s wd w)(h:Inv s)(hS:stN R w vL vO vF vH vN s):
 Calls aB 11 #[stV vL vO vF vH vN s,.string wd] w (Bs R (Rh s wd).1 (Rh s wd).2 w):=by
 have hP:=Az4 h wd;have hZ:=AgU h wd;unfold Rh at hP hZ⊢;by_cases e0:wd=Cf
 ·subst e0
  refine' YO;exact AsA R _ _ _ _ _ s w hS hP ZA
 rw[aL e0]at hP hZ⊢;by_cases e1:wd=Mf
 ·subst e1
  refine' YO;exact AzW R _ _ _ _ _ s w hS h.bs hP
 rw[aL e1]at hP hZ⊢;by_cases e2:wd=Ef
 ·subst e2
  refine' YO;exact Ap4 R _ _ _ _ _ s w hS (Ss h)
 rw[aL e2]at hP hZ⊢;by_cases e3:wd=F4
 ·subst e3
  refine' YO;have h1:=AsW h.bs;have h2:=Am3 h.bs;exact BaE R _ _ _ _ _ s w hS hP ZA ZA ZA ZA
 rw[aL e3]at hP hZ⊢;by_cases e4:wd=Df
 ·subst e4
  refine' YO;exact AzI R _ _ _ _ _ s w hS hP ZA (Ss h)
 rw[aL e4]at hP hZ⊢;by_cases e5:wd=Gd
 ·subst e5
  refine' YO;exact AyU R _ _ _ _ _ s w hS hP (Ss h) (Al1 h.rp) (by have:=Ac0 (p:=s.day.plan) h.bs;omega) (by have:=Cq h.bs;omega)
 rw[aL e5]at hP hZ⊢;by_cases e6:wd=Bg
 ·subst e6
  refine' YO;exact ApX R _ _ _ _ _ s w hS hP ZA
 rw[aL e6]at hP hZ⊢;by_cases e7:wd=Dx
 ·subst e7
  refine' YO;exact AtR R _ _ _ _ _ s w hS h.fwds hP ZA
 rw[aL e7]at hP hZ⊢;by_cases e8:wd=Db
 ·subst e8
  refine' YO;exact ArW R _ _ _ _ _ s w hS hP h.fwds (fun p hp=>by have:=Cp (Aa0 _ p hp);omega) (by have:=AhE (fs:=s.day.fwds);have:=(Ch.1 h.fwds).1;omega) ZA
 rw[aL e8]at hP hZ⊢;by_cases e9:wd=Fm
 ·subst e9
  refine' YO;exact BaK R _ _ _ _ _ s w hS hP ZA (fun p hp=>by have:=Cp ((AsX h.held).2 p hp);omega) (by have:=(AsX h.held).1;omega)
 rw[aL e9]at hP hZ⊢;by_cases qY:wd=G3
 ·subst qY
  refine' YO;exact Bc7 R _ _ _ _ _ s w hS (AhQ h) (BcD h) hP ZA
 rw[aL qY]at hP hZ⊢;by_cases qZ:wd=Dq
 ·subst qZ
  refine' YO;exact AxC R _ _ _ _ _ s w hS (AhQ h) (Wn h.rd).2 hP ZA
 rw[aL qZ]at hP hZ⊢;by_cases q8:wd=Es
 ·subst q8
  refine' YO;exact Bc2 R _ _ _ _ _ s w hS hP ZA
 rw[aL q8]at hP hZ⊢;exact Ba9 R _ _ _ _ _ s wd w hS (by
  refine' ZF4;rcases hx with rfl|rfl|rfl|rfl|rfl|rfl|rfl|rfl|rfl|rfl|rfl|rfl|rfl
  ·exact Fy e0
  ·exact Fy e1
  ·exact Fy e4
  ·exact Fy e2
  ·exact Fy e5
  ·exact Fy e6
  ·exact Fy e8
  ·exact Fy e7
  ·exact Fy e9
  ·exact Fy qY
  ·exact Fy qZ
  ·exact Fy q8
  ·exact Fy e3
  )
end Go.Proofs.YtfadhdacjpmmeaaGreatDoor

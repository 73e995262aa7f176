/- Parts. -/
import Derived.Test.YtfadhdacjpmmeaaGreatDoorQ34
import Derived.Test.YtfadhdacjpmmeaaGreatDoorQ35
import Derived.Test.YtfadhdacjpmmeaaGreatDoorQ36
set_option linter.unusedVariables false
set_option linter.unusedSimpArgs false
namespace Go.Proofs.YtfadhdacjpmmeaaGreatDoor
set_option maxRecDepth 100000
set_option maxHeartbeats 1600000
open Go.IntKind renaming i64→aI
open Go.Obj renaming cells→aC
open Go.Proofs.Tryz renaming prog→aB
open Go.Value renaming string→aK,int→bC
open Go.RowKit
theorem if1{c:Prop}[Decidable c]{α β:Type}(a1 b1:α)(a2 b2:β):(if c then(a1,a2)else(b1,b2)).1=if c then a1 else b1:=by split<;>rfl
theorem if2{c:Prop}[Decidable c]{α β:Type}(a1 b1:α)(a2 b2:β):(if c then(a1,a2)else(b1,b2)).2=if c then a2 else b2:=by split<;>rfl
theorem Ci{a b:ByteArray}(h:a≠b):(a.toList==b.data.toList)=false:=ZSD
theorem Bb4{a b:ByteArray}(h:a=b):(a.toList==b.data.toList)=true:=by rw[bR,h];exact beq_self_eq_true _
def Tq(w:World):Prop:=I4 w∧N9 w
theorem Tq.on{w w'}(h:Tq w)(hb:Below w.heap.size w w'):Tq w':=⟨h.1.on hb,h.2.on hb⟩
theorem Inv.i2{s}(h:Inv s):Bj s.day.plan.bins∧Bj s.day.plan.passes:=by have:=Dz h.plan;exact zL
theorem Inv.i3{s}(h:Inv s):Bj s.day.plan.bins∧Bj s.day.plan.passes∧Bj s.day.size:=ZSE
theorem Ah4(s w)(hz:s.size≤maxLen)(hc:Ap s=false):
 Calls aB 152 #[.string s] w fun e w'=>e=.returned (.tuple #[.string ⟨#[]⟩,.bool false])∧Below w.heap.size w w':=by
 have iz:Hid (∀W:World,Calls aB 231 #[.string s] W fun e w'=>e=.returned (.bool false)∧W=w'):=fun W=>by have:=Cw s W hz;exact ZBI
 clear hc;go_enter Tryz.func152,Tryz.ntmps152
 go_wp2_with (go_at_call 231;refine' zz)
 go_ret2;exact z6
theorem AlX(s w)(hz:s.size≤maxLen)(hw:N9 w):
 Calls aB 152 #[.string s] w fun e w'=>e=.returned (.tuple #[.string (Kz s),.bool (Ap s)])∧Below w.heap.size w w':=by
 unfold Kz;cases h:Ap s
 ·exact Ah4 s w hz h
 ·refine(Ae7 s w h hw).mono ?_
  refine' ZP;exact z6
theorem AvF(B d s vH wd w)(h:Inv s)(hX:Tq w)(hB:B≤w.heap.size)(hD:Bv B w d s vH):
 Calls aB 52 #[.pointer (some ⟨d,0,none⟩),.string wd] w (Bb B d (Rh s wd).1 vH (Rh s wd).2 w):=by
 unfold Rh;by_cases e0:wd=Cf
 ·subst e0
  refine' ZR;exact AlQ B d s vH w hD hX.1
 rw[aL e0];by_cases e1:wd=Mf
 ·subst e1
  refine' ZR;exact AqO B d s vH w hD hB hX.1 h.bs
 rw[aL e1];by_cases e2:wd=Ef
 ·subst e2
  refine' ZR;exact Aj0 B d _ vH _ w (AiJ B d s vH w hD hB hX.1 h.i2 h.rp)
 rw[aL e2];by_cases e3:wd=F4
 ·subst e3
  refine' ZR;exact AuN B d s vH w hD hX.1 (by have:=AsW h.bs;exact zL) (by have:=Am3 h.bs;exact zL) (by have:=AsW h.bs;exact aG (H9 ZA ZA) ZA) (by have:=Am3 h.bs;exact aG (H9 ZA ZA) ZA)
 rw[aL e3];by_cases e4:wd=Df
 ·subst e4
  refine' ZR;exact Au7 B d s vH w hD hX.1 h.i2
 rw[aL e4];by_cases e5:wd=Gd
 ·subst e5
  refine' ZR;exact ArD B d s vH w hD hX.1 h.i2 (by have:=Ac0 (p:=s.day.plan) h.bs;exact zL)
 rw[aL e5];by_cases e6:wd=Bg
 ·subst e6
  refine' ZR;exact Ai2 B d s vH w hD
 rw[aL e6];by_cases e7:wd=Dx
 ·subst e7
  refine' ZR;exact AnE B d s vH w hD hB h.fwds
 rw[aL e7];by_cases e8:wd=Db
 ·subst e8
  refine' ZR;exact AmF B d s vH w hD (aG (Ch.1 h.fwds).1 ZA)
 rw[aL e8];by_cases e9:wd=Fm
 ·subst e9
  refine' ZR;exact Aw3 B d s vH w hD h.held
 rw[aL e9];by_cases qY:wd=G3
 ·subst qY
  refine' ZR;exact Az1 B d s vH w hD hX.1 h.i3 h.rd
 rw[aL qY];by_cases qZ:wd=Dq
 ·subst qZ
  refine' ZR;exact AqH B d s vH w hD hX.1 h.i3 h.rd
 rw[aL qZ];by_cases q8:wd=Es
 ·subst q8
  refine' ZR;exact AyT B d s vH w hD
 rw[aL q8];exact AvI B d s vH wd w hD (ZSF
  )
theorem AxK(B d s vH wd f w)(h:Inv s)(hX:Tq w)(hB:B≤w.heap.size)(hD:Bv B w d s vH)(hz:f.size≤maxLen):
 Calls aB 58 #[.pointer (some ⟨d,0,none⟩),.string wd,.string f] w (Bb B d (Af0 s wd f).1 vH (Af0 s wd f).2 w):=by
 unfold Af0;by_cases e0:wd=C8
 ·subst e0
  refine' ZR;rw[AlO,AlJ];exact AyF B d s vH f w hD hB hX.1 hz
 rw[aL e0];by_cases e1:wd=Eo
 ·subst e1
  refine' ZR;exact AtV B d s vH f w hD hX.1 hz
 rw[aL e1];by_cases e2:wd=Fj
 ·subst e2
  refine' ZR;exact Az9 B d s vH f w hD hX.1 h.i2
 rw[aL e2];by_cases e3:wd=Ds
 ·subst e3
  refine' ZR;exact AsE B d _ vH f _ w hz (ArC B d s vH _ w hD hX.1 h.i2)
 rw[aL e3];by_cases e4:wd=C4
 ·subst e4
  refine' ZR;rw[Am2,Am9];exact Ay5 B d s vH f w hD hB
 rw[aL e4];by_cases e5:wd=Cc
 ·subst e5
  refine' ZR;exact ApZ B d _ vH f _ w (AmX B d s vH f w hD hX.1 hz h.fwds)
 rw[aL e5];by_cases e6:wd=Cy
 ·subst e6
  refine' ZR;rw[if1,if2];exact AxJ B d _ vH f _ w (AsM B d s vH f w hD hB hz h.held)
 rw[aL e6];by_cases e7:wd=Dk
 ·subst e7
  refine' ZR;rw[if1,if2];exact Av7 B d _ vH f _ w hz (AiX B d s vH _ w hD)
 rw[aL e7];by_cases e8:wd=Dl
 ·subst e8
  refine' ZR;exact Ax2 B d _ vH f _ w (AvL B d s vH f w hD hz h.i3 h.fwds)
 rw[aL e8];by_cases e9:wd=B5
 ·subst e9
  refine' ZR;exact ArM B d _ vH f _ w (AmQ B d s vH f w hD)
 rw[aL e9];by_cases qY:wd=He
 ·subst qY
  refine' ZR;exact AyA B d s vH f _ w hD (AbV f w)
 rw[aL qY];by_cases qZ:wd=Gn
 ·subst qZ
  refine' ZR;exact Az6 B d s vH f _ _ w hD (AlX f w hz hX.2)
 rw[aL qZ];by_cases q8:wd=Ga
 ·subst q8
  refine' ZR;exact AwM B d s vH f _ _ w hD (Yz f w hX.2)
 rw[aL q8];exact AzA B d s vH wd f w hD (ZSF
  )
theorem AxY(B d s vH wd f g w)(h:Inv s)(hX:Tq w)(hB:B≤w.heap.size)(hD:Bv B w d s vH)(hz:f.size≤maxLen)(DQ:g.size≤maxLen):
 Calls aB 59 #[.pointer (some ⟨d,0,none⟩),.string wd,.string f,.string g] w (Bb B d (AgX s wd f g).1 vH (AgX s wd f g).2 w):=by
 unfold AgX;by_cases e0:wd=C0
 ·subst e0
  refine' ZR;rw[if1,if2];exact AyS B d s vH f g w hD hB hX.1 hz DQ h.i2
 rw[aL e0];by_cases e1:wd=Bt
 ·subst e1
  refine' ZR;rw[Am2,Am9];exact AnV B d s vH f g w hD hB ⟨hz,DQ⟩
 rw[aL e1];by_cases e2:wd=Fl
 ·subst e2
  refine' ZR;exact AxT B d _ vH f g _ w (AqN B d s vH f g w hD DQ)
 rw[aL e2];exact AwS B d s vH wd f g w hD (by
  refine' ZF4;rcases hx with rfl|rfl|rfl
  ·exact Ci e0
  ·exact Ci e1
  ·exact Ci e2
  )
theorem Au6(B d s vH ak wd rest w)(h:Inv s)(hX:Tq w)(hB:B≤w.heap.size)(hD:Bv B w d s vH)(hz:ak.size≤20000)(co:E5 32 ak=some (wd,rest)):
 Calls aB 16 #[.pointer (some ⟨d,0,none⟩),.string ak] w (Bb B d (U0 s wd rest).1 vH (U0 s wd rest).2 w):=by
 have hr:rest.size≤20000:=aG (Ki co).2 hz;have IN:rest.size≤1000000000:=ZA
 have uW:rest.size≤maxLen:=ZN
 have wO:ak.size≤maxLen:=ZN
 have oy:∀p∈Aj 32 rest,p.size≤maxLen:=fun p hp=>aG (Hi hp) uW
 unfold U0;by_cases e0:wd=Cf
 ·subst e0
  refine' ZR;rw[AlO,AlJ];exact AiE B d s vH ak rest w hD hB hX.1 wO uW co
 rw[aL e0];by_cases e1:wd=Df
 ·subst e1
  refine' ZR;rw[if1,if2];exact Ar5 B d _ vH ak rest _ w wO co fun W hW=>AiQ B d s vH rest W (hD.below hW) (aG hB hW.size) ZA
 rw[aL e1];by_cases e2:wd=Bg
 ·subst e2
  refine' ZR;rw[if1,if2];exact AgK B d _ vH ak rest _ w wO co fun W hW=>AaW B d s vH rest W (hD.below hW) (aG hB hW.size) uW
 rw[aL e2];by_cases e3:wd=Es
 ·subst e3
  refine' ZR;rw[if1,if2];exact AxG B d _ vH ak rest _ w wO co fun W hW=>AmI B d s vH rest W (hD.below hW) (aG hB hW.size) uW
 rw[aL e3];have bj:=AkK 32 rest;obtain⟨ps,d9⟩:∃ps,Aj 32 rest=ps:=⟨_,rfl⟩;rw[d9]at bj oy⊢;rcases ps with _|⟨f,_|⟨g,_|⟨k,_|⟨j,ps⟩⟩⟩⟩
 ·exact absurd rfl bj
 ·exact AxN B d _ vH ak wd rest f _ w wO IN co d9 (Ci e0) (Ci e1) (Ci e2) (Ci e3) fun W hW=>AxK B d s vH wd f W h (hX.on hW) (aG hB hW.size) (hD.below hW) (oy f ZE)
 ·exact AxQ B d _ vH ak wd rest f g _ w wO IN co d9 (Ci e0) (Ci e1) (Ci e2) (Ci e3) fun W hW=>AxY B d s vH wd f g W h (hX.on hW) (aG hB hW.size) (hD.below hW) (oy f ZE) (oy g ZE)
 ·show Calls aB _ _ _ (Bb B d (if wd=Cz then(s,Jp s.day.plan s.letters (Am f) (Am g) (Am k))else(s,Hg)).1 vH (if wd=Cz then(s,Jp s.day.plan s.letters (Am f) (Am g) (Am k))else(s,Hg)).2 w)
  by_cases e4:wd=Cz
  ·rw[aP e4]
   exact AsD B d s vH ak wd rest f g k w hD hX.1 h.i2 wO IN co d9 (Ci e0) (Ci e1) (Ci e2) (Ci e3) (Bb4 e4)
  ·rw[aL e4]
   exact Aj8 B d s vH ak wd rest _ w hD wO IN co d9 (Ci e0) (Ci e1) (Ci e2) (Ci e3) (.inr ⟨rfl,Ci e4⟩)
 ·exact Aj8 B d s vH ak wd rest _ w hD wO IN co d9 (Ci e0) (Ci e1) (Ci e2) (Ci e3) (.inl ZE)
theorem AwE{s}(h:Inv s){ak}(hz:ak.size≤20000):Ax7 Tq ak s (Qk s ak).1 (Qk s ak).2:=by
 intro B d vH w hX hB hD;unfold Qk;cases hc:E5 32 ak with
 |none=>exact Av2 B d _ vH ak _ w ZN hc fun W hW=>AvF B d s vH ak W h (hX.on hW) (aG hB hW.size) (hD.below hW)
 |some q=> obtain⟨wd,rest⟩:=q;exact Au6 B d s vH ak wd rest w h hX hB hD hz hc
theorem W6(t w)(ht:20000<t.size):
 Calls aB 6 #[.string t] w fun e w'=>e=.returned (.string ⟨#[108,111,110,103,10]⟩)∧Below w.heap.size w w':=by
 have vM:(20000:Int)<(t.size:Int):=ZA
 go_enter Tryz.func6,Tryz.ntmps6
 refine' ZI;exact z6
theorem AdW(t w)(hX:∀W,Below w.heap.size w W→Tq W):
 Calls aB 6 #[.string t] w fun e w'=>e=.returned (.string (AwB t))∧Below w.heap.size w w':=by
 unfold AwB;by_cases ht:20000<t.size
 ·rw[aP ht];exact W6 t w ht
 ·rw[aL ht]
  refine AgV Tq t w (Aj 10 t) (Xw (Aj 10 t)) (AxF (Aj 10 t)) ZA rfl hX rfl (fun k hk h0 _ _=>?_) fun k hk h0=>?_
  ·refine' ZSG;exact⟨AwE (Wl _ k) ZA,Ag4 (Wl _ k) _⟩
  ·refine' ZJL;rw[Xw,e,Lx.2 h0];rfl
end Go.Proofs.YtfadhdacjpmmeaaGreatDoor

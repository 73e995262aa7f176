/- Parts. -/
import Derived.Test.YtfadhdacjpmmeaaGreatDoorU17e
set_option linter.unusedVariables false
set_option linter.unusedSimpArgs false
set_option maxRecDepth 100000
set_option maxHeartbeats 16000000
open Go.Proofs.Tryz
open Go renaming madeCells->bF
open Go.IntKind renaming i64->aD
open Go.Obj renaming cells->aB
open Go.Value renaming string->aG,int->aH
namespace Go.Proofs.YtfadhdacjpmmeaaGreatDoor
open Go.RowKit
def Be2(t:Y_)(c:Nat):Prop:=c<=t.size/\(c=0\/(∃h:c - 1<t.size,1<=c/\t[c - 1]=10))
theorem Be2.at{t k}(h:k<t.size)(e:t[k]=10):Be2 t (k+1):=
 ⟨h,.inr ⟨ZA,ZA,e⟩⟩
theorem BeF{F R z:Y_}(h:z=F++R):(F.size:Int)<=(z.size:Int)/\((z.extract 0 F.size).toList==F.toList)=true:=by subst h;refine⟨V1,?_⟩;rw[ByteArray.extract_append_eq_left rfl];simp
theorem BdB(w v)(bs:List UInt8)(hv:R_ w v bs)(v')(cs:List UInt8)(QY:R_ w v' cs)(hT:I4 w)(hB:N9 w):
 C_ 4 #[v,v'] w (.bool true):=by
 have HX:Hid (∀W,B_ w W->Tq W):=fun W h=>Tq.on ⟨hT,hB⟩ h
 refine' zR;obtain⟨A,n,c,rfl,hn,hc,hm,_⟩:=hv;subst hn;obtain⟨A',n',c',rfl,qL,UU,mj,_⟩:=QY;subst qL;unfold maxLen at hm mj;clear hT hB hc UU;go_enter func4,ntmps4;by_cases cm:1048576<bs.length
 .refine' ZI;exact zv
 by_cases hsz2:1048576<cs.length
 .refine' ZI;exact zv
 refine' ZC;refine(BdD _ bs w HV.out).mono ?_;rintro e w1 ⟨t,rfl,htz,b1⟩;have B1:=aA b1;have HS:=aA (fun W=>AdP t W);have HI:=aA (fun(s:Y_) W (h:B_ w W)=>AdW s W fun V hV=>HX.out V (h.trans (hV.mono h.size)));have HP:=aA (fun c (h:Be2 t c) (hz:t.size<=20000)=>BeT t c hz h.2);have tN:=aA (fun W h=>HI.out t W h);obtain⟨z,hz⟩:∃z,b_ t=z:=⟨_,rfl⟩;rw[hz]at HS HP tN;clear hz b1
 refine' ZC;refine(tN.out _ B1.out).mono ?_;refine' ZJg;clear b2 B1
 refine' ZC;refine(HS.out _).mono ?_;refine' zB;have B3:=aA (Aa B2.out b3);clear b3 B2 HS tN
 refine' ZC;go_loopw[7,8,9] (fun a b i wr=>∃(k l c:Nat),k<=t.size/\i=.int .i64 k/\a=.int .i64 l/\l<=k/\b=.int .i64 c/\Hid (Be2 t c)/\Hid (B_ w wr)) (fun _ _ i _=>t.size - (intOf i).toNat)
 case atStart=>exact⟨0,0,0,aN _,rfl,rfl,aC _,rfl,⟨aN _,.inl rfl⟩,B3.out⟩
 case round=>
  obtain⟨k,l,c,hk,rfl,rfl,hl,rfl,HC,BR⟩:=hrel;refine' Sh;clear B3;by_cases ab:k<t.size
  .have hlti:(k:Int)<(t.size:Int):=ZA
   have mZ:=aA (fun(e:t[k]=10)=>Be2.at ab e);by_cases hb:t[k]=10
   .have bv:(t[k].toNat==10)=true:=by{rw[hb];rfl};have sk:=aA (mZ.out hb);clear mZ hb;have uT:aD.wrap ((l:Int)+1)=(l:Int)+1:=bG _ ZA;by_cases ct:(l:Int)+1<=1+(cs.length:Int)%12
    .refine' ZC;go_roundw
     case rel=>exact⟨k+1,l+1,k+1,ZA,ZJ,ZJ,ZA,ZJ,sk.out,BR.out⟩
     case measure=>exact ZK
    .refine' ZC;go_roundw
     case rel=>exact⟨k+1,l+1,c,ZA,ZJ,ZJ,ZA,rfl,HC.out,BR.out⟩
     case measure=>exact ZK
   .have bv:(t[k].toNat==10)=false:=by{rw[Bd3];intro e;exact hb (UInt8.toNat_inj.1 e)};clear mZ hb
    refine' ZC;go_roundw
    case rel=>exact⟨k+1,l,c,ZA,ZJ,rfl,ZA,rfl,HC.out,BR.out⟩
    case measure=>exact ZK
  .have jw:(c:Int)<=(t.size:Int):=by have:=HC.out.1;omega
   have wI:(0:Int)<=(c:Int):=ZA
   refine' ZC;refine(HI.out _ _ BR.out).mono ?_;refine' Y0;have B5:=aA (Aa BR.out b5);clear b5 BR;have IZ:=aA (HP.out c HC.out);generalize b_ (t.extract 0 c)=F at *;by_cases htb:(t.size:Int) > 20000
   .refine' ZI;exact⟨rfl,B5.out⟩
   .obtain⟨R,hR⟩:=IZ.out ZA
    obtain⟨q1,q2⟩:=BeF hR;have q0:(0:Int)<=(F.size:Int):=ZA
    clear hR
    refine' ZI;exact⟨rfl,B5.out⟩
end Go.Proofs.YtfadhdacjpmmeaaGreatDoor

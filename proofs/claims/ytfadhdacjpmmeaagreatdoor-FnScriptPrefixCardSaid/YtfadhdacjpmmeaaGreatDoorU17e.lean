/- Parts. -/
import Derived.Test.YtfadhdacjpmmeaaGreatDoorU17c
import Derived.Test.YtfadhdacjpmmeaaGreatDoorU17d
set_option linter.unusedVariables false
set_option linter.unusedSimpArgs false
set_option maxRecDepth 1000000
set_option maxHeartbeats 16000000
open Go.Proofs.Tryz
open Go renaming madeCells->bF
open Go.IntKind renaming i64->aD
open Go.Obj renaming cells->aB
open Go.Value renaming string->aG,int->aH
namespace Go.Proofs.YtfadhdacjpmmeaaGreatDoor
open Go.RowKit
theorem Aw5(R:Nat->Prop)(vL vO vF vH vN:Value)(s:Dsk)(wd r f k:Y_)(w:World)(h:Inv s)(hS:stN R w vL vO vF vH vN s)(hz:r.size<=1000000)(ev:Aj 32 r=[f,k])(i7:f.size<=maxLen)(tH:k.size<=maxLen)(h4:∀x∈[Cf,Df,Bg,Es],(wd.toList==x.data.toList)=false):
 Calls Tryz.prog 12 #[y5 vL vO vF vH vN s,.string wd,.string r] w (Bs R (iV s wd f k).1 (iV s wd f k).2 w):=by
 have lK:(Aj 32 r).length=2:=by rw[ev];rfl
 unfold iV;by_cases e0:wd=C0
 .subst e0
  refine' ZT;have cm:=ZAg (Ei s.day.plan (Am f) (Am k));have tR:Bj (Ei s.day.plan (Am f) (Am k)).bins/\Bj (Ei s.day.plan (Am f) (Am k)).passes:=by
   have:=Ss h;unfold Ei
   split
   .exact this
   .have ah:Bj 0:=ZS
    exact⟨ah,ah⟩
  cases ho:Eg s.day.plan (Am f) (Am k)
  .rw[aM ZF]
   exact Gz R _ _ _ _ _ s _ r 2 s ⟨#[]⟩ w hS hz h4 (ZEM) lK fun R' uL uO uF uH uN g c B W iz dm=>by rw[ev]at dm;exact Ar2 R' uL uO uF uH uN s f k B g c W iz dm i7 tH (Ss h) tR ho ZA
  .rw[aQ rfl]
   exact Gz R _ _ _ _ _ s _ r 2 _ _ w hS hz h4 (ZEM) lK fun R' uL uO uF uH uN g c B W iz dm=>by rw[ev]at dm;exact Ao6 R' uL uO uF uH uN s f k B g c W iz dm i7 tH (Ss h) tR ho ZA (Al3 (AdH ho))
 rw[aM e0];by_cases e1:wd=Bt
 .subst e1
  refine' ZT;rw[Ip,Ij];have cm:=Pc (My s.day.fwds f k);cases ho:Ig s.day.fwds f k
  .exact Gz R _ _ _ _ _ s _ r 2 s ⟨#[]⟩ w hS hz h4 (ZCZ) lK fun R' uL uO uF uH uN g c B W iz dm=>by rw[ev]at dm;exact AiS R' uL uO uF uH uN s f k B g c W iz dm h.fwds i7 tH ho ZA
  .exact Gz R _ _ _ _ _ s _ r 2 _ _ w hS hz h4 (ZCZ) lK fun R' uL uO uF uH uN g c B W iz dm=>by rw[ev]at dm;exact AhT R' uL uO uF uH uN s f k B g c W iz dm h.fwds i7 tH ho (ZC5 (Ag3 ho)) ZA
 rw[aM e1];by_cases e2:wd=Fl
 .subst e2
  refine' ZT;exact Lb R _ _ _ _ _ s _ r 2 _ w hS hz h4 (AdK) lK fun R' uL uO uF uH uN g c B W iz dm=>by rw[ev]at dm;exact Bb1 R' uL uO uF uH uN s f k B g c W iz dm tH
 rw[aM e2];have ay:K6 wd≠2:=by
  unfold K6
  split
  .omega
  .rw[aM]
   .split<;>omega
   .intro hm
    rcases hm with hm|hm|hm
    .exact e2 hm
    .exact e1 hm
    .exact e0 hm
 exact L_ R _ _ _ _ _ s wd r (K6 wd) (Of wd) w hS hz h4 (ZDa wd) (.inr (by rw[lK];exact fun e=>ay e.symm))
theorem Ba1(wd:Y_):K6 wd<=3:=by
 unfold K6
 split
 .omega
 .split
  .omega
  .split<;>omega
theorem AyN(R:Nat->Prop)(vL vO vF vH vN:Value)(s:Dsk)(wd r:Y_)(w:World)(h:Inv s)(hS:stN R w vL vO vF vH vN s)(hz:r.size<=1000000):
 Calls Tryz.prog 12 #[y5 vL vO vF vH vN s,.string wd,.string r] w (Bs R (U0 s wd r).1 (U0 s wd r).2 w):=by
 have xG:r.size<=maxLen:=ZN
 have nZ:∀p∈Aj 32 r,p.size<=maxLen:=fun p hp=>aI (Hi hp) xG
 unfold U0;by_cases e0:wd=Cf
 .refine' ZGk;cases ho:Mv r
  .exact AiF R _ _ _ _ _ s r w hS hz ho
  .exact AgO R _ _ _ _ _ s r w hS hz ho (Ui (AwA ho))
 rw[aM e0];by_cases e1:wd=Df
 .subst e1
  refine' ZT;cases ho:Ge r
  .exact AqY R _ _ _ _ _ s r w hS hz ho
  .exact Ap0 R _ _ _ _ _ s r w hS hz ho
 rw[aM e1];by_cases e2:wd=Bg
 .subst e2
  refine' ZT;cases ho:Tf r
  .exact AfG R _ _ _ _ _ s r w hS hz ho
  .exact AeB R _ _ _ _ _ s r w hS hz ho
 rw[aM e2];by_cases e3:wd=Es
 .subst e3
  refine' ZT;cases ho:Kx r
  .exact AuM R _ _ _ _ _ s r w hS hz ho
  .exact As9 R _ _ _ _ _ s r w hS hz ho
 rw[aM e3];have h4:∀x∈[Cf,Df,Bg,Es],(wd.toList==x.data.toList)=false:=by
  refine' ZGl;rcases hx with rfl|rfl|rfl|rfl
  .exact Fy e0
  .exact Fy e1
  .exact Fy e2
  .exact Fy e3
 have ay:=Pj r;obtain⟨ps,ev⟩:∃ps,Aj 32 r=ps:=⟨_,rfl⟩;rw[ev]at ay nZ⊢;rcases ps with _|⟨f,_|⟨k,_|⟨j,_|⟨i,ps⟩⟩⟩⟩
 .exact absurd rfl ay
 .exact AuL R _ _ _ _ _ s wd r f w h hS hz ev (nZ f ZF) h4
 .exact Aw5 R _ _ _ _ _ s wd r f k w h hS hz ev (nZ f ZF) (nZ k ZF) h4
 .show Calls Tryz.prog _ _ _ (Bs R (if wd=Cz then(s,Jp s.day.plan s.letters (Am f) (Am k) (Am j))else(s,Hg)).1 (if wd=Cz then(s,Jp s.day.plan s.letters (Am f) (Am k) (Am j))else(s,Hg)).2 w)
  have qI:(Aj 32 r).length=3:=by rw[ev];rfl
  by_cases e4:wd=Cz
  .subst e4
   refine' ZT;exact Lb R _ _ _ _ _ s _ r 3 _ w hS hz h4 (Aa8) qI fun R' uL uO uF uH uN g c B W iz dm=>by rw[ev]at dm;exact Ay8 R' uL uO uF uH uN s f k j B g c W iz dm (nZ f ZF) (nZ k ZF) (nZ j ZF) (Ss h)
  .rw[aM e4]
   have hn:K6 wd≠3:=by
    unfold K6
    split
    .omega
    .split
     .omega
     .first
       |omega
       |rw[aM e4];omega
   exact L_ R _ _ _ _ _ s wd r (K6 wd) (Of wd) w hS hz h4 (ZDa wd) (.inr (by rw[qI];exact fun e=>hn e.symm))
 .have hn:=Ba1 wd
  exact L_ R _ _ _ _ _ s wd r (K6 wd) (Of wd) w hS hz h4 (ZDa wd) (.inr (by rw[ev];simp only[dA];omega))
theorem ZAe(t:Y_)(w:World)(ht:20000<t.size):
 C_ 5 #[.string t] w (.string ⟨#[108,111,110,103,10]⟩):=by
 have yd:(20000:Int)<(t.size:Int):=ZA
 go_enter func5,ntmps5
 refine' ZI;exact zv
theorem AwL{s:Dsk}(h:Inv s){am:Y_}(hz:am.size<=20000):BbN am s (Qk s am).1 (Qk s am).2:=by
 intro R vL vO vF vH vN w hS;unfold Qk;refine⟨fun hq=>?_,fun q hq=>?_⟩
 .rw[Ri hq]
  exact Ba4 R vL vO vF vH vN s am w h hS
 .rw[Nt hq]
  exact AyN R vL vO vF vH vN s _ _ w h hS zL
theorem AdP(t:Y_)(w:World):
 C_ 5 #[.string t] w (.string (b_ t)):=by
 unfold b_;by_cases ht:20000<t.size
 .rw[aQ ht];exact ZAe t w ht
 .rw[aM ht]
  refine Ae0 t w (Aj 10 t) (Xw (Aj 10 t)) (X9 (Aj 10 t)) ZA rfl rfl (fun k hk h0=>?_) fun k hk h0=>?_
  .refine' ZWW;exact⟨AwL (Wl _ k) ZA,Ag4 (Wl _ k) _⟩
  .refine' ZKz;rw[Xw,e,Lx.2 h0];rfl
end Go.Proofs.YtfadhdacjpmmeaaGreatDoor
namespace Go.Proofs
open Go.Proofs.YtfadhdacjpmmeaaGreatDoor
open Go.Shelf
def Tryz.laysSF_ren:Go.Shelf.Ren:=⟨fun|6=>206|15=>278|14=>277|28=>326|29=>327|20=>318|21=>319|22=>320|23=>321|24=>322|25=>323|26=>324|27=>325|46=>352|47=>353|48=>354|49=>355|50=>356|57=>369|n=>n,fun|22=>31|24=>128|25=>209|3=>3|39=>229|0=>0|53=>254|55=>269|4=>4|46=>262|45=>261|50=>96|5=>5|9=>9|66=>283|70=>287|76=>296|77=>297|n=>n,fun|n=>n⟩
theorem Tryz.laysSF:Go.Proofs.SlLaysF0.n6 Tryz.prog Tryz.laysSF_ren:={
 mixed:=ZB
 f6:=⟨Tryz.f206.name,ZE,func206.trans (aU some ZB)⟩
 f14:=⟨Tryz.f277.name,ZE,func277.trans (aU some ZB)⟩
 f15:=func278.trans (aU some ZB)
 f20:=⟨Tryz.f318.name,ZE,func318.trans (aU some ZB)⟩
 f21:=⟨Tryz.f319.name,ZE,func319.trans (aU some ZB)⟩
 f22:=⟨Tryz.f320.name,ZE,func320.trans (aU some ZB)⟩
 f23:=⟨Tryz.f321.name,ZE,func321.trans (aU some ZB)⟩
 f24:=⟨Tryz.f322.name,ZE,func322.trans (aU some ZB)⟩
 f25:=⟨Tryz.f323.name,ZE,func323.trans (aU some ZB)⟩
 f26:=⟨Tryz.f324.name,ZE,func324.trans (aU some ZB)⟩
 f27:=⟨Tryz.f325.name,ZE,func325.trans (aU some ZB)⟩
 f28:=func326.trans (aU some ZB)
 f29:=func327.trans (aU some ZB)
 f46:=⟨Tryz.f352.name,ZE,func352.trans (aU some ZB)⟩
 f47:=func353.trans (aU some ZB)
 f48:=func354.trans (aU some ZB)
 f49:=⟨Tryz.f355.name,ZE,func355.trans (aU some ZB)⟩
 f50:=⟨Tryz.f356.name,ZE,func356.trans (aU some ZB)⟩
 f57:=⟨Tryz.f369.name,ZE,func369.trans (aU some ZB)⟩
 t0:=ZB2
 a0:=ZD5
 z0:=AtK
 v0:=AhQ
 t3:=AqT
 a3:=ZB3
 z3:=ZDZ
 v3:=ZBH
 t4:=ZCP
 a4:=ZDK
 z4:=ZD1
 v4:=ZBc
 t5:=ZAq
 a5:=ZCg
 z5:=ZBv
 v5:=ZA3
 t9:=ZBl
 a9:=ZCT
 z9:=ZCv
 v9:=ZDn
 t22:=dY
 a22:=isAgg31
 z22:=sizeOf31
 v22:=zeroValue31
 t25:=underlying209
 a25:=isAgg209
 z25:=sizeOf209
 v25:=zeroValue209
 t39:=ZBF
 a39:=ZDR
 z39:=AsQ
 v39:=Am2
 t45:=underlying261
 a45:=isAgg261
 z45:=sizeOf261
 v45:=zeroValue261
 t46:=underlying262
 a46:=isAgg262
 z46:=sizeOf262
 v46:=zeroValue262
 t50:=underlying96
 a50:=isAgg96
 z50:=sizeOf96
 v50:=zeroValue96
 t53:=BdI
 a53:=ZDk
 z53:=ZCz
 v53:=Aa4
 t55:=underlying269
 a55:=isAgg269
 z55:=sizeOf269
 v55:=zeroValue269
 t66:=underlying283
 a66:=isAgg283
 z66:=sizeOf283
 v66:=zeroValue283
 t70:=underlying287
 a70:=isAgg287
 z70:=sizeOf287
 v70:=zeroValue287
 t76:=underlying296
 a76:=isAgg296
 z76:=sizeOf296
 v76:=zeroValue296
 t77:=underlying297
 a77:=isAgg297
 z77:=sizeOf297
 v77:=zeroValue297}
end Go.Proofs
namespace Go.Proofs.YtfadhdacjpmmeaaGreatDoor
open Go.RowKit Go.Shelf
theorem At5:∀{a b:List UInt8},¬Lib.compareBytes b a<0->a<=b
 |[],b,_=>List.nil_le b
 |_::_,[],h=>Wa
 |a::p,b::q,h=>by
  unfold Lib.compareBytes at h;simp only[fA]at h
  split at h
  .exact absurd ZA h
  .split at h
   .rename_i h1 h2
    rw[<-List.not_lt,List.cons_lt_cons_iff];rintro(h3|⟨h3,_⟩)
    .rw[fA]at h3;omega
    .rw[h3]at h2;omega
   .rename_i h1 h2
    have e:a=b:=UInt8.toNat_inj.1 ZA;subst e;rw[<-List.not_lt,List.cons_lt_cons_iff];rintro(h3|⟨_,h3⟩)
    .rw[fA]at h3;omega
    .exact absurd h3 (List.not_lt.2 (At5 h))
theorem As7{xs d'}(hp:d'.toList.Perm xs)(h:Sort.SortedIn (ltOf fun x y:Fwd=>Lib.compareBytes x.src.data.toList y.src.data.toList) 0 xs.length d'):d'.toList.Pairwise fun x y=>j_ x.src y.src:=by
 refine' ZKc;have hz:d'.size=xs.length:=by rw[<-ZCa];exact hp.length_eq
 rw[ZCa]at hi hj;have hs:=h i j (aN _) rg ZA;rw[fR d' i hi,fR d' j hj]at hs;unfold ltOf at hs;exact At5 (iD hs)
theorem BbZ(x y:Fwd)(W):Calls Tryz.prog 207 #[.agg #[.string x.src,.string x.dst],.agg #[.string y.src,.string y.dst]] W fun e w'=>e=.returned (.int .i64 (Lib.compareBytes x.src.data.toList y.src.data.toList))/\∃q IS,w'=Sort.grow (W.drewN q) IS:=by
 have sG:=fun W'=>Tryz.strings_Compare x.src y.src W'
 change∀W',Calls Tryz.prog 200 _ _ _ at sG;generalize Lib.compareBytes x.src.data.toList y.src.data.toList=r at sG⊢;go_enter func207,ntmps207
 exact ZRh
theorem Ax4(fv w):Calls Tryz.prog 318 #[.slice none 0 0,.int .i64 0,.int .i64 0,fv] w fun e w'=>e=.returned (.tuple #[])/\w'=w:=by go_enter func318,ntmps318;go_wp2;refine' gJ;refine' Zu;exact ZW
theorem AwJ(lim fv w):Calls Tryz.prog 277 #[.slice none 0 0,.int .i64 0,.int .i64 0,.int .i64 lim,fv] w fun e w'=>e=.returned (.tuple #[])/\w'=w:=by
 go_enter func277,ntmps277;go_wp2;refine' gJ;rw[fT]
 go_wp2_with (go_at_call 318;refine(Ax4 _ _).mono ?_;refine' zW)
 refine' ZKW;exact ZW
theorem Av0(fv w):Calls Tryz.prog 206 #[.slice none 0 0,fv] w fun e w'=>e=.returned (.tuple #[])/\w'=w:=by
 have hl:∀W,Calls Tryz.prog 278 #[.int .u64 0] W fun e w'=>e=.returned (.int .i64 (Lib.bitLen 0:Nat))/\w'=W:=fun W=>by have h:=Any.bits_Len (SlLaysF0.n15.bits (P:=Tryz.prog) (ρ:=Tryz.laysSF_ren) {Tryz.laysSF with}) 0 W ZA ZA;exact h
 go_enter func206,ntmps206
 go_wp2_with (first|(go_at_call 278;refine(hl _).mono ?_;refine' zW)|(go_at_call 277;refine(AwJ _ _ _).mono ?_;refine' zW))
 go_end0
 exact ZW
theorem BcC(T base:Nat)(v)(xs:List Fwd)(w)(hv:own T base w v xs)(hl:xs.length<=1048576):
 Calls Tryz.prog 206 #[v,.func (.func 207) #[] #[]] w fun e w'=>e=.returned (.tuple #[])/\(∃ys,ys.Perm xs/\(ys.Pairwise fun x y=>j_ x.src y.src)/\own T base w' v ys)/\w.grownBy w' v.ownBlock:=by
 rcases hv.form with⟨rfl,rfl⟩|⟨g,c,rfl,hg,bz,hc,hm⟩
 .refine(Av0 (.func (.func 207) #[] #[]) w).mono ?_
  refine' zW;exact⟨rfl,⟨[],gQ _,ZAb,hv⟩,bK _ _⟩
 .have eg:∀args w,(callFunc 207 args).run Tryz.prog w=.ok (.enter 207 args) w:=iF func207 ZB rfl
  have hc:=AnyQ.slices_SortFunc Tryz.laysSF 2 isAgg128 sizeOf128 Fwd.cells (fun _=>rfl) (fun x v hv=>by simp[Fwd.cells]at hv;rcases hv with rfl|rfl<;>rfl) (fun x y:Fwd=>Lib.compareBytes x.src.data.toList y.src.data.toList) (An3 Fwd.src) 207 #[] g 0 c xs.toArray w eg (fun _ _ _ _ x y=>BbZ x y _) (Af9 hv) bz ZH;refine Calls.mono hc ?_;rintro e w' ⟨rfl,d',n,os,hp,QS,rfl⟩;have BV:=AhI hp;obtain⟨h1,h2⟩:=ApP (q:=n) (os:=os) hv BV;exact⟨rfl,⟨_,BV,As7 BV QS,h1⟩,h2⟩
def iU(fs ys:List Fwd):List Fwd:=(ys.filter fun x=>(Bc fs x.src).2.2).map fun x=>⟨x.src,(Bc fs x.src).1⟩
theorem AoF(fs):iU fs fs=bl fs:=rfl
theorem AwZ{fs ys:List Fwd}{k}(h:k<ys.length)(hf:(Bc fs ys[k].src).2.2=true):iU fs (ys.take (k+1))=iU fs (ys.take k)++[⟨ys[k].src,(Bc fs ys[k].src).1⟩]:=by unfold iU;exact ZGT
theorem AvG{fs ys:List Fwd}{k}(h:k<ys.length)(hf:(Bc fs ys[k].src).2.2=false):iU fs (ys.take (k+1))=iU fs (ys.take k):=by unfold iU;exact ZGT
theorem ApF(fs ys:List Fwd)(k):(iU fs (ys.take k)).length<=ys.length:=by unfold iU;exact ZVj
theorem ZES(v fs w)(hv:R_ w v fs)(ag:Be fs=true):
 Calls Tryz.prog 126 #[v] w fun e w'=>∃v' gs,e=.returned v'/\own 128 w.heap.size w' v' gs/\gs=Q7 fs/\B_ w w':=by
 refine' zR;refine' zl;refine' YA;have H1:=aA ag;have j7:=(Ch.1 ag).1;clear ag;refine' Tr;go_enter func126,ntmps126
 refine' ZIC;rw[H1.out];refine' zh;clear b1
 refine' ZC;go_loopw[3,14] (fun a i wr=>∃k:Nat,k<=fs.length/\i=.int .i64 k/\B_ w wr/\own 128 w.heap.size wr a (iU fs (fs.take k))) (fun _ i _=>fs.length - (intOf i).toNat)
 case atStart=>exact⟨0,aN _,rfl,l1,own.nil_ _ _ _⟩
 case round=>
  obtain⟨k,hk,rfl,lr,hA⟩:=hrel;refine' zd;clear l0 l1;by_cases ab:k<fs.length
  .obtain⟨b,o,rfl,hb,⟨qD,QT⟩,c1,c2⟩:=HR.out.fwdU k ab
   have kK:=aA (AwZ (fs:=fs) ab);have jg:=aA (AvG (fs:=fs) ab);have dc:=aA (ApF fs fs k);have tS:(Bc fs fs[k].src).1.size<=maxLen:=ZCm H1.out qD;refine' YR;generalize iU fs (fs.take k)=sa at *;refine' ZVd;obtain⟨ed,dj⟩:∃z,Hid ((Bc fs x.src).1=z):=⟨_,rfl⟩;obtain⟨nn,tr⟩:∃z,Hid ((Bc fs x.src).2.1=z):=⟨_,rfl⟩;rw[dj.out]at tS kK;refine' ZVe;have ll:=Aa lr (Aw de).1;refine' ZEl;refine' ZC;rw[<-kz.out];refine(Hj _ fs x.src _ (HV.out.on ll) qD ZA).mono ?_;rw[dj.out,tr.out];cases hf:(Bc fs x.src).2.2
   .refine' ZEy;have ff:=aA (jg.out hf);clear b4 B4 hf
    refine' ZC;go_roundw
    case rel=>exact⟨k+1,ZA,ZJ,l4,by rw[ff.out];exact jm.out⟩
    case measure=>exact ZK
   .refine' ZEy;have ff:=aA (kK.out hf);refine' Rc;clear b4 B4 hf;obtain⟨y,hy⟩:∃y:Fwd,y=⟨x.src,ed⟩:=⟨_,rfl⟩;have mf:x.src=y.src:=by{rw[hy]};have pJ:ed=y.dst:=by{rw[hy]};rw[<-hy]at ff;rw[mf]at y0 qD;rw[pJ]at tS;rw[pJ];clear hy mf pJ
    go_wp2_with (at_builtin;refine An (α:=Fwd) rfl (.tmp 27) (.tmp 32) 31 rfl w.heap.size 128 i1 _ 32 dY ji dr du dw rfl ZE (.slice AA sa.length cA) sa y rfl (jm.out.alloc _) ⟨w4.heap.size,0,none⟩ 1 (Fwd.cells y) rfl ⟨⟨qD,tS⟩,rfl⟩ (Bz w4 _ (Fwd.cells y)) ZN ZA ZH ?_;refine' zH)
    have l5:B_ w w5:=(Ae l4 (aB #[aG y.src,aG y.dst] 128)).grown aj ZH fun q hq=>(jm.out.blk q hq).1
    go_roundw
    case rel=>exact⟨k+1,ZA,ZJ,l5,by rw[ff.out];exact cg⟩
    case measure=>exact ZK
  .refine' Uu;rw[HE.out,bA,AoF]at hA;have HL:Hid ((bl fs).length<=1048576):=by show _<=_;have:=ApF fs fs fs.length;rw[bA,AoF]at this;omega
   obtain⟨D,hD⟩:∃D,D=bl fs:=⟨_,rfl⟩;rw[<-hD]at hA HL;have vt:=aA hD;clear hD;have HA:=aA hA;clear hA
   refine' ZC;refine(BcC _ _ _ D _ HA.out HL.out).mono ?_;rintro e w4 ⟨rfl,⟨gs,hp,QS,o4⟩,g4⟩;have l4:B_ w w4:=lr.grown g4 lr.size (fun q hq=>(HA.out.blk q hq).1);have HP:=aA (Au4 H1.out (hp.trans (by rw[vt.out])) QS);clear hp QS
   refine' ZI;exact⟨_,gs,rfl,o4,HP.out,l4⟩
theorem AnE(B d s vH w)(hD:Bv B w d s vH)(hB:B<=w.heap.size)(hk:Be s.day.fwds=true):
 Calls Tryz.prog 52 #[.pointer (P_ d),.string Dx] w (Bb B d {s with day:={s.day with fwds:=Q7 s.day.fwds}} vH (C5 (Q7 s.day.fwds)) w):=by
 refine' U7;have HDI:=aA (ZES vF s.day.fwds w hF.rd hk);obtain⟨A0,n0,c0',rfl, -, -, -, -⟩:=hF.rd;clear hD hF hk;refine' ZVk;have eu:(Dx.toList==[115,101,113,117,101,110,99,101])=false:=ZD
 have fw:(Dx.toList==[115,101,97,108])=false:=ZD
 have iq:(Dx.toList==[112,108,97,110])=false:=ZD
 have jz:(Dx.toList==[109,111,118,101,100])=false:=ZD
 have kB:(Dx.toList==[102,111,114,119,97,114,100,115])=false:=ZD
 refine' ZVl;refine' X4;refine HDI.out.mono ?_;rintro e w1 ⟨v1,gs,rfl,o1,IT,b1⟩;have qG:=aA (HD.out.below b1);obtain⟨_,_,_,_,_,⟨_,_,_,_,d4,_,_,_⟩,hf,_⟩:=Ca qG.out;have f4:=hf 4;have HO:=aA (o1.base_ hB);have HG:=aA IT;refine' eD;refine' PC;have HF:=aA (ZAV _ gs _ (D3 (u:=.slice A n c) HO.out qG.out.obj ZE 4).rd);clear o1 b1 IT hf
 refine' ZGZ;refine' zK;have dq:=aA b2;clear b2
 refine' ZI;rw[<-HG.out];exact Bb.pre it.out (Bb.post ⟨rfl,vH,qG.out.setFwds HO.out,(Kd.of_below (aF _ _)).set 4 _,Nu.refl _ _⟩ dq.out)
open Go.Lib Go.Sort
variable{P:Program}{α:Type}[Inhabited α]
theorem Af5(L:SlLaysF0.n20 P Tryz.laysIns_ren)(F:P.funcs[(368:Nat)]? =some Tryz.f368)(k)(aE:∀w,(isAgg 119).run P w=.ok true w)(zE:∀w,(Go.sizeOf 119).run P w=.ok k w)(enc:α->List Value)(g:Nat)(cb)(blk aw cap a b n:Nat)(d0 d w0 w)
 (R:RowK enc k w0 blk aw d0) (hs:d0.size=d.size) (S:SWK enc k w0 blk aw d w) (pX:a+n<=b) (hb:b+n<=d.size) (cm:d.size<4611686018427387904):
 Calls P 368 #[.slice (some ⟨blk,aw,none⟩) d.size cap,.int .i64 a,.int .i64 b,.int .i64 n,.func (.func g) #[] cb] w fun e w'=>e=.returned (.tuple #[])/\∃d',AeE a b n d d'/\SWK enc k w0 blk aw d' w':=by
 refine' ZGV;have a3:∀w,(isAgg 3).run P w=_:=L.a3;have z3:∀w,(Go.sizeOf 3).run P w=_:=L.z3;have a4:∀w,(isAgg 4).run P w=_:=L.a4;have z4:∀w,(Go.sizeOf 4).run P w=_:=L.z4;refine' ZGW;refine' ZKV;clear S;go_enter F,ntmps368;go_wp2
 go_loopg [10] n (fun kx KT wr=>∃(t:Nat) (dk:Array α),KT=.int .i64 t/\t<=n/\n - t<=kx/\dk.size=d.size/\Aside (SWK enc k w0 blk aw dk wr)/\Aside (AeE a b t d dk))
 case atStart=>exact⟨0,d,rfl,aN _,aC _,rfl,S0,AeE.zero a b d⟩
 case round=>
  clear S0;obtain⟨t,dk,rfl,KU,xq,lY,S1,Q1⟩:=hrel;by_cases ab:t<n
  .have ri:(t:Int)<(n:Int):=ZA
   have rt:aD.wrap ((t:Int)+1)=(t:Int)+1:=zA
   have ea44:((a:Int)+(t:Int)).toNat=a+t:=ZA
   have pa44:(0:Int)<=(a:Int)+(t:Int):=ZA
   have ba44:(a:Int)+(t:Int)<(d.size:Int):=ZA
   have ra44:aD.wrap ((a:Int)+(t:Int))=(a:Int)+(t:Int):=zA
   have ec44:((b:Int)+(t:Int)).toNat=b+t:=ZA
   have pc44:(0:Int)<=(b:Int)+(t:Int):=ZA
   have bc44:(b:Int)+(t:Int)<(d.size:Int):=ZA
   have rc44:aD.wrap ((b:Int)+(t:Int))=(b:Int)+(t:Int):=zA
   have S2:Aside (SWK enc k w0 blk aw (swp dk (a+t) (b+t)) ((wr.drew.setCells blk (aw+(a+t)*k) (enc dk[b+t]!)).setCells blk (aw+(b+t)*k) (enc dk[a+t]!))):=S1.out.swapped R (a+t) (b+t) ZA ZA;have KV:=S1.out.ld1 R ZA P (a+t) ZA;have KW:=S1.out.ld1 R ZA P (b+t) ZA;have KX:=S1.out.st1 R ZA P (a+t) ZA dk[b+t]!;have EB:=S1.out.st2 R ZA P (a+t) (b+t) ZA ZA dk[b+t]! dk[a+t]!;have VE:(enc dk[a+t]!).length=k:=R.hk _;have VF:(enc dk[b+t]!).length=k:=R.hk _;generalize enc dk[a+t]! =VG at S2 KV EB VE;generalize enc dk[b+t]! =VH at S2 KW KX EB VF;clear S1
   refine' ZC;go_big_region_o
   all_goals
    clear KV KW KX EB;generalize(wr.drew.setCells blk (aw+(a+t)*k) VH).setCells blk (aw+(b+t)*k) VG=w2 at S2⊢;go_wp2
    go_roundg (n - (t+1))
    case measure=>omega
    case rel=>exact⟨t+1,swp dk (a+t) (b+t),ZJ,ab,aC _,by rw[size_swp];exact lY,S2,Q1.out.step ZA ZA⟩
  .have ri:¬(t:Int)<(n:Int):=ZA
   obtain rfl:t=n:=ZA
   go_wp2
   go_end0
   exact⟨rfl,dk,Q1.out,S1.out⟩
theorem AoG(L:SlLaysF0.n20 P Tryz.laysIns_ren)(F0:P.funcs[(368:Nat)]? =some Tryz.f368)(F:P.funcs[(351:Nat)]? =some Tryz.f351)(k)(aE:∀w,(isAgg 119).run P w=.ok true w)(zE:∀w,(Go.sizeOf 119).run P w=.ok k w)(enc:α->List Value)(g:Nat)(cb blk aw cap a m b d0 d w0 w)
 (R:RowK enc k w0 blk aw d0) (hs:d0.size=d.size) (S:SWK enc k w0 blk aw d w) (BW:a<m) (vr:m<b) (hb:b<=d.size) (cm:d.size<4611686018427387904):
 Calls P 351 #[.slice (some ⟨blk,aw,none⟩) d.size cap,.int .i64 a,.int .i64 m,.int .i64 b,.func (.func g) #[] cb] w fun e w'=>e=.returned (.tuple #[])/\∃d',Jq a m b d d'/\SWK enc k w0 blk aw d' w':=by
 refine' ZGV;have a3:∀w,(isAgg 3).run P w=_:=L.a3;have z3:∀w,(Go.sizeOf 3).run P w=_:=L.z3;have a4:∀w,(isAgg 4).run P w=_:=L.a4;have z4:∀w,(Go.sizeOf 4).run P w=_:=L.z4;refine' ZGW;have e0:∀args w,(callFunc 368 args).run P w=.ok (.enter 368 args) w:=iF F0 ZB rfl;have HC:Aside (∀(a b n:Nat) (d:Array α) (w:World),d0.size=d.size->SWK enc k w0 blk aw d w->a+n<=b->b+n<=d.size->d.size<4611686018427387904->Calls P 368 #[.slice (some ⟨blk,aw,none⟩) d.size cap,.int .i64 a,.int .i64 b,.int .i64 n,.func (.func g) #[] cb] w fun e w'=>e=.returned (.tuple #[])/\∃d',AeE a b n d d'/\SWK enc k w0 blk aw d' w'):=
  fun a b n d w h1 h2 h3 h4 h5=>Af5 L F0 k aE zE enc g cb blk aw cap a b n d0 d w0 w R h1 h2 h3 h4 h5
 refine' ZKV;clear S;have r1:aD.wrap ((m:Int) - (a:Int))=((m - a:Nat):Int):=zA
 have r2:aD.wrap ((b:Int) - (m:Int))=((b - m:Nat):Int):=zA
 go_enter F,ntmps351;go_wp2;clear r1 r2
 go_loopg [10,11] (b - a) (fun kx KT VI wr=>∃(i j:Nat) (dk:Array α),KT=.int .i64 i/\VI=.int .i64 j/\1<=i/\1<=j/\i<=m/\m+j<=d.size/\i+j<=kx/\dk.size=d.size/\Aside (SWK enc k w0 blk aw dk wr)/\Aside (Mp m (iZ a m b d) d.size i j dk))
 case atStart=>exact⟨m - a,b - m,d,rfl,rfl,ZA,ZA,ZA,ZA,ZA,rfl,S0,Mp.start ZA ZA hb⟩
 case round=>
  clear S0;obtain⟨i,j,dk,rfl,rfl,km,EC,tR,KY,xq,lY,S1,Q1⟩:=hrel;have r3:aD.wrap ((m:Int) - (i:Int))=((m - i:Nat):Int):=zA
  by_cases ay:i=j
  .subst ay
   have h:=HC.out (m - i) m i dk wr ZA S1.out ZA ZA ZA;rw[lY]at h;have H:=aA h;clear h
   refine' ZUs;go_end0
   exact⟨rfl,d1,Bb3 ZA ZA (Q1.out.eq q1),s1⟩
  .have BK:¬(i:Int)=(j:Int):=ZA
   by_cases KZ:j<i
   .have VJ:(j:Int)<(i:Int):=ZA
    have h:=HC.out (m - i) m j dk wr ZA S1.out ZA ZA ZA;rw[lY]at h;have H:=aA h;clear h;have r4:aD.wrap ((i:Int) - (j:Int))=((i - j:Nat):Int):=zA
    refine' ZUt;have Q2:Aside (Mp m (iZ a m b d) d.size (i - j) j d1):=Q1.out.gt KZ q1;clear s1 q1
    go_roundg (i - j+j)
    case measure=>omega
    case rel=>exact⟨i - j,j,d1,rfl,rfl,ZA,EC,ZA,KY,aC _,tM,S2,Q2⟩
   .have VJ:¬(j:Int)<(i:Int):=ZA
    have h:=HC.out (m - i) (m+j - i) i dk wr ZA S1.out ZA ZA ZA;rw[lY]at h;have H:=aA h;clear h;have r4:aD.wrap ((j:Int) - (i:Int))=((j - i:Nat):Int):=zA
    have r5:aD.wrap ((m:Int)+(j:Int))=(m:Int)+(j:Int):=zA
    have r6:aD.wrap ((m:Int)+(j:Int) - (i:Int))=((m+j - i:Nat):Int):=zA
    refine' ZUt;have Q2:Aside (Mp m (iZ a m b d) d.size i (j - i) d1):=Q1.out.lt ZA q1;clear s1 q1
    go_roundg (i+(j - i))
    case measure=>omega
    case rel=>exact⟨i,j - i,d1,rfl,rfl,km,ZA,tR,ZA,aC _,tM,S2,Q2⟩
variable{P:Program}{α:Type}[Inhabited α]
structure UintFacts (P:Program):Prop where
 t:P.underlying 229=some (TypeDesc.int IntKind.u64)
 a:∀w,(isAgg 229).run P w=.ok false w
 z:∀w,(Go.sizeOf 229).run P w=.ok 1 w
 v:∀w,(zeroValue 229).run P w=.ok (aH IntKind.u64 0) w
theorem ZB6{i j n:Nat}(hi:i<=n)(hj:j<=n)(hn:n<4611686018427387904):aD.wrap ((i:Int)+(j:Int))=(i:Int)+(j:Int)/\IntKind.u64.wrap ((i:Int)+(j:Int))=(i:Int)+(j:Int)/\aD.wrap (((i:Int)+(j:Int))/2)=(((i+j)/2:Nat):Int)/\((i:Int)+(j:Int))/2=(((i+j)/2:Nat):Int):=by refine⟨zA,Uo,zA,ZA⟩
theorem Mrg.kept{α:Type}[Inhabited α]{lt:α->α->Bool}{G:α->α->Prop}{m e b d d'}(h:Mrg lt G m e b d)(hk:∀x,m<=x->d'[x]! =d[x]!)(he:m<=e):Mrg lt G m e b d':=
 ⟨fun i j h1 h2 h3=>by rw[hk i h1,hk j ZA];exact h.l i j h1 h2 h3,fun i j h1 h2 h3=>by rw[hk i ZA,hk j ZA];exact h.r i j h1 h2 h3,
   fun i j h1 h2 h3 h4=>by rw[hk i h1,hk j ZA];exact h.g i j h1 h2 h3 h4⟩
theorem AiO(L:SlLaysF0.n20 P Tryz.laysIns_ren)(U:UintFacts P)(F0:P.funcs[(368:Nat)]? =some Tryz.f368)(F1:P.funcs[(351:Nat)]? =some Tryz.f351)(F:P.funcs[(315:Nat)]? =some Tryz.f315)(k)(aE:∀w,(isAgg 119).run P w=.ok true w)(zE:∀w,(Go.sizeOf 119).run P w=.ok k w)(enc:α->List Value)(cf:α->α->Int)(lt:α->α->Bool)(G:α->α->Prop)(g:Nat)(cb blk aw cap d0 w0)
 (eg:∀args w,(callFunc g args).run P w=.ok (.enter g args) w) (q8:CmpLays P g cb enc k cf blk aw d0.size w0) (R:RowK enc k w0 blk aw d0) (hw:SWO lt) (hG:∀x y,G x y->(cf y x<0↔lt y x=true)) (cm:d0.size<4611686018427387904):
 ∀(N a m b:Nat) (d:Array α) (w:World),b - a<=N->d.size=d0.size->SWK enc k w0 blk aw d w->a<m->m<b->b<=d.size->Mrg lt G a m b d->
 Calls P 315 #[.slice (some ⟨blk,aw,none⟩) d.size cap,.int .i64 a,.int .i64 m,.int .i64 b,.func (.func g) #[] cb] w fun e w'=>e=.returned (.tuple #[])/\∃d',(PermIn a b d d'/\SortedIn lt a b d')/\SWK enc k w0 blk aw d' w':=by
 refine' ZGV;have a3:∀w,(isAgg 3).run P w=_:=L.a3;have z3:∀w,(Go.sizeOf 3).run P w=_:=L.z3;have a4:∀w,(isAgg 4).run P w=_:=L.a4;have z4:∀w,(Go.sizeOf 4).run P w=_:=L.z4;refine' ZGW;have tU:P.underlying 229=_:=U.t;have e1:∀args w,(callFunc 351 args).run P w=.ok (.enter 351 args) w:=iF F1 ZB rfl;have e2:∀args w,(callFunc 315 args).run P w=.ok (.enter 315 args) w:=iF F ZB rfl;have ux:Aside (∀(a m b:Nat) (d:Array α) (w:World),d0.size=d.size->SWK enc k w0 blk aw d w->a<m->m<b->b<=d.size->Calls P 351 #[.slice (some ⟨blk,aw,none⟩) d.size cap,.int .i64 a,.int .i64 m,.int .i64 b,.func (.func g) #[] cb] w fun e w'=>e=.returned (.tuple #[])/\∃d',Jq a m b d d'/\SWK enc k w0 blk aw d' w'):=
  fun a m b d w h1 h2 h3 h4 h5=>AoG L F0 F1 k aE zE enc g cb blk aw cap a m b d0 d w0 w R h1 h2 h3 h4 h5 ZA
 have HC:Aside (CmpLays P g cb enc k cf blk aw d0.size w0):=q8;have HW:Aside (SWO lt):=hw;have HG:Aside (∀x y,G x y->(cf y x<0↔lt y x=true)):=hG;clear q8 hw hG;intro N
 induction N with
 |zero=>intro a m b d w h1 h2 h3 h4 h5;omega
 |succ N ih=>
  intro a m b d w hN rS S BW vr hb M;have hs:d0.size=d.size:=rS.symm;clear rS;have HI:Aside _:=ih;clear ih;refine' ZKV;have M0:Aside (Mrg lt G a m b d):=M;clear S M;have lY:d.size<4611686018427387904:=ZA
  have r1:aD.wrap ((m:Int) - (a:Int))=(m:Int) - (a:Int):=zA
  have r2:aD.wrap ((b:Int) - (m:Int))=(b:Int) - (m:Int):=zA
  go_enter F,ntmps315;by_cases uy:m=a+1
  .have ar:(m:Int) - (a:Int)=1:=ZA
   have hma:m<=a+1:=ZA
   have sk:Aside (m=a+1):=uy;clear uy;go_wp2;clear r1 r2
   go_loopg [10,11] (b - m) (fun kx KT VI wr=>∃(i j:Nat),KT=.int .i64 i/\VI=.int .i64 j/\m<=i/\i<=j/\j<=b/\j - i<=kx/\Aside (SWK enc k w0 blk aw d wr)/\Aside (i=m\/lt d[i - 1]! d[a]! =true)/\Aside (j=b\/lt d[j]! d[a]! =false))
   case atStart=>exact⟨m,b,rfl,rfl,aC _,ZA,aC _,aC _,S0,aZ rfl,aZ rfl⟩
   case round=>
    clear S0;obtain⟨i,j,rfl,rfl,xp,rg,hjb,xq,S1,hL,hR⟩:=hrel;by_cases ab:i<j
    .refine' ZUu;have ea:((a:Int)).toNat=a:=ZA
     have pa:(0:Int)<=(a:Int):=ZA
     have ba:(a:Int)<(d.size:Int):=ZA
     have wa:aD.wrap ((a:Int))=(a:Int):=zA
     have rh:aD.wrap ((h:Int)+1)=(h:Int)+1:=zA
     have hg:=HG.out _ _ (M0.out.g a h (aC _) ZA ZA ZA);by_cases hv:cf d[h]! d[a]! <0
     .have HL:Aside (lt d[h+1 - 1]! d[a]! =true):=hg.1 hv
      refine' ZUv;have ww:decide (cf d[h]! d[a]! <0)=true:=aL hv;refine' ZUw;go_roundg (j - (h+1))
      case measure=>omega
      case rel=>exact⟨h+1,j,ZJ,rfl,ZA,ZA,hjb,aC _,S2,gT HL.out,hR⟩
     .have HL:Aside (lt d[h]! d[a]! =false):=by
       show _=_;cases hq:lt d[h]! d[a]! with
       |false=>rfl
       |true=>exact absurd (hg.2 hq) hv
      refine' ZUv;have ww:decide (cf d[h]! d[a]! <0)=false:=aP hv;refine' ZUw;go_roundg (h - i)
      case measure=>omega
      case rel=>exact⟨i,h,rfl,rfl,xp,MX,ZA,aC _,S2,hL,gT HL.out⟩
    .obtain rfl:i=j:=ZA
     obtain⟨ip,rfl⟩:∃ip,i=ip+1:=⟨i - 1,ZA⟩;have hwp:aD.wrap (ip:Int)=(ip:Int):=zA
     clear ab;go_wp2
     go_loopg [13] (ip - a) (fun kx s13 wr=>∃(kk:Nat) (dk:Array α),s13=.int .i64 kk/\a<=kk/\kk<=ip/\ip - kk<=kx/\dk.size=d.size/\Aside (SWK enc k w0 blk aw dk wr)/\Aside (Jq a (a+1) (kk+1) d dk))
     case atStart=>exact⟨a,d,rfl,aC _,ZA,aC _,rfl,S1,(Jq.none ZA).2⟩
     case round=>
      clear S1;obtain⟨kk,dk,rfl,hak,bd,WV,mt,S1,Q1⟩:=hrel;by_cases ab:kk<ip
      .have ri:(kk:Int)<(ip:Int):=ZA
       have ek:((kk:Int)).toNat=kk:=ZA
       have pk:(0:Int)<=(kk:Int):=ZA
       have bk:(kk:Int)<(d.size:Int):=ZA
       have wk:aD.wrap ((kk:Int))=(kk:Int):=zA
       have el:((kk:Int)+1).toNat=kk+1:=ZA
       have pl:(0:Int)<=(kk:Int)+1:=ZA
       have AgH:(kk:Int)+1<(d.size:Int):=ZA
       have wl:aD.wrap ((kk:Int)+1)=(kk:Int)+1:=zA
       have S2:Aside (SWK enc k w0 blk aw (swp dk (kk) (kk+1)) ((wr.drew.setCells blk (aw+(kk)*k) (enc dk[kk+1]!)).setCells blk (aw+(kk+1)*k) (enc dk[kk]!))):=S1.out.swapped R (kk) (kk+1) ZA ZA;have lA:=S1.out.ld1 R ZA P (kk) ZA;have lB:=S1.out.ld1 R ZA P (kk+1) ZA;have sA:=S1.out.st1 R ZA P (kk) ZA dk[kk+1]!;have sB:=S1.out.st2 R ZA P (kk) (kk+1) ZA ZA dk[kk+1]! dk[kk]!;have nA:(enc dk[kk]!).length=k:=R.hk _;have nB:(enc dk[kk+1]!).length=k:=R.hk _;generalize enc dk[kk]! =cI at S2 lA sB nA;generalize enc dk[kk+1]! =cJ at S2 lB sA sB nB;clear S1
       refine' ZC;go_big_region_o
       all_goals
        clear lA lB sA sB;generalize(wr.drew.setCells blk (aw+kk*k) cJ).setCells blk (aw+(kk+1)*k) cI=w2 at S2⊢;go_wp2
        go_roundg (ip - (kk+1))
        case measure=>omega
        case rel=>exact⟨kk+1,swp dk kk (kk+1),ZJ,ZA,ab,aC _,by rw[size_swp];exact mt,S2,Q1.out.up hak ZA⟩
      .have ri:¬(kk:Int)<(ip:Int):=ZA
       obtain rfl:kk=ip:=ZA
       go_wp2
       refine' ZKW;have uy:=sk.out;subst uy;exact⟨rfl,dk,Mrg.left1 HW.out M0.out hb ZA hjb hL.out hR.out Q1.out,S1.out⟩
  .have ar:¬(m:Int) - (a:Int)=1:=ZA
   have hz1b:((m:Int) - (a:Int)==1)=false:=beq_eq_false_iff_ne.2 ar;by_cases kG:b=m+1
   .have ap:(b:Int) - (m:Int)=1:=ZA
    have hbm:b<=m+1:=ZA
    have lJ:Aside (b=m+1):=kG;clear kG;go_wp2;clear r1 r2
    go_loopg [14,15] (m - a) (fun kx s14 s15 wr=>∃(i j:Nat),s14=.int .i64 i/\s15=.int .i64 j/\a<=i/\i<=j/\j<=m/\j - i<=kx/\Aside (SWK enc k w0 blk aw d wr)/\Aside (i=a\/lt d[m]! d[i - 1]! =false)/\Aside (j=m\/lt d[m]! d[j]! =true))
    case atStart=>exact⟨a,m,rfl,rfl,aC _,ZA,aC _,aC _,S0,aZ rfl,aZ rfl⟩
    case round=>
     clear S0;obtain⟨i,j,rfl,rfl,hai,rg,KY,xq,S1,hL,hR⟩:=hrel;by_cases ab:i<j
     .refine' ZUu;have em:((m:Int)).toNat=m:=ZA
      have pm:(0:Int)<=(m:Int):=ZA
      have bm:(m:Int)<(d.size:Int):=ZA
      have wm:aD.wrap ((m:Int))=(m:Int):=zA
      have rh:aD.wrap ((h:Int)+1)=(h:Int)+1:=zA
      have hg:=HG.out _ _ (M0.out.g h m ZA ZA (aC _) vr);by_cases hv:cf d[m]! d[h]! <0
      .have HL:Aside (lt d[m]! d[h]! =true):=hg.1 hv
       refine' ZUx;have ww:decide (cf d[m]! d[h]! <0)=true:=aL hv;refine' ZUy;go_roundg (h - i)
       case measure=>omega
       case rel=>exact⟨i,h,rfl,rfl,hai,MX,ZA,aC _,S2,hL,gT HL.out⟩
      .have HL:Aside (lt d[m]! d[h+1 - 1]! =false):=by
        show lt d[m]! d[h]! =_;cases hq:lt d[m]! d[h]! with
        |false=>rfl
        |true=>exact absurd (hg.2 hq) hv
       refine' ZUx;have ww:decide (cf d[m]! d[h]! <0)=false:=aP hv;refine' ZUy;go_roundg (j - (h+1))
       case measure=>omega
       case rel=>exact⟨h+1,j,ZJ,rfl,ZA,ZA,KY,aC _,S2,gT HL.out,hR⟩
     .obtain rfl:i=j:=ZA
      have ri:¬(i:Int)<(i:Int):=ZA
      clear ab;go_wp2
      go_loopg [17] (m - i) (fun kx s17 wr=>∃(kk:Nat) (dk:Array α),s17=.int .i64 kk/\i<=kk/\kk<=m/\kk - i<=kx/\dk.size=d.size/\Aside (SWK enc k w0 blk aw dk wr)/\Aside (Jq kk m (m+1) d dk))
      case atStart=>exact⟨m,d,rfl,KY,aC _,aC _,rfl,S1,(Jq.none ZA).1⟩
      case round=>
       clear S1;obtain⟨kk,dk,rfl,MY,tq,WV,mt,S1,Q1⟩:=hrel;by_cases ab:i<kk
       .have MZ:(i:Int)<(kk:Int):=ZA
        obtain⟨kp,rfl⟩:∃kp,kk=kp+1:=⟨kk - 1,ZA⟩;have hltz3:(i:Int)<(kp:Int)+1:=ZA
        have el:((kp:Int)+1).toNat=kp+1:=ZA
        have pl:(0:Int)<=(kp:Int)+1:=ZA
        have AgH:(kp:Int)+1<(d.size:Int):=ZA
        have wl:aD.wrap ((kp:Int)+1)=(kp:Int)+1:=zA
        have ek:((kp:Int)).toNat=kp:=ZA
        have pk:(0:Int)<=(kp:Int):=ZA
        have bk:(kp:Int)<(d.size:Int):=ZA
        have wk:aD.wrap ((kp:Int))=(kp:Int):=zA
        have S2:Aside (SWK enc k w0 blk aw (swp dk (kp+1) (kp)) ((wr.drew.setCells blk (aw+(kp+1)*k) (enc dk[kp]!)).setCells blk (aw+(kp)*k) (enc dk[kp+1]!))):=S1.out.swapped R (kp+1) (kp) ZA ZA;have lA:=S1.out.ld1 R ZA P (kp+1) ZA;have lB:=S1.out.ld1 R ZA P (kp) ZA;have sA:=S1.out.st1 R ZA P (kp+1) ZA dk[kp]!;have sB:=S1.out.st2 R ZA P (kp+1) (kp) ZA ZA dk[kp]! dk[kp+1]!;have nA:(enc dk[kp+1]!).length=k:=R.hk _;have nB:(enc dk[kp]!).length=k:=R.hk _;generalize enc dk[kp+1]! =cI at S2 lA sB nA;generalize enc dk[kp]! =cJ at S2 lB sA sB nB;clear S1
        refine' ZC;go_big_region_o
        all_goals
         clear lA lB sA sB;generalize(wr.drew.setCells blk (aw+(kp+1)*k) cJ).setCells blk (aw+kp*k) cI=w2 at S2⊢;go_wp2
         go_roundg (kp - i)
         case measure=>omega
         case rel=>exact⟨kp,swp dk (kp+1) kp,ZJ,ZA,ZA,aC _,by rw[size_swp];exact mt,S2,Q1.out.down tq ZA⟩
       .have MZ:¬(i:Int)<(kk:Int):=ZA
        obtain rfl:kk=i:=ZA
        go_wp2
        refine' ZKW;have kG:=lJ.out;subst kG;exact⟨rfl,dk,Mrg.right1 HW.out M0.out hb hai KY hL.out hR.out Q1.out,S1.out⟩
   .have ap:¬(b:Int) - (m:Int)=1:=ZA
    have hz2b:((b:Int) - (m:Int)==1)=false:=beq_eq_false_iff_ne.2 ap;obtain⟨q1,q2,q3,q4⟩:=ZB6 (show a<=d.size by omega) (show b<=d.size by omega) lY;obtain⟨mid,yM⟩:∃mid,(a+b)/2=mid:=⟨_,rfl⟩;rw[yM]at q3 q4;have WW:Aside (mid=(a+b)/2):=yM.symm;have qq:a<mid:=ZA
    have nD:mid<b:=ZA
    obtain⟨lo,wC⟩:∃lo,lo=if mid<m then mid+m - b else a:=⟨_,rfl⟩;obtain⟨hi,wD⟩:∃hi,hi=if mid<m then mid else m:=⟨_,rfl⟩;have sx:Aside (lo=if mid<m then mid+m - b else a):=wC;have HHI:Aside (hi=if mid<m then mid else m):=wD;have r3:aD.wrap ((mid:Int)+(m:Int))=(mid:Int)+(m:Int):=zA
    have r4:aD.wrap ((mid:Int)+(m:Int) - (b:Int))=(mid:Int)+(m:Int) - (b:Int):=zA
    have r5:aD.wrap ((mid:Int)+(m:Int) - 1)=(mid:Int)+(m:Int) - 1:=zA
    have RJ:a<=lo/\lo<=hi/\hi<=m/\hi<=mid/\mid+m - b<=lo/\(∀c,lo<=c->c<hi->m<=mid+m - 1 - c/\mid+m - 1 - c<b):=by
     by_cases hc:mid<m
     .rw[aQ hc]at wC wD;exact ZUz
     .rw[aM hc]at wC wD;exact ZUz
    obtain⟨u1,u2,u3,u4,u5,u6⟩:=RJ;have U6:Aside (∀c,lo<=c->c<hi->m<=mid+m - 1 - c/\mid+m - 1 - c<b):=u6;have xE:(mid<m/\(mid:Int)+(m:Int) - (b:Int)=(lo:Int)/\(mid:Int)=(hi:Int))\/(¬mid<m/\(a:Int)=(lo:Int)/\(m:Int)=(hi:Int)):=by
     by_cases hc:mid<m
     .rw[aQ hc]at wC wD;exact aZ ⟨hc,ZA,ZA⟩
     .rw[aM hc]at wC wD;exact gT ⟨hc,ZA,ZA⟩
    clear wC wD u6;have fx:Aside _:=xE;have ax:(mid:Int)<(m:Int)\/¬(mid:Int)<(m:Int):=ZA
    clear xE yM;rcases ax with ax|ax
    all_goals
     go_wp2;clear r1 r2 r3 r4 r5 q1 q2 q3 q4
     go_loopg [20,21] (hi - lo) (fun kx s20 s21 wr=>∃(s r:Nat),s20=.int .i64 s/\s21=.int .i64 r/\lo<=s/\s<=r/\r<=hi/\r - s<=kx/\Aside (SWK enc k w0 blk aw d wr)/\Aside (s=lo\/lt d[mid+m - 1 - (s - 1)]! d[s - 1]! =false)/\Aside (r=hi\/lt d[mid+m - 1 - r]! d[r]! =true))
     case atStart=>
      refine⟨lo,hi,?_,?_,aC _,u2,aC _,aC _,S0,aZ rfl,aZ rfl⟩
      .rcases fx.out with⟨_,h1,h2⟩|⟨_,h1,h2⟩
       .first|rw[h1]|omega
       .first|rw[h1]|omega
      .rcases fx.out with⟨_,h1,h2⟩|⟨_,h1,h2⟩
       .first|rw[h2]|omega
       .first|rw[h2]|omega
     case round=>
      clear S0;obtain⟨s,r,rfl,rfl,q9,RS,hrh,xq,S1,hL,hR⟩:=hrel;by_cases ab:s<r
      .have ri:(s:Int)<(r:Int):=ZA
       obtain⟨q1,q2,q3,q4⟩:=ZB6 (show s<=d.size by omega) (show r<=d.size by omega) lY;obtain⟨c,hh⟩:∃c,(s+r)/2=c:=⟨_,rfl⟩;rw[hh]at q3 q4;have MX:s<=c:=ZA
       have hh2:c<r:=ZA
       clear hh;obtain⟨v1,v2⟩:=U6.out c ZA ZA;obtain⟨pc,WX⟩:∃pc,mid+m - 1 - c=pc:=⟨_,rfl⟩;have nZ:(mid:Int)+(m:Int) - 1 - (c:Int)=(pc:Int):=ZA
       have IZ:Aside (mid+m - 1 - c=pc):=WX;rw[WX]at v1 v2;have rpc:aD.wrap ((mid:Int)+(m:Int) - 1 - (c:Int))=(pc:Int):=zA
       clear WX;have eh:((pc:Int)).toNat=pc:=ZA
       have ph:(0:Int)<=(pc:Int):=ZA
       have bh:(pc:Int)<(d.size:Int):=ZA
       have wh:aD.wrap ((pc:Int))=(pc:Int):=zA
       have ea:((c:Int)).toNat=c:=ZA
       have pa:(0:Int)<=(c:Int):=ZA
       have ba:(c:Int)<(d.size:Int):=ZA
       have wa:aD.wrap ((c:Int))=(c:Int):=zA
       have rh:aD.wrap ((c:Int)+1)=(c:Int)+1:=zA
       have hg:=HG.out _ _ (M0.out.g c pc ZA ZA v1 v2);by_cases hv:cf d[pc]! d[c]! <0
       .have HL:Aside (lt d[mid+m - 1 - c]! d[c]! =true):=by{show _=_;rw[IZ.out];exact hg.1 hv};refine' ZU0;have ww:decide (cf d[pc]! d[c]! <0)=true:=aL hv;refine' ZU1;go_roundg (c - s)
        case measure=>omega
        case rel=>exact⟨s,c,rfl,rfl,q9,MX,ZA,aC _,S2,hL,gT HL.out⟩
       .have HL:Aside (lt d[mid+m - 1 - (c+1 - 1)]! d[c+1 - 1]! =false):=by
         show lt d[mid+m - 1 - c]! d[c]! =_;rw[IZ.out];cases hq:lt d[pc]! d[c]! with
         |false=>rfl
         |true=>exact absurd (hg.2 hq) hv
        refine' ZU0;have ww:decide (cf d[pc]! d[c]! <0)=false:=aP hv;refine' ZU1;go_roundg (r - (c+1))
        case measure=>omega
        case rel=>exact⟨c+1,r,ZJ,rfl,ZA,ZA,hrh,aC _,S2,gT HL.out,hR⟩
      .obtain rfl:s=r:=ZA
       have ri:¬(s:Int)<(s:Int):=ZA
       have SP:Aside (Split lt a m b mid s d):=Split.of HW.out BW vr WW.out sx.out HHI.out M0.out q9 hrh hL.out hR.out;obtain⟨en,WY⟩:∃en,mid+m - s=en:=⟨_,rfl⟩;have hez:(mid:Int)+(m:Int) - (s:Int)=(en:Int):=ZA
       have rez:aD.wrap ((mid:Int)+(m:Int) - (s:Int))=(en:Int):=zA
       have RV:Aside (mid+m - s=en):=WY;have x1:=SP.out.em;have x2:=SP.out.eb;have x3:=SP.out.sa;have x4:=SP.out.sm;have x5:=SP.out.sd;rw[WY]at x1 x2;clear WY ab hL hR sx HHI U6;have tY:Aside (∀d1,Jq s m en d d1->d1.size=d.size/\PermIn a b d d1/\Mrg lt G a s mid d1/\Mrg lt G mid en b d1/\(∀i j,a<=i->i<mid->mid<=j->j<b->le' lt d1[i]! d1[j]!)):=fun d1 hr=>by{have hv:=Split.halves HW.out M0.out SP.out (by rw[RV.out];exact hr);rw[RV.out]at hv;exact⟨hr.1,permIn_mono _ _ _ _ _ _ ZA ZA hb (hr.permIn ZA ZA ZA),hv.1,hv.2.1,hv.2.2⟩};have sk:Aside (∀d1 w1,Jq s m en d d1->SWK enc k w0 blk aw d1 w1->a<s->s<mid->Calls P 315 #[.slice (some ⟨blk,aw,none⟩) d.size cap,.int .i64 a,.int .i64 s,.int .i64 mid,.func (.func g) #[] cb] w1 fun e w'=>e=.returned (.tuple #[])/\∃d',(PermIn a mid d1 d'/\SortedIn lt a mid d')/\SWK enc k w0 blk aw d' w'):=fun d1 w1 hr hS h1 h2=>by{obtain⟨z1,_,z3,_,_⟩:=tY.out d1 hr;have h:=HI.out a s mid d1 w1 ZA ZA hS h1 h2 ZA z3;rw[z1]at h;exact h};have lJ:Aside (∀d1 d3 w3,Jq s m en d d1->PermIn a mid d1 d3->SWK enc k w0 blk aw d3 w3->mid<en->en<b->Calls P 315 #[.slice (some ⟨blk,aw,none⟩) d.size cap,.int .i64 mid,.int .i64 en,.int .i64 b,.func (.func g) #[] cb] w3 fun e w'=>e=.returned (.tuple #[])/\∃d',(PermIn mid b d3 d'/\SortedIn lt mid b d')/\SWK enc k w0 blk aw d' w'):=fun d1 d3 w3 hr hp hS h1 h2=>by{obtain⟨z1,_,_,z4,_⟩:=tY.out d1 hr;have z3:d3.size=d.size:=hp.1.trans z1;have h:=HI.out mid en b d3 w3 ZA ZA hS h1 h2 ZA (z4.kept (fun x hx=>hp.2.1 x (gT hx)) ZA);rw[z3]at h;exact h};have EP:Aside (∀d1 d3 d4,Jq s m en d d1->PermIn a mid d1 d3->SortedIn lt a mid d3->PermIn mid b d3 d4->SortedIn lt mid b d4->PermIn a b d d4/\SortedIn lt a b d4):=fun d1 d3 d4 hr p1 t1 p2 t2=>by{obtain⟨z1,z2,_,_,z5⟩:=tY.out d1 hr;have hJ:=Mrg.join (G:=G) ZA ZA ZA z5 p1 t1 p2 t2;exact⟨permIn_trans _ _ _ _ _ z2 hJ.1,hJ.2⟩};have RW:Aside (∀d1,Jq s m en d d1->(s=mid\/s=a)->SortedIn lt a mid d1):=fun d1 hr h=>by
        obtain⟨_,_,z3,_,_⟩:=tY.out d1 hr;rcases h with h|h
        .have:=z3.l;rwa [h]at this
        .have:=z3.r;rwa [h]at this
       have RY:Aside (∀d1 d3,Jq s m en d d1->PermIn a mid d1 d3->(en=b\/en=mid)->SortedIn lt mid b d3):=fun d1 d3 hr hp h=>by
        obtain⟨_,_,_,z4,_⟩:=tY.out d1 hr;have z4:=z4.kept (fun x hx=>hp.2.1 x (gT hx)) ZA;rcases h with h|h
        .have:=z4.l;rwa [h]at this
        .have:=z4.r;rwa [h]at this
       have WZ:Aside (¬(s<m/\m<en)->Jq s m en d d):=fun h=>by
        rcases(show s=m\/en=m by omega)with h|h
        .rw[h];exact(Jq.none ZA).1
        .rw[h];exact(Jq.none ZA).2
       have uz:Aside (∀(x y:Nat) (e:Array α),PermIn x y e e):=fun x y e=>permIn_refl e x y
       clear tY HI M0 SP RV;by_cases BU:s<m
       .have XA:(s:Int)<(m:Int):=ZA
        by_cases sF:m<en
        .have XB:(m:Int)<(en:Int):=ZA
         have mQ:s<mid:=ZA
         have EQ:(s:Int)<(mid:Int):=ZA
         refine' ZU2;have HR:=aA (ux.out s m en d wr ZA S1.out BU sF ZA);by_cases ha:a<s
         .have KR:(a:Int)<(s:Int):=ZA
          by_cases dq:en<b
          .have tZ:(en:Int)<(b:Int):=ZA
           go_wp2_with (first|(refine' ZGX)|(go_at_call 315;first|refine' ZU3|((with_reducible refine(lJ.out d1 d3 w3 R1.out P3.out S3.out nl dq).mono ?_);rintro e w4 ⟨rfl,d4,⟨p4,q4⟩,s4⟩;have P4:Aside (PermIn mid b d3 d4):=p4;refine' ZKX)))
           go_end0
           exact⟨rfl,d4,EP.out d1 d3 d4 R1.out P3.out T3.out P4.out T4.out,S4.out⟩
          .have tZ:¬(en:Int)<(b:Int):=ZA
           go_wp2_with (first|(refine' ZGX)|(go_at_call 315;first|refine' ZU3))
           go_end0
           exact⟨rfl,d3,EP.out d1 d3 d3 R1.out P3.out T3.out (uz.out _ _ _) (RY.out d1 d3 R1.out P3.out ZA),S3.out⟩
         .have KR:¬(a:Int)<(s:Int):=ZA
          by_cases dq:en<b
          .have tZ:(en:Int)<(b:Int):=ZA
           go_wp2_with (first|(refine' ZGX)|(go_at_call 315;first|((with_reducible refine(lJ.out d1 d1 w1 R1.out (uz.out _ _ _) S2.out nl dq).mono ?_);rintro e w4 ⟨rfl,d4,⟨p4,q4⟩,s4⟩;have P4:Aside (PermIn mid b d1 d4):=p4;refine' ZKX)))
           go_end0
           exact⟨rfl,d4,EP.out d1 d1 d4 R1.out (uz.out _ _ _) (RW.out d1 R1.out ZA) P4.out T4.out,S4.out⟩
          .have tZ:¬(en:Int)<(b:Int):=ZA
           go_wp2_with (refine' ZGX)
           go_end0
           exact⟨rfl,d1,EP.out d1 d1 d1 R1.out (uz.out _ _ _) (RW.out d1 R1.out ZA) (uz.out _ _ _) (RY.out d1 d1 R1.out (uz.out _ _ _) ZA),S2.out⟩
        .have XB:¬(m:Int)<(en:Int):=ZA
         have mQ:s=mid:=ZA
         have EQ:¬(s:Int)<(mid:Int):=ZA
         have KR:(a:Int)<(s:Int):=ZA
         refine' ZU2;have dq:en<b:=ZA
         have tZ:(en:Int)<(b:Int):=ZA
         have NB:=aA mQ;clear mQ;refine' ZKY;go_wp2_with (go_at_call 315;first|((with_reducible refine(lJ.out d d wr R0.out (uz.out _ _ _) S1.out nl dq).mono ?_);rintro e w4 ⟨rfl,d4,⟨p4,q4⟩,s4⟩;have P4:Aside (PermIn mid b d d4):=p4;refine' ZKX))
         go_end0
         exact⟨rfl,d4,EP.out d d d4 R0.out (uz.out _ _ _) (RW.out d R0.out (aZ NB.out)) P4.out T4.out,S4.out⟩
       .have XA:¬(s:Int)<(m:Int):=ZA
        have NA:¬(mid:Int)<(en:Int):=ZA
        have ha:a<s:=ZA
        have KR:(a:Int)<(s:Int):=ZA
        by_cases mQ:s<mid
        .have EQ:(s:Int)<(mid:Int):=ZA
         refine' ZKY;first
          |(exfalso;omega)
          |(go_wp2_with (go_at_call 315;first|((with_reducible refine(sk.out d wr R0.out S1.out ha mQ).mono ?_);rintro e w3 ⟨rfl,d3,⟨p3,q3⟩,s3⟩;have P3:Aside (PermIn a mid d d3):=p3;refine' ZU4));go_end0;exact⟨rfl,d3,EP.out d d3 d3 R0.out P3.out T3.out (uz.out _ _ _) (RY.out d d3 R0.out P3.out ZA),S3.out⟩)
        .have EQ:¬(s:Int)<(mid:Int):=ZA
         refine' ZKY;first
          |(exfalso;omega)
          |(go_wp2;go_end0;exact⟨rfl,d,EP.out d d d R0.out (uz.out _ _ _) (RW.out d R0.out ZA) (uz.out _ _ _) (RY.out d d R0.out (uz.out _ _ _) ZA),S1.out⟩)
variable{P:Program}
instance:Inhabited (Ltr×Nat):=⟨(⟨0,⟨#[]⟩⟩,0)⟩
def Tg(n s:Nat)(d:Array (Ltr×Nat)):Prop:=∀i,i<n->(d[i]!).2/s=i/s
theorem Tg.perm{n s a b d d'}(h:Tg n s d)(q)(ha:q*s<=a)(hb:b<=(q+1)*s)(UN:b<=n)(hs:0<s)(hp:PermIn a b d d')(hz:n<=d.size):Tg n s d':=fun i hi=>by
 by_cases h1:a<=i/\i<b
 .have e:i/s=q:=by
   apply Nat.div_eq_of_lt_le
   .omega
   .omega
  rw[e];exact permIn_all d d' a b (fun x=>x.2/s=q) ZA hp (fun j j1 j2=>by
   rw[h j ZA];apply Nat.div_eq_of_lt_le
   .omega
   .omega) i h1.1 h1.2
 .rw[hp.2.1 i ZA]
  exact h i hi
theorem Tg.up{n s d}(h:Tg n s d):Tg n (s*2) d:=fun i hi=>by rw[<-Nat.div_div_eq_div_mul,<-Nat.div_div_eq_div_mul,h i hi]
theorem Tg.lt{n s d}(h:Tg n s d){i j}(hi:i<n)(hj:j<n)(hd:i/s<j/s):(d[i]!).2<(d[j]!).2:=by rw[<-h i hi,<-h j hj]at hd;exact Nat.lt_of_not_le fun qT=>absurd (Nat.div_le_div_right (c:=s) qT) ZA
theorem Dp{a b c e d d'}(h:SortedIn Dc a b d)(hp:PermIn c e d d')(qV:b<=c\/e<=a):SortedIn Dc a b d':=fun i j h1 h2 h3=>by rw[hp.2.1 i ZA,hp.2.1 j ZA];exact h i j h1 h2 h3
theorem BcR(L:SlLaysF0.n20 P Tryz.laysIns_ren)(k)(aE:∀w,(isAgg 119).run P w=.ok true w)(zE:∀w,(Go.sizeOf 119).run P w=.ok k w)(enc:Ltr×Nat->List Value)(g:Nat)(cb blk aw cap a b d0 d w0 w)
 (eg:∀args w,(callFunc g args).run P w=.ok (.enter g args) w) (q8:CmpLays P g cb enc k r_ blk aw d0.size w0) (R:RowK enc k w0 blk aw d0) (hs:d0.size=d.size) (S:SWK enc k w0 blk aw d w) (pX:a<=b) (hb:b<=d.size) (cm:d.size<4611686018427387904):
 Calls P 314 #[.slice (some ⟨blk,aw,none⟩) d.size cap,.int .i64 a,.int .i64 b,.func (.func g) #[] cb] w fun e w'=>e=.returned (.tuple #[])/\SWK enc k w0 blk aw (Sort.insertionSort (ltOf r_) d a b) w':=by
 have rS:(Sort.insertionSort (ltOf r_) d a b).size=d.size:=(insertionSort_holds dN d a b pX hb).1.1;have hC:CmpLays P g cb enc k r_ blk aw d.size w:=fun m os dk mt x y=>by obtain⟨n0,os0,rfl⟩:=S;rw[sortWorldK_on enc k w0 blk aw n0 m d dk os0 os R.hblk mt];exact q8 _ _ dk ZA x y
 refine Calls.mono (AnyQ.insertionSortCmpFunc L k aE zE enc R.hk R.h1 r_ g cb blk aw cap a b d w eg hC (S.holds R.hblk R.hH hs.symm) (S.lt R.hblk) pX hb cm) ?_;rintro e w' ⟨rfl,n,os,rfl⟩;exact⟨rfl,S.on R.hblk n _ os rS⟩
theorem ApQ(L:SlLaysF0.n20 P Tryz.laysIns_ren)(U:UintFacts P)(F0:P.funcs[(368:Nat)]? =some Tryz.f368)(F1:P.funcs[(351:Nat)]? =some Tryz.f351)(F2:P.funcs[(315:Nat)]? =some Tryz.f315)(F:P.funcs[(270:Nat)]? =some Tryz.f270)(k)(aE:∀w,(isAgg 119).run P w=.ok true w)(zE:∀w,(Go.sizeOf 119).run P w=.ok k w)(enc:Ltr×Nat->List Value)(g:Nat)(cb blk aw cap n d0 w0)
 (eg:∀args w,(callFunc g args).run P w=.ok (.enter g args) w) (q8:CmpLays P g cb enc k r_ blk aw d0.size w0) (R:RowK enc k w0 blk aw d0) (hn:d0.size=n) (lh:n<=60) (DO:∀i,i<n->(d0[i]!).2=i):
 Calls P 270 #[.slice (some ⟨blk,aw,none⟩) n cap,.int .i64 n,.func (.func g) #[] cb] w0 fun e w'=>e=.returned (.tuple #[])/\∃d',PermIn 0 n d0 d'/\SortedIn Dc 0 n d'/\SWK enc k w0 blk aw d' w':=by
 refine' ZGV;have a3:∀w,(isAgg 3).run P w=_:=L.a3;have z3:∀w,(Go.sizeOf 3).run P w=_:=L.z3;have a4:∀w,(isAgg 4).run P w=_:=L.a4;have z4:∀w,(Go.sizeOf 4).run P w=_:=L.z4;refine' ZGW;have e3:∀args w,(callFunc 314 args).run P w=.ok (.enter 314 args) w:=L.f20.enters rfl;have e4:∀args w,(callFunc 315 args).run P w=.ok (.enter 315 args) w:=iF F2 ZB rfl;have lY:d0.size<4611686018427387904:=ZA
 have HI:Aside (∀(a b:Nat) (d:Array (Ltr×Nat)) (w:World),d.size=n->SWK enc k w0 blk aw d w->a<=b->b<=n->(∀i,a<=i->i<b->(d[i]!).2=i)->Calls P 314 #[.slice (some ⟨blk,aw,none⟩) n cap,.int .i64 a,.int .i64 b,.func (.func g) #[] cb] w fun e w'=>e=.returned (.tuple #[])/\∃d',PermIn a b d d'/\SortedIn Dc a b d'/\SWK enc k w0 blk aw d' w'):=fun a b d w h1 h2 h3 h4 h5=>by
  have h:=BcR L k aE zE enc g cb blk aw cap a b d0 d w0 w eg q8 R ZA h2 h3 ZA ZA;rw[h1]at h;refine h.mono ?_;rintro e w' ⟨rfl,hS⟩;obtain⟨q1,q2⟩:=Ad1 (a:=a) (b:=b) (d:=d) h3 ZA fun q a1 a2 p a3 a4=>by rw[h5 q a1 a2,h5 p a3 ZA];exact a4
  exact⟨rfl,_,q1,q2,hS⟩
 have HM:Aside (∀(a m b:Nat) (d:Array (Ltr×Nat)) (w:World),d.size=n->SWK enc k w0 blk aw d w->a<m->m<b->b<=n->SortedIn Dc a m d->SortedIn Dc m b d->(∀i j,a<=i->i<m->m<=j->j<b->(d[i]!).2<(d[j]!).2)->Calls P 315 #[.slice (some ⟨blk,aw,none⟩) n cap,.int .i64 a,.int .i64 m,.int .i64 b,.func (.func g) #[] cb] w fun e w'=>e=.returned (.tuple #[])/\∃d',PermIn a b d d'/\SortedIn Dc a b d'/\SWK enc k w0 blk aw d' w'):=fun a m b d w h1 h2 h3 h4 h5 h6 h7 h8=>by have h:=AiO L U F0 F1 F2 k aE zE enc r_ Dc (fun x y=>x.2<y.2) g cb blk aw cap d0 w0 eg q8 R Zk (fun x y xX=>BcW xX) lY (b - a) a m b d w (aC _) ZA h2 h3 h4 ZA ⟨h6,h7,h8⟩;rw[h1]at h;refine h.mono ?_;rintro e w' ⟨rfl,d',⟨p1,p2⟩,hS⟩;exact⟨rfl,d',p1,p2,hS⟩
 have S0:Aside (SWK enc k w0 blk aw d0 w0):=SWK.start R.hH;have HT:Aside (∀i,i<n->(d0[i]!).2=i):=DO;have T0:Aside (Tg n 20 d0):=fun i hi=>by rw[DO i hi]
 have HN:Aside (d0.size=n):=hn;clear q8 DO R hn lY;go_enter F,ntmps270;by_cases UO:n<20
 .have y0:¬(20:Int)<=(n:Int):=ZA
  have y1:¬(20:Int)<(n:Int):=ZA
  go_wp2;refine' gJ;have H1:Hid (Calls P 314 #[.slice (some ⟨blk,aw,none⟩) n cap,.int .i64 (0:Int),.int .i64 ((n:Nat):Int),.func (.func g) #[] cb] w0 fun e w'=>e=.returned (.tuple #[])/\∃d',PermIn 0 n d0 d'/\SortedIn Dc 0 n d'/\SWK enc k w0 blk aw d' w'):=HI.out 0 n d0 w0 HN.out S0.out ZA ZA (fun i i1 i2=>HT.out i ZA);refine' ZU5;have K1:Aside (∀i,n<=i->(d1[i]!)=(d0[i]!)):=fun i hi=>by rw[p1.2.1 i (gT hi)]
  refine' ZU6;have DP:Aside (SortedIn Dc 0 n d1):=s1;clear p1 s1 S1;refine' gJ;have RF:Aside (SortedIn Dc 0 n d1):=fun i j h1 h2 h3=>DP.out i j h1 h2 ZA
  refine' Zu;exact⟨rfl,d1,P1.out,RF.out,uZ.out⟩
 by_cases DQ:n=20
 .obtain⟨KG,KH⟩:20<=n/\n<=20:=ZA
  clear DQ;have y0:(20:Int)<=(n:Int):=ZA
  have y1:¬(20:Int)<(n:Int):=ZA
  refine' ZU7;have y4:¬(60:Int)<=(n:Int):=ZA
  refine' ZU8;refine' gJ;have RF:Aside (SortedIn Dc 0 n d2):=fun i j h1 h2 h3=>ix.out i j h1 h2 ZA
  refine' Zu;exact⟨rfl,d2,P2.out,RF.out,xY.out⟩
 by_cases UP:n<40
 .refine' ZU9;refine' ZU7;refine' ZU8;refine' Pa;refine' Xv;refine' gJ;have H3:Hid (Calls P 315 #[.slice (some ⟨blk,aw,none⟩) n cap,.int .i64 (0:Int),.int .i64 (20:Int),.int .i64 ((n:Nat):Int),.func (.func g) #[] cb] w2 fun e w'=>e=.returned (.tuple #[])/\∃d',PermIn 0 n d2 d'/\SortedIn Dc 0 n d'/\SWK enc k w0 blk aw d' w'):=HM.out 0 20 n d2 w2 Z2.out xY.out ZA ZA ZA ix.out tm.out (fun i j i1 i2 j1 j2=>(T2.out).lt (s:=20) ZA ZA ZA);have U3:Aside (Tg n 40 d2):=(T2.out).up;rw[fT]
  go_wp2_with (go_at_call 315;refine H3.out.mono ?_;rintro e w3 ⟨rfl,d3,p3,s3,S3⟩)
  refine' ZVA;have T3:Aside (Tg n 40 d3):=(U3.out).perm 0 ZA ZA ZA ZE p3 ZKZ;have DS:Aside (SortedIn Dc 0 n d3):=s3;clear p3 s3 S3;have RF:Aside (SortedIn Dc 0 n d3):=fun i j h1 h2 h3=>DS.out i j h1 h2 ZA
  refine' Zu;exact⟨rfl,d3,P3.out,RF.out,DR.out⟩
 by_cases DT:n=40
 .obtain⟨KG,KH⟩:40<=n/\n<=40:=ZA
  clear DT;refine' ZKa;have y3:¬(40:Int)<(n:Int):=ZA
  refine' ZVB;refine' Pa;refine' ZVC;have RF:Aside (SortedIn Dc 0 n d4):=fun i j h1 h2 h3=>ql.out i j h1 h2 ZA
  refine' Zu;exact⟨rfl,d4,P4.out,RF.out,KI.out⟩
 by_cases UQ:n<60
 .refine' ZKa;have y3:(40:Int)<(n:Int):=ZA
  refine' ZVB;refine iW 3 ?_;refine' ZVC;refine' Xv;refine' gJ;have H5:Hid (Calls P 315 #[.slice (some ⟨blk,aw,none⟩) n cap,.int .i64 (0:Int),.int .i64 (40:Int),.int .i64 ((n:Nat):Int),.func (.func g) #[] cb] w4 fun e w'=>e=.returned (.tuple #[])/\∃d',PermIn 0 n d4 d'/\SortedIn Dc 0 n d'/\SWK enc k w0 blk aw d' w'):=HM.out 0 40 n d4 w4 Z4.out KI.out ZA ZA ZA ql.out tp.out (fun i j i1 i2 j1 j2=>(T4.out).lt (s:=40) ZA ZA ZA);have U5:Aside (Tg n 80 d4):=(T4.out).up;refine' ZVD;have P5:Aside (PermIn 0 n d0 d5):=permIn_trans _ _ _ _ _ P4.out p5;have RF:Aside (SortedIn Dc 0 n d5):=s5;have UR:Aside (SWK enc k w0 blk aw d5 w5):=S5;clear p5 s5 S5;refine' Zu;exact⟨rfl,d5,P5.out,RF.out,UR.out⟩
 obtain⟨KG,KH⟩:60<=n/\n<=60:=ZA
 refine' ZKa;have y3:(40:Int)<(n:Int):=ZA
 have y4:(60:Int)<=(n:Int):=ZA
 go_wp2;refine iW 4 ?_;refine' ZVE;have H3:Hid (Calls P 314 #[.slice (some ⟨blk,aw,none⟩) n cap,.int .i64 (40:Int),.int .i64 (60:Int),.func (.func g) #[] cb] w2 fun e w'=>e=.returned (.tuple #[])/\∃d',PermIn 40 60 d2 d'/\SortedIn Dc 40 60 d'/\SWK enc k w0 blk aw d' w'):=HI.out 40 60 d2 w2 Z2.out xY.out ZA ZA (fun i i1 i2=>ZVF);refine' ZVG;have K3:Aside (∀i,60<=i->(d3[i]!)=(d0[i]!)):=fun i hi=>ZVH
 refine' ZVI;have va:Aside (SortedIn Dc 40 60 d3):=s3;clear p3 s3 S3;have H4:Hid (Calls P 314 #[.slice (some ⟨blk,aw,none⟩) n cap,.int .i64 (60:Int),.int .i64 ((n:Nat):Int),.func (.func g) #[] cb] w3 fun e w'=>e=.returned (.tuple #[])/\∃d',PermIn 60 n d3 d'/\SortedIn Dc 60 n d'/\SWK enc k w0 blk aw d' w'):=HI.out 60 n d3 w3 Z3.out DR.out ZA ZA (fun i i1 i2=>by rw[K3.out i i1];exact HT.out i ZA);rw[fT]
 go_wp2_with (go_at_call 314;refine H4.out.mono ?_;rintro e w4 ⟨rfl,d4,p4,s4,S4⟩)
 refine' ZVJ;have T4:Aside (Tg n 20 d4):=(T3.out).perm 3 ZA ZA ZA ZE p4 ZKb;have xZ:Aside (SortedIn Dc 0 20 d4):=Dp mw.out p4 ZA;have vc:Aside (SortedIn Dc 20 40 d4):=Dp kN.out p4 ZA;have vd:Aside (SortedIn Dc 40 60 d4):=Dp va.out p4 ZA;clear p4 s4 S4;refine iW 3 ?_;refine' Xv;refine' Pa;have H5:Hid (Calls P 315 #[.slice (some ⟨blk,aw,none⟩) n cap,.int .i64 (0:Int),.int .i64 (20:Int),.int .i64 (40:Int),.func (.func g) #[] cb] w4 fun e w'=>e=.returned (.tuple #[])/\∃d',PermIn 0 40 d4 d'/\SortedIn Dc 0 40 d'/\SWK enc k w0 blk aw d' w'):=HM.out 0 20 40 d4 w4 Z4.out KI.out ZA ZA ZA xZ.out vc.out (fun i j i1 i2 j1 j2=>(T4.out).lt (s:=20) ZA ZA ZA);have U5:Aside (Tg n 40 d4):=(T4.out).up;refine' ZVD;have Z5:Aside (d5.size=n):=p5.1.trans Z4.out;have UR:Aside (SWK enc k w0 blk aw d5 w5):=S5;have P5:Aside (PermIn 0 n d0 d5):=permIn_trans _ _ _ _ _ P4.out (permIn_mono _ _ _ _ _ _ (aN _) ZA (by rw[Z4.out];omega) p5);have T5:Aside (Tg n 40 d5):=(U5.out).perm 0 ZA ZA ZA ZE p5 (by rw[Z4.out];omega);have ve:Aside (SortedIn Dc 40 60 d5):=Dp vd.out p5 ZA;have yb:Aside (SortedIn Dc 0 40 d5):=s5;clear p5 s5 S5;refine' Xv;refine' Xv;refine' gJ;have H6:Hid (Calls P 315 #[.slice (some ⟨blk,aw,none⟩) n cap,.int .i64 (0:Int),.int .i64 (40:Int),.int .i64 ((n:Nat):Int),.func (.func g) #[] cb] w5 fun e w'=>e=.returned (.tuple #[])/\∃d',PermIn 0 n d5 d'/\SortedIn Dc 0 n d'/\SWK enc k w0 blk aw d' w'):=HM.out 0 40 n d5 w5 Z5.out UR.out ZA ZA ZA yb.out (fun i j a1 a2 a3=>ve.out i j a1 a2 ZA) (fun i j i1 i2 j1 j2=>(T5.out).lt (s:=40) ZA ZA ZA);rw[fT]
 go_wp2_with (go_at_call 315;refine H6.out.mono ?_;rintro e w6 ⟨rfl,d6,p6,s6,S6⟩)
 have P6:Aside (PermIn 0 n d0 d6):=permIn_trans _ _ _ _ _ P5.out p6;have RF:Aside (SortedIn Dc 0 n d6):=s6;have SS6:Aside (SWK enc k w0 blk aw d6 w6):=S6;clear p6 s6 S6;refine' Zu;exact⟨rfl,d6,P6.out,RF.out,SS6.out⟩
theorem BaN:UintFacts Tryz.prog:=⟨ZBF,ZDR,AsQ,Am2⟩
def Xc(x:Ltr×Nat):List Value:=Ltr.cells x.1
theorem AlG(ts:List (Ltr×Nat)):ts.flatMap Xc=(ts.map Prod.fst).flatMap Ltr.cells:=by rw[List.flatMap_map];rfl
theorem AsV(d):Sort.flatK Xc 2 d=Sort.flatK Ltr.cells 2 (d.toList.map Prod.fst).toArray:=by rw[H_ Xc (fun _=>rfl),H_ Ltr.cells (fun _=>rfl),AlG]
theorem AoV:E9 []=[]:=(Oe []).eq_nil
theorem AyL(T base:Nat)(v xs w)(hv:own T base w v xs)(hl:xs.length<=60):
 Calls Tryz.prog 270 #[v,.int .i64 xs.length,.func (.func 199) #[] #[]] w fun e w'=>e=.returned (.tuple #[])/\own T base w' v (E9 xs)/\w.grownBy w' v.ownBlock:=by
 rcases hv.form with⟨rfl,rfl⟩|⟨g,c,rfl,hg,bz,hc,hm⟩
 .have hn:Calls Tryz.prog 314 #[.slice none 0 0,.int .i64 0,.int .i64 0,.func (.func 199) #[] #[]] w fun e w'=>e=.returned (.tuple #[])/\w'=w:=by go_enter func314,ntmps314;go_wp2;refine' gJ;refine' Zu;exact ZW
  go_enter func270,ntmps270;go_wp2;refine' gJ;rw[fT]
  go_wp2_with (go_at_call 314;refine hn.mono ?_;refine' ZZ)
  refine' gJ;refine' Zu;exact⟨rfl,by rw[AoV];exact hv,bK _ _⟩
 .have eg:∀args w,(callFunc 199 args).run Tryz.prog w=.ok (.enter 199 args) w:=iF func199 ZB rfl
  have hz:(Nw xs).toArray.size=xs.length:=by simp[Oz]
  have hH:Sort.HoldsK Xc 2 w g 0 (Nw xs).toArray:=by have h:=AfS hv;unfold Sort.HoldsK at h⊢;rw[AsV];rw[show((Nw xs).toArray.toList.map Prod.fst).toArray=xs.toArray by rw[List.toList_toArray,Ag6]];exact h
  have h:=ApQ (P:=Tryz.prog) Tryz.laysIns BaN func368 func351 func315 func270 2 isAgg119 sizeOf119 Xc 199 #[] g 0 c xs.length (Nw xs).toArray w eg (fun _ _ _ _ x y=>Bc3 x.1 y.1 _)
   ⟨fun _=>rfl,fun x v hv=>by simp[Xc,Ltr.cells]at hv;rcases hv with rfl|rfl<;>rfl,hH,bz⟩ hz hl (fun i hi=>by rw[fR _ i (by rw[hz];exact hi)];have:=ZC2 xs i (by rw[Oz];exact hi);simpa using aU Prod.snd this)
  refine Calls.mono h ?_;rintro e w' ⟨rfl,d',hp,hs,n,os,rfl⟩;have e1:=AqP hp hs;have e2:sortWorldK Xc 2 w g 0 n d' os=sortWorldK Ltr.cells 2 w g 0 n (E9 xs).toArray os:=by unfold sortWorldK Sort.putRowK;rw[AsV,e1]
  rw[e2];obtain⟨h1,h2⟩:=Ao4 (q:=n) (os:=os) (d':=(E9 xs).toArray) hv (by simpa using Oe xs);exact⟨rfl,Xu,h2⟩
theorem Av3(T base:Nat)(v xs w)(hv:own T base w v xs)(hl:xs.length<=60):
 Calls Tryz.prog 198 #[v,.func (.func 199) #[] #[]] w fun e w'=>e=.returned (.tuple #[])/\own T base w' v (E9 xs)/\w.grownBy w' v.ownBlock:=by
 have hc:=AyL T base v xs w hv hl;obtain⟨A,n,c,rfl,hn,_,_,_⟩:=hv.rd;subst hn;have HC:=aA hc;clear hc hv;go_enter func198,ntmps198
 go_wp2_with (go_at_call 270;refine HC.out.mono ?_;rintro e w1 ⟨rfl,hy,hg⟩)
 go_end0
 exact⟨rfl,hy,hg⟩
theorem AdS(v xs w)(hv:R_ w v xs)(ag:z_ xs=true):
 Calls Tryz.prog 118 #[v] w fun e w'=>∃v',e=.returned (.tuple #[v',.bool true])/\own 119 w.heap.size w' v' (E9 xs)/\B_ w w':=by
 refine' zR;clear hv;have hl:=Cq ag;refine' gL;clear ag;go_enter func118,ntmps118
 refine' ZIc;rw[d9.out];refine' ZU;refine' ZC;refine(ZDl _ xs _ (HV.out.on b1) ZA).mono ?_;refine' Y4;have l2:=b1.trans (b2.mono b1.size);have O2:=aA o2;clear o2
 refine' ZC;refine(Av3 _ _ v2 xs _ O2.out hl).mono ?_;rintro e w3 ⟨rfl,o3,g3⟩;have l3:B_ w w3:=l2.grown g3 l2.size (fun k hk=>by have:=(O2.out.blk k hk).1;have:=b1.size;omega);have O3:=aA (o3.base_ b1.size);clear o3
 refine' ZQ;exact⟨v2,rfl,O3.out,l3⟩
theorem AqO(B d s vH w)(hD:Bv B w d s vH)(hB:B<=w.heap.size)(hT:I4 w)(hk:z_ s.letters=true):
 Calls Tryz.prog 52 #[.pointer (P_ d),.string Mf] w (Bb B d {s with letters:=E9 s.letters} vH (Co (E9 s.letters)) w):=by
 refine' ZKl;have HS:=aA (AdS vL s.letters w hL.rd hk);obtain⟨A0,n0,c0',rfl, -, -, -, -⟩:=hL.rd;have DG:=aA hT;clear hD hT hk hL;refine' ZWC;refine' X4;refine HS.out.mono ?_;refine' Ye;have HC:=aA (Bd9 B d s vH v1 (E9 s.letters) true w1 (HD.out.below b1) (o1.base_ hB) (DG.out.on b1));refine' eD;refine' PC;clear o1 b1
 refine' ZFy;rintro e w2 h2;simp only[if_true]at h2;refine' g_;obtain⟨rfl,_⟩:=h2
 refine' ZI;exact Bb.pre it.out H2.out
theorem ArV(B d gF s vH f0 f1 f2 w)(hD:Bv B w d s vH)(hT:I4 w)(hi:Bj s.day.plan.bins/\Bj s.day.plan.passes)
 (y0:w.cell? ⟨gF,0,none⟩=some (.string f0)) (y1:w.cell? ⟨gF,1,none⟩=some (.string f1)) (y2:w.cell? ⟨gF,2,none⟩=some (.string f2)) (z0:f0.size<=maxLen) (z1:f1.size<=maxLen) (z2:f2.size<=maxLen):
 Calls Tryz.prog 60 #[.pointer (P_ d),.slice (P_ gF) 3 3] w (Bb B d s vH (Jp s.day.plan s.letters (Am f0) (Am f1) (Am f2)) w):=by
 refine' zJ;have HT:=aA hT;refine' ZWD;have tj:=aA (fun W=>Fg f0 W z0);have qW:=aA (fun W=>Fg f1 W z1);have uM:=aA (fun W=>Fg f2 W z2);refine' ZWE;refine' ZKs;have HM:Hid (∀(vm:Value) (W:World),B_ w W->R_ W vm [(⟨n1,n2⟩:Mis)]->Calls Tryz.prog 157 #[.agg #[.int .i64 s.day.plan.bins,.int .i64 s.day.plan.passes,.slice AO nO cO],.slice AL nL cL,.int .i64 n0,vm] W fun e w'=>∃vL,e=.returned (.tuple #[vL,.bool (Lo s.day.plan s.letters n0 [⟨n1,n2⟩])])/\own 119 W.heap.size w' vL (Fr s.day.plan s.letters n0 [⟨n1,n2⟩])/\B_ W w'):=fun vm W hW hm=>Ab9 _ _ vm s.day.plan s.letters n0 [⟨n1,n2⟩] W (qX.on hW) (hL.rd.on hW) hm
 refine' ZWF;refine' ZWG;refine' Py;have u0:=fun W (hW:B_ w W)=>(hW.cell (p:=⟨gF,0,none⟩) (Az y0)).trans y0
 have u1:=fun W (hW:B_ w W)=>(hW.cell (p:=⟨gF,1,none⟩) (Az y1)).trans y1
 have u2:=fun W (hW:B_ w W)=>(hW.cell (p:=⟨gF,2,none⟩) (Az y2)).trans y2
 refine' Y2;have la:B_ w (w.alloc (aB #[.int .i64 0,.int .i64 0] 170)).drew:=Ag (Ae (aF _ _) _);clear hD hT hi hL hO qX c0 c1 c2 c3 y0 y1 y2 z0 z1 z2 bv dq tK;go_enter func60,ntmps60
 refine' ZC;go_region_held3 (fun W=>B_ w W) (first|exact ld|exact la|exact Ae ld _|fail) (first|(go_at_call 140;refine' ZKu)|fail)
 all_goals
  obtain⟨W0,JV⟩:∃W,W=w.alloc (aB #[.int .i64 n1,.int .i64 n2] 170):=⟨_,rfl⟩;rw[<-JV];have l0:B_ w W0:=by rw[JV];exact Zs
  have UC:=Af JV 0 (.int .i64 n1) rfl;have UD:=Af JV 1 (.int .i64 n2) rfl;obtain⟨W1,qH⟩:∃W,W=W0.drew:=⟨_,rfl⟩;rw[<-qH];have l1:B_ w W1:=by rw[qH];exact Ag l0
  have IM:B_ W0 W1:=by rw[qH];exact Ag (aF _ _)
  have L1:=aA l1;replace q0:=fun W (hW:B_ W1 W)=>q0 W (Aa l1 hW)
  replace q1:=fun W (hW:B_ W1 W)=>q1 W (Aa l1 hW)
  replace q2:=fun W (hW:B_ W1 W)=>q2 W (Aa l1 hW)
  replace q3:=fun W (hW:B_ W1 W)=>q3 W (Aa l1 hW)
  replace u0:=fun W (hW:B_ W1 W)=>u0 W (Aa l1 hW)
  replace UC:=fun W (hW:B_ W1 W)=>UC W (Aa IM hW)
  replace UD:=fun W (hW:B_ W1 W)=>UD W (Aa IM hW)
  have UE:Hid (rd (W1.alloc (aB #[.int .i64 n1,.int .i64 n2] 170)).drew (W1.alloc (aB #[.int .i64 n1,.int .i64 n2] 170)).drew.heap.size (.slice (P_ W1.heap.size) 1 1) [(⟨n1,n2⟩:Mis)]):=UB.out W1;clear JV qH l0 IM l1 u1 u2 ld la;have ld:=Ag (aF W1.heap.size W1);have la:B_ W1 (W1.alloc (aB #[.int .i64 n1,.int .i64 n2] 170)).drew:=Ag (Ae (aF _ _) _)
  refine' ZC;go_region_held3 (fun W=>B_ W1 W) (first|exact ld|exact la|exact Ae ld _|exact k9|fail) (first|(go_at_call 140;(with_reducible refine(tj.out _).mono ?_);refine' ZP)|(go_at_call 157;(with_reducible refine(HM.out _ _ (Aa L1.out la) UE.out).mono ?_);rintro e u9 ⟨v9,rfl,o9,z9⟩;have k9:=Aa la z9;have O9:=aA o9.rd;obtain⟨A9,n9,m9,rfl, -, -, -, -⟩:=o9.rd;clear o9)|fail)
  all_goals
   have K9:=aA (Aa L1.out k9);clear k9 z9 ld la q0 q1 q2 q3 u0 UC UD;cases ok
   .refine' ZI;rw[HQ.out];refine' ZGg;exact Bb.of_read HD.out rfl K9.out
   .have HF:=aA (F7 _ L u9 O9.out (HT.out.on K9.out))
    refine' ZGZ;rintro e u8 ⟨rfl,z8⟩;have K8:=aA (Aa K9.out z8);clear z8
    refine' ZI;rw[HQ.out];refine' ZGg;exact Bb.of_read HD.out rfl K8.out
theorem Aj8(B d s vH am wd rest ps w)(hD:Bv B w d s vH)(hz:am.size<=maxLen)(hr:rest.size<=1000000000)(ct:E5 32 am=some (wd,rest))(hp:Aj 32 rest=ps)
 (ci:(wd.toList==[108,101,116,116,101,114,115])=false) (dh:(wd.toList==[112,108,97,110])=false) (eu:(wd.toList==[102,111,114,119,97,114,100,115])=false) (fw:(wd.toList==[110,101,116])=false)
 (hn:4<=ps.length\/(ps.length=3/\(wd.toList==[102,97,117,108,116])=false)):
 Calls Tryz.prog 16 #[.pointer (P_ d),.string am] w (Bb B d s vH Hg w):=by
 refine' zJ;refine' ZGi;have lg:Hid (∀W:World,Calls Tryz.prog 13 #[.string rest,.string ⟨#[32]⟩] W fun e w'=>e=.returned (.slice (P_ W.heap.size) ps.length ps.length)/\own 9 W.heap.size w' (.slice (P_ W.heap.size) ps.length ps.length) ps/\B_ W w'):=fun W=>ZGj
 clear ct hp hD hz hr;rcases hn with hn|⟨hn,iq⟩
 .exact ZWR
 .rw[hn]at lg
  clear hn;exact ZWR
theorem AsD(B d s vH am wd rest f g h w)(hD:Bv B w d s vH)(hT:I4 w)(hi:Bj s.day.plan.bins/\Bj s.day.plan.passes)(hz:am.size<=maxLen)(hr:rest.size<=1000000000)(ct:E5 32 am=some (wd,rest))(hp:Aj 32 rest=[f,g,h])
 (ci:(wd.toList==[108,101,116,116,101,114,115])=false) (dh:(wd.toList==[112,108,97,110])=false) (eu:(wd.toList==[102,111,114,119,97,114,100,115])=false) (fw:(wd.toList==[110,101,116])=false)
 (iq:(wd.toList==[102,97,117,108,116])=true):
 Calls Tryz.prog 16 #[.pointer (P_ d),.string am] w (Bb B d s vH (Jp s.day.plan s.letters (Am f) (Am g) (Am h)) w):=by
 have cm:∀x∈[f,g,h],x.size<=maxLen:=fun x hx=>by have:=Hi (c:=32) (t:=rest) (by rw[hp];exact hx);exact ZN
 have HT:=aA hT;refine' zJ;refine' ZGi;have lg:Hid (∀W:World,Calls Tryz.prog 13 #[.string rest,.string ⟨#[32]⟩] W fun e w'=>e=.returned (.slice (P_ W.heap.size) 3 3)/\own 9 W.heap.size w' (.slice (P_ W.heap.size) 3 3) [f,g,h]/\B_ W w'):=fun W=>ZGj
 have z0:=cm f ZF;have z1:=cm g ZF;have z2:=cm h ZF;clear ct hp hD hz hr cm hT;refine' ZKy;have l2:=Aa b1 b2;have HF:=aA (ArV B d w1.heap.size s vH f g h w2 (HD.out.below l2) (HT.out.on l2) hi (Bx o2 0 ZF) (Bx o2 1 ZF) (Bx o2 2 ZF) z0 z1 z2);have L2:=aA l2;generalize Jp s.day.plan s.letters (Am f) (Am g) (Am h)=a at *;clear o2 b1 b2 l2
 refine' ZGZ;exact ZWS
theorem if1{c:Prop}[Decidable c]{α β:Type}(a1 b1:α)(a2 b2:β):(if c then(a1,a2)else(b1,b2)).1=if c then a1 else b1:=gU
theorem if2{c:Prop}[Decidable c]{α β:Type}(a1 b1:α)(a2 b2:β):(if c then(a1,a2)else(b1,b2)).2=if c then a2 else b2:=gU
theorem Ci{a b:Y_}(h:a≠b):(a.toList==b.data.toList)=false:=ZWT
theorem Bb4{a b:Y_}(h:a=b):(a.toList==b.data.toList)=true:=by rw[bU,h];exact beq_self_eq_true _
def Tq(w:World):Prop:=I4 w/\N9 w
theorem Tq.on{w w'}(h:Tq w)(hb:B_ w w'):Tq w':=⟨h.1.on hb,h.2.on hb⟩
theorem Inv.i2{s}(h:Inv s):Bj s.day.plan.bins/\Bj s.day.plan.passes:=by have:=Dz h.plan;exact ZS
theorem Inv.i3{s}(h:Inv s):Bj s.day.plan.bins/\Bj s.day.plan.passes/\Bj s.day.size:=ZWU
theorem Ah4(s w)(hz:s.size<=maxLen)(hc:Ap s=false):
 C_ 152 #[.string s] w (.tuple #[.string ⟨#[]⟩,.bool false]):=by
 have js:Hid (∀W:World,ya 231 #[.string s] W (.bool false)):=fun W=>by have:=Cw s W hz;exact We
 clear hc;refine' ZQW;go_ret2;exact zv
theorem AlX(s w)(hz:s.size<=maxLen)(hw:N9 w):
 C_ 152 #[.string s] w (.tuple #[.string (Kz s),.bool (Ap s)]):=by
 unfold Kz;cases h:Ap s
 .exact Ah4 s w hz h
 .refine(Ae7 s w h hw).mono ?_
  refine' ZP;exact zv
theorem AvF(B d s vH wd w)(h:Inv s)(hX:Tq w)(hB:B<=w.heap.size)(hD:Bv B w d s vH):
 Calls Tryz.prog 52 #[.pointer (P_ d),.string wd] w (Bb B d (Rh s wd).1 vH (Rh s wd).2 w):=by
 unfold Rh;by_cases e0:wd=Cf
 .subst e0
  refine' ZT;exact AlQ B d s vH w hD hX.1
 rw[aM e0];by_cases e1:wd=Mf
 .subst e1
  refine' ZT;exact AqO B d s vH w hD hB hX.1 h.bs
 rw[aM e1];by_cases e2:wd=Ef
 .subst e2
  refine' ZT;exact Aj0 B d _ vH _ w (AiJ B d s vH w hD hB hX.1 h.i2 h.rp)
 rw[aM e2];by_cases e3:wd=F4
 .subst e3
  refine' ZT;exact AuN B d s vH w hD hX.1 (by have:=Ho h.bs;exact ZS) (by have:=Io h.bs;exact ZS) (by have:=Ho h.bs;exact aI (H9 ZA ZA) ZA) (by have:=Io h.bs;exact aI (H9 ZA ZA) ZA)
 rw[aM e3];by_cases e4:wd=Df
 .subst e4
  refine' ZT;exact Au7 B d s vH w hD hX.1 h.i2
 rw[aM e4];by_cases e5:wd=Gd
 .subst e5
  refine' ZT;exact ArD B d s vH w hD hX.1 h.i2 (by have:=Ac0 (p:=s.day.plan) h.bs;exact ZS)
 rw[aM e5];by_cases e6:wd=Bg
 .subst e6
  refine' ZT;exact Ai2 B d s vH w hD
 rw[aM e6];by_cases e7:wd=Dx
 .subst e7
  refine' ZT;exact AnE B d s vH w hD hB h.fwds
 rw[aM e7];by_cases e8:wd=Db
 .subst e8
  refine' ZT;exact AmF B d s vH w hD (aI (Ch.1 h.fwds).1 ZA)
 rw[aM e8];by_cases e9:wd=Fm
 .subst e9
  refine' ZT;exact Aw3 B d s vH w hD h.held
 rw[aM e9];by_cases sU:wd=G3
 .subst sU
  refine' ZT;exact Az1 B d s vH w hD hX.1 h.i3 h.rd
 rw[aM sU];by_cases sV:wd=Dq
 .subst sV
  refine' ZT;exact AqH B d s vH w hD hX.1 h.i3 h.rd
 rw[aM sV];by_cases sW:wd=Es
 .subst sW
  refine' ZT;exact AyT B d s vH w hD
 rw[aM sW];exact AvI B d s vH wd w hD (ZWV
  )
theorem AxK(B d s vH wd f w)(h:Inv s)(hX:Tq w)(hB:B<=w.heap.size)(hD:Bv B w d s vH)(hz:f.size<=maxLen):
 Calls Tryz.prog 58 #[.pointer (P_ d),.string wd,.string f] w (Bb B d (i_ s wd f).1 vH (i_ s wd f).2 w):=by
 unfold i_;by_cases e0:wd=C8
 .refine' ZGk;exact AyF B d s vH f w hD hB hX.1 hz
 rw[aM e0];by_cases e1:wd=Eo
 .subst e1
  refine' ZT;exact AtV B d s vH f w hD hX.1 hz
 rw[aM e1];by_cases e2:wd=Fj
 .subst e2
  refine' ZT;exact Az9 B d s vH f w hD hX.1 h.i2
 rw[aM e2];by_cases e3:wd=Ds
 .subst e3
  refine' ZT;exact AsE B d _ vH f _ w hz (ArC B d s vH _ w hD hX.1 h.i2)
 rw[aM e3];by_cases e4:wd=C4
 .subst e4
  refine' ZT;rw[Ip,Ij];exact Ay5 B d s vH f w hD hB
 rw[aM e4];by_cases e5:wd=Cc
 .subst e5
  refine' ZT;exact ApZ B d _ vH f _ w (AmX B d s vH f w hD hX.1 hz h.fwds)
 rw[aM e5];by_cases e6:wd=Cy
 .subst e6
  refine' Vl;exact AxJ B d _ vH f _ w (AsM B d s vH f w hD hB hz h.held)
 rw[aM e6];by_cases e7:wd=Dk
 .subst e7
  refine' Vl;exact Av7 B d _ vH f _ w hz (AiX B d s vH _ w hD)
 rw[aM e7];by_cases e8:wd=Dl
 .subst e8
  refine' ZT;exact Ax2 B d _ vH f _ w (AvL B d s vH f w hD hz h.i3 h.fwds)
 rw[aM e8];by_cases e9:wd=B5
 .subst e9
  refine' ZT;exact ArM B d _ vH f _ w (AmQ B d s vH f w hD)
 rw[aM e9];by_cases sU:wd=He
 .subst sU
  refine' ZT;exact AyA B d s vH f _ w hD (AbV f w)
 rw[aM sU];by_cases sV:wd=Gn
 .subst sV
  refine' ZT;exact Az6 B d s vH f _ _ w hD (AlX f w hz hX.2)
 rw[aM sV];by_cases sW:wd=Ga
 .subst sW
  refine' ZT;exact AwM B d s vH f _ _ w hD (ZDt f w hX.2)
 rw[aM sW];exact AzA B d s vH wd f w hD (ZWV
  )
theorem AxY(B d s vH wd f g w)(h:Inv s)(hX:Tq w)(hB:B<=w.heap.size)(hD:Bv B w d s vH)(hz:f.size<=maxLen)(JA:g.size<=maxLen):
 Calls Tryz.prog 59 #[.pointer (P_ d),.string wd,.string f,.string g] w (Bb B d (iV s wd f g).1 vH (iV s wd f g).2 w):=by
 unfold iV;by_cases e0:wd=C0
 .subst e0
  refine' Vl;exact AyS B d s vH f g w hD hB hX.1 hz JA h.i2
 rw[aM e0];by_cases e1:wd=Bt
 .subst e1
  refine' ZT;rw[Ip,Ij];exact AnV B d s vH f g w hD hB ⟨hz,JA⟩
 rw[aM e1];by_cases e2:wd=Fl
 .subst e2
  refine' ZT;exact AxT B d _ vH f g _ w (AqN B d s vH f g w hD JA)
 rw[aM e2];exact AwS B d s vH wd f g w hD (by
  refine' ZGl;rcases hx with rfl|rfl|rfl
  .exact Ci e0
  .exact Ci e1
  .exact Ci e2
  )
theorem Au6(B d s vH am wd rest w)(h:Inv s)(hX:Tq w)(hB:B<=w.heap.size)(hD:Bv B w d s vH)(hz:am.size<=20000)(ct:E5 32 am=some (wd,rest)):
 Calls Tryz.prog 16 #[.pointer (P_ d),.string am] w (Bb B d (U0 s wd rest).1 vH (U0 s wd rest).2 w):=by
 have hr:rest.size<=20000:=aI (Ki ct).2 hz;have yQ:rest.size<=1000000000:=ZA
 have xG:rest.size<=maxLen:=ZN
 have yR:am.size<=maxLen:=ZN
 have nZ:∀p∈Aj 32 rest,p.size<=maxLen:=fun p hp=>aI (Hi hp) xG
 unfold U0;by_cases e0:wd=Cf
 .refine' ZGk;exact AiE B d s vH am rest w hD hB hX.1 yR xG ct
 rw[aM e0];by_cases e1:wd=Df
 .subst e1
  refine' Vl;exact Ar5 B d _ vH am rest _ w yR ct fun W hW=>AiQ B d s vH rest W (hD.below hW) (aI hB hW.size) ZA
 rw[aM e1];by_cases e2:wd=Bg
 .subst e2
  refine' Vl;exact AgK B d _ vH am rest _ w yR ct fun W hW=>AaW B d s vH rest W (hD.below hW) (aI hB hW.size) xG
 rw[aM e2];by_cases e3:wd=Es
 .subst e3
  refine' Vl;exact AxG B d _ vH am rest _ w yR ct fun W hW=>AmI B d s vH rest W (hD.below hW) (aI hB hW.size) xG
 rw[aM e3];have ay:=AkK 32 rest;obtain⟨ps,ev⟩:∃ps,Aj 32 rest=ps:=⟨_,rfl⟩;rw[ev]at ay nZ⊢;rcases ps with _|⟨f,_|⟨g,_|⟨k,_|⟨j,ps⟩⟩⟩⟩
 .exact absurd rfl ay
 .exact AxN B d _ vH am wd rest f _ w yR yQ ct ev (Ci e0) (Ci e1) (Ci e2) (Ci e3) fun W hW=>AxK B d s vH wd f W h (hX.on hW) (aI hB hW.size) (hD.below hW) (nZ f ZF)
 .exact AxQ B d _ vH am wd rest f g _ w yR yQ ct ev (Ci e0) (Ci e1) (Ci e2) (Ci e3) fun W hW=>AxY B d s vH wd f g W h (hX.on hW) (aI hB hW.size) (hD.below hW) (nZ f ZF) (nZ g ZF)
 .show Calls Tryz.prog _ _ _ (Bb B d (if wd=Cz then(s,Jp s.day.plan s.letters (Am f) (Am g) (Am k))else(s,Hg)).1 vH (if wd=Cz then(s,Jp s.day.plan s.letters (Am f) (Am g) (Am k))else(s,Hg)).2 w)
  by_cases e4:wd=Cz
  .rw[aQ e4]
   exact AsD B d s vH am wd rest f g k w hD hX.1 h.i2 yR yQ ct ev (Ci e0) (Ci e1) (Ci e2) (Ci e3) (Bb4 e4)
  .rw[aM e4]
   exact Aj8 B d s vH am wd rest _ w hD yR yQ ct ev (Ci e0) (Ci e1) (Ci e2) (Ci e3) (.inr ⟨rfl,Ci e4⟩)
 .exact Aj8 B d s vH am wd rest _ w hD yR yQ ct ev (Ci e0) (Ci e1) (Ci e2) (Ci e3) (.inl ZF)
theorem AwE{s}(h:Inv s){am}(hz:am.size<=20000):Ax7 Tq am s (Qk s am).1 (Qk s am).2:=by
 intro B d vH w hX hB hD;unfold Qk;cases hc:E5 32 am with
 |none=>exact Av2 B d _ vH am _ w ZN hc fun W hW=>AvF B d s vH am W h (hX.on hW) (aI hB hW.size) (hD.below hW)
 |some q=> obtain⟨wd,rest⟩:=q;exact Au6 B d s vH am wd rest w h hX hB hD hz hc
theorem ZDr(t w)(ht:20000<t.size):
 C_ 6 #[.string t] w (.string ⟨#[108,111,110,103,10]⟩):=by
 have yd:(20000:Int)<(t.size:Int):=ZA
 go_enter func6,ntmps6
 refine' ZI;exact zv
theorem AdW(t w)(hX:∀W,B_ w W->Tq W):
 C_ 6 #[.string t] w (.string (b_ t)):=by
 unfold b_;by_cases ht:20000<t.size
 .rw[aQ ht];exact ZDr t w ht
 .rw[aM ht]
  refine AgV Tq t w (Aj 10 t) (Xw (Aj 10 t)) (X9 (Aj 10 t)) ZA rfl hX rfl (fun k hk h0 _ _=>?_) fun k hk h0=>?_
  .refine' ZWW;exact⟨AwE (Wl _ k) ZA,Ag4 (Wl _ k) _⟩
  .refine' ZKz;rw[Xw,e,Lx.2 h0];rfl
end Go.Proofs.YtfadhdacjpmmeaaGreatDoor

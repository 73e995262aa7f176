/- Parts. -/
import Derived.Test.YtfadhdacjpmmeaaGreatDoorU15
import Derived.Test.YtfadhdacjpmmeaaGreatDoorU11
set_option linter.unusedVariables false
set_option linter.unusedSimpArgs false
set_option maxRecDepth 100000
set_option maxHeartbeats 16000000
open Go.Proofs.Tryz
open Go renaming madeCells->bF
open Go.IntKind renaming i64->aD
open Go.Obj renaming cells->aB
open Go.Value renaming string->aG,int->aH
namespace Go.Proofs.YtfadhdacjpmmeaaGreatDoor
open Go.RowKit
def Hg:Y_:=⟨#[119,104,97,116]⟩
def Dx:Y_:=⟨#[100,105,114,101,99,116]⟩
def Fm:Y_:=⟨#[104,101,108,100]⟩
def Eo:Y_:=⟨#[99,111,117,110,116]⟩
def Fj:Y_:=⟨#[114,97,110,107]⟩
def Ds:Y_:=⟨#[108,111,97,100,115]⟩
def C4:Y_:=⟨#[115,116,97,121]⟩
def Cc:Y_:=⟨#[114,101,115,111,108,118,101]⟩
def Dl:Y_:=⟨#[102,97,116,101]⟩
def C0:Y_:=⟨#[115,119,97,112]⟩
def Bt:Y_:=⟨#[102,111,114,119,97,114,100]⟩
def Cz:Y_:=⟨#[102,97,117,108,116]⟩
theorem own.madeCap{α:Type}[El α](w:World)(T:TypeId){base}(hb:base<=w.heap.size)(bw cap)(hm:cap<=maxLen)(hs:bw.size=cap*El.size α):own T base (w.alloc (.cells bw T)) (.slice (P_ w.heap.size) 0 cap) ([]:List α):=
 ⟨[],World.ownsRow_made w bw cap hb hm hs,rfl,fun k h=>absurd h (aX k)⟩
def Fw(xs:List Ltr)(f:Y_):Int:=if z_ xs&&Jr f then((xs.filter fun x=>pre x.code f).length:Nat)else -1
def Gs(p:Pln)(xs:List Ltr)(k:Int):List Nat:=(Fz p xs k).map List.length
def wo{α:Type}(xs:List α)(k:Int):List α:=(xs.zipIdx.filter fun x=>decide ((x.2:Int)≠k)).map Prod.fst
theorem Z7{α:Type}{xs:List α}{i}(h:i<xs.length)(k):wo (xs.take (i+1)) k=if(i:Int)=k then wo (xs.take i) k else wo (xs.take i) k++[xs[i]]:=by
 unfold wo;rw[aJ h,List.zipIdx_append,gW,cG];have e:(xs.take i).length=i:=zF
 rw[e];by_cases hk:(i:Int)=k
 .rw[aQ hk]
  simp[hk]
 .rw[aM hk]
  simp[hk]
theorem I_{α:Type}(xs:List α)(k):(wo xs k).length<=xs.length:=by unfold wo;refine' ze;exact aI (bL _ _) ZF
def Jy(fs:List Fwd)(c:Y_):Bool:=Be fs&&decide (0<=Gg fs c)
def N6(fs:List Fwd)(c:Y_):List Fwd:=if Jy fs c then wo fs (Gg fs c)else []
def Lh(fs:List Fwd)(a b:Y_):List Fwd:=wo fs (Gg fs a)++[⟨a,b⟩]
def Ig(fs:List Fwd)(a b:Y_):Bool:=Be fs&&(Be (Lh fs a b)&&(Bc (Lh fs a b) a).2.2)
def My(fs:List Fwd)(a b:Y_):List Fwd:=if Ig fs a b then Lh fs a b else []
def Eg(p:Pln)(f t:Int):Bool:=Bq p&&((decide (0<=f)&&decide (f<p.order.length))&&(decide (0<=t)&&decide (t<p.order.length)))
def Ju(os:List Y_)(f t:Nat):List Y_:=(wo os (f:Int)).take t++(os.getD f ⟨#[]⟩::(wo os (f:Int)).drop t)
def Ei(p:Pln)(f t:Int):Pln:=if Eg p f t then⟨p.bins,p.passes,Ju p.order f.toNat t.toNat⟩else⟨0,0,[]⟩
def Q7(fs:List Fwd):List Fwd:=if Be fs then((Ir (fs.map Fwd.src)).filter fun c=>(Bc fs c).2.2).map fun c=>⟨c,(Bc fs c).1⟩else []
def c3(f:Y_):Y_:=f.extract 0 3++f.extract 4 6++f.extract 7 9
def Fk(f:Y_):Bool:=(f.size==9)&&((f.data.toList[3]? ==some 45)&&((f.data.toList[6]? ==some 45)&&Ap (c3 f)))
def Yt(f:Y_):Y_:=if Fk f then c3 f else⟨#[]⟩
def Kz(f:Y_):Y_:=if Ap f then Sj f.data.toList else⟨#[]⟩
def Up(g:Y_):Nat:=if J6.findIdx (fun x=>zU x g)<10 then J6.findIdx (fun x=>zU x g)else 10
def Gk(b:Y_)(k:Nat):Nat:=Up (b.extract (1+5*k) (6+5*k))
def Dn(b:Y_):Nat->Nat
 |0=>0
 |k+1=>Dn b k+if Gk b k=10 then 1 else 0
def N1(b:Y_):Nat->Nat
 |0=>0
 |k+1=>N1 b k+if Gk b k=10 then 0 else Gk b k
def Y3(b:Y_)(k:Nat):Nat:=if Gk b k=10 then(10 - N1 b 8%10)%10 else Gk b k
def Fb(b:Y_):Bool:=(b.size==42)&&(decide (Dn b 8=1)||(decide (Dn b 8=0)&&decide (N1 b 8%10=0)))
def Hr(b:Y_):Y_:=if Fb b then c_ (Y3 b)else⟨#[]⟩
def Nv(fs:List Fwd)(c:Y_):Y_:=if(rSv fs c).2.2 then(rSv fs c).1++⟨#[32]⟩++Cl (rSv fs c).2.1 else⟨#[]⟩
def Ys(d:Dy)(c:Y_):Y_:=if(Nh d c).2.size=0 then⟨#[]⟩else(Nh d c).1++⟨#[32]⟩++(Nh d c).2
def Xe(net:List Ofc)(s c:Y_):Y_:=if Na net s c then Cb ((Cs net s c).1.map (Bw net))++⟨#[32]⟩++Xa (Cs net s c).2 else⟨#[]⟩
def Wh(net:List Ofc)(s:Y_):Y_:=if Gq net s<0 then⟨#[]⟩else Cb ((n_ net s).map (·++⟨#[42]⟩))
def Vs(p:Pln)(xs:List Ltr)(k:Int):Y_:=if(Gs p xs k).length=0 then⟨#[]⟩else Cb ((Gs p xs k).map Cl)
def Jp(p:Pln)(xs:List Ltr)(a b c:Int):Y_:=if Lo p xs a [⟨b,c⟩]then Co (Fr p xs a [⟨b,c⟩])else⟨#[]⟩
def setL(s:Dsk)(ok:Bool)(xs:List Ltr):Dsk×Y_:=if ok then({s with letters:=xs},Co xs)else(s,⟨#[]⟩)
def setF(s:Dsk)(ok:Bool)(fs:List Fwd):Dsk×Y_:=if ok then({s with day:={s.day with fwds:=fs}},C5 fs)else(s,⟨#[]⟩)
def Rh(s:Dsk)(wd:Y_):Dsk×Y_:=
 if wd=Cf then(s,Co s.letters)
 else if wd=Mf then({s with letters:=E9 s.letters},Co (E9 s.letters))
 else if wd=Ef then({s with letters:=Dr s.day.plan s.letters},Co (Dr s.day.plan s.letters)++⟨#[47]⟩++Co (Ha s.day.plan s.letters))
 else if wd=F4 then(s,G1 (Gy (z_ s.letters) (sL s.letters))++⟨#[32]⟩++G1 (Gy (z_ s.letters) (m_ s.letters)))
 else if wd=Df then(s,E7 s.day.plan)
 else if wd=Gd then(s,G1 (F5 s.day.plan s.letters))
 else if wd=Bg then(s,C5 s.day.fwds)
 else if wd=Dx then({s with day:={s.day with fwds:=Q7 s.day.fwds}},C5 (Q7 s.day.fwds))
 else if wd=Db then(s,Cb (N2 s.day.fwds))
 else if wd=Fm then(s,Cb s.day.held)
 else if wd=G3 then(s,Sx (Dh s.day s.letters))
 else if wd=Dq then(s,Qq (Eu s.day s.letters))
 else if wd=Es then(s,Mx s.net)
 else(s,Hg)
def i_(s:Dsk)(wd f:Y_):Dsk×Y_:=
 if wd=C8 then setL s (Jo s.letters (Am f)) (pg s.letters (Am f))
 else if wd=Eo then(s,G1 (Fw s.letters f))
 else if wd=Fj then(s,G1 (Hl s.day.plan f))
 else if wd=Ds then(s,Vs s.day.plan s.letters (Am f))
 else if wd=C4 then setF s (Jy s.day.fwds f) (N6 s.day.fwds f)
 else if wd=Cc then(s,Nv s.day.fwds f)
 else if wd=Cy then(if Ap f&&decide (s.day.held.length<30)then({s with day:={s.day with held:=s.day.held++[f]}},Cb (s.day.held++[f]))else(s,⟨#[]⟩))
 else if wd=Dk then(if Fp (Am f)then({s with day:={s.day with size:=Am f}},kR)else(s,⟨#[]⟩))
 else if wd=Dl then(s,Ys s.day f)
 else if wd=B5 then(s,Wh s.net f)
 else if wd=He then(s,Yt f)
 else if wd=Gn then(s,Kz f)
 else if wd=Ga then(s,Hr f)
 else(s,Hg)
def iV(s:Dsk)(wd f g:Y_):Dsk×Y_:=
 if wd=C0 then(if Eg s.day.plan (Am f) (Am g)then({s with day:={s.day with plan:=Ei s.day.plan (Am f) (Am g)}},E7 (Ei s.day.plan (Am f) (Am g)))else(s,⟨#[]⟩))
 else if wd=Bt then setF s (Ig s.day.fwds f g) (My s.day.fwds f g)
 else if wd=Fl then(s,Xe s.net f g)
 else(s,Hg)
def U0(s:Dsk)(wd r:Y_):Dsk×Y_:=
 if wd=Cf then setL s (Mv r) (t_ r)
 else if wd=Df then(if Ge r then({s with day:={s.day with plan:=Ey r}},kR)else(s,⟨#[]⟩))
 else if wd=Bg then(if Tf r then({s with day:={s.day with fwds:=kS r}},kR)else(s,⟨#[]⟩))
 else if wd=Es then(if Kx r then({s with net:=pf r},kR)else(s,⟨#[]⟩))
 else match Aj 32 r with
  |[f]=>i_ s wd f
  |[f,g]=>iV s wd f g
  |[f,g,h]=>if wd=Cz then(s,Jp s.day.plan s.letters (Am f) (Am g) (Am h))else(s,Hg)
  |_=>(s,Hg)
def Qk(s:Dsk)(am:Y_):Dsk×Y_:=match E5 32 am with
 |none=>Rh s am
 |some (wd,r)=>U0 s wd r
def Xw(ls:List Y_):Nat->Dsk
 |0=>I5
 |k+1=>if zU (ls.getD k ⟨#[]⟩) ⟨#[]⟩then Xw ls k else(Qk (Xw ls k) (ls.getD k ⟨#[]⟩)).1
def X9(ls:List Y_)(k:Nat):Y_:=(Qk (Xw ls k) (ls.getD k ⟨#[]⟩)).2
def b_(t:Y_):Y_:=if 20000<t.size then⟨#[108,111,110,103,10]⟩else Qr (X9 (Aj 10 t)) 0 ⟨#[]⟩ (Aj 10 t)
structure Inv (s:Dsk):Prop where
 bs:z_ s.letters=true
 plan:Bq s.day.plan=true
 fwds:Be s.day.fwds=true
 held:Ee s.day.held=true
 size:Fp s.day.size=true
 net:Di s.net=true
theorem Inv.day{s}(h:Inv s):Mi s.day=true:=by unfold Mi;rw[h.plan,h.fwds,h.held,h.size];rfl
theorem Inv.rd{s}(h:Inv s):Ka s.day s.letters=true:=by unfold Ka;rw[h.day,h.bs];rfl
theorem Inv.rp{s}(h:Inv s):M4 s.day.plan s.letters=true:=by unfold M4;rw[h.plan,h.bs];rfl
theorem AuX:Inv I5:=⟨ZR,ZR,ZR,ZR,ZR,ZR⟩
theorem ZDj{k}(hk:k<J6.length):J6[k]=G6 k:=by unfold G6;exact ZWA
theorem AmD{g k}(hk:k<10)(h:G6 k=g):Up g=k:=by
 have hl:k<J6.length:=hk;have e:J6.findIdx (fun x=>zU x g)=k:=(List.findIdx_eq hl).2 ⟨by rw[ZDj hl,h];exact Ec.2 rfl,fun j hj=>by
  rw[ZDj ZA];have:zU (G6 j) g=false:=by
   cases hq:zU (G6 j) g with
   |false=>rfl
   |true=>have:=AoS j ZA k hk ((Ec.1 hq).trans h.symm);omega
  exact zV⟩
 unfold Up;rw[e,aQ hk]
theorem AkE{g}(h:∀k,k<10->G6 k≠g):Up g=10:=by
 unfold Up;by_cases hl:J6.findIdx (fun x=>zU x g)<10
 .exfalso
  refine' ZWB;exact h _ hl (Ec.1 h1)
 .rw[aM hl]
theorem ZD6(g):Up g<=10:=by unfold Up;split<;>omega
theorem BbE{g d}(h:G_ g d):d=if Up g=10 then -1 else(Up g:Int):=by
 rcases h with⟨k,hk,rfl,h⟩|⟨rfl,h⟩
 .rw[AmD hk h,aM ZA]
 .rw[AkE h,aQ rfl]
theorem Az3{g}(h:Up g≠10):G6 (Up g)=g:=by
 unfold Up at h⊢;by_cases hl:J6.findIdx (fun x=>zU x g)<10
 .rw[aQ hl]
  refine' ZWB;exact Ec.1 h1
 .rw[aM hl]at h;exact absurd rfl h
theorem ZCc{b}:∀{n:Nat},Dn b n=0->∀k,k<n->Gk b k≠10
 |0,_,k,hk=>absurd hk (aX _)
 |n+1,h,k,hk=>by
  rw[Dn]at h;by_cases hg:Gk b n=10
  .rw[aQ hg]at h;omega
  .rw[aM hg]at h
   by_cases FQ:k=n
   .subst FQ;exact hg
   .exact ZCc ZA k ZA
theorem AbQ{b}:∀{n:Nat},Dn b n=1->∃u,u<n/\Gk b u=10/\∀k,k<n->k≠u->Gk b k≠10
 |0,h=>by rw[Dn]at h;omega
 |n+1,h=>by
  rw[Dn]at h;by_cases hg:Gk b n=10
  .rw[aQ hg]at h
   exact⟨n,dW n,hg,fun k hk ay=>ZCc (n:=n) ZA k ZA⟩
  .rw[aM hg]at h
   obtain⟨u,hu,h1,h2⟩:=AbQ (n:=n) ZA;exact⟨u,ZA,h1,fun k hk ay=>by
    by_cases FQ:k=n
    .subst FQ;exact hg
    .exact h2 k ZA ay⟩
theorem AsB(b):∀k,k<=8->Mw (Y3 b) 8 k=N1 b k+Dn b k*((10 - N1 b 8%10)%10)
 |0,_=>by simp[Mw,N1,Dn]
 |k+1,hk=>by
  rw[Mw,N1,Dn,aM ZA,AsB b k ZA];unfold Y3;by_cases hg:Gk b k=10
  .rw[aQ hg,aQ hg,aQ hg,eW];omega
  .rw[aM hg,aM hg,aM hg,dF];omega
theorem AlY{b}(h:Fb b=true):∃u,u<=8/\Bars b (Y3 b) u:=by
 unfold Fb at h;rw[aO,dI,jF,aO,dZ,dZ,dZ]at h;obtain⟨hz,h⟩:=h;have ten:∀k,k<8->Y3 b k<10:=fun k _=>by
  unfold Y3
  split
  .omega
  .refine' ZGf;rename_i hg;unfold Gk at hg⊢;omega
 have read:∀k,Gk b k≠10->G6 (Y3 b k)=b.extract (1+5*k) (6+5*k):=fun k hg=>by unfold Y3;rw[aM hg];exact Az3 hg
 have hs:=AsB b 8 (aC _);rcases h with h|⟨h,hm⟩
 .obtain⟨u,hu,h1,h2⟩:=AbQ h
  refine⟨u,ZA,hz,ten,fun k hk ay=>read k (h2 k hk ay),fun _ j hj e=>?_,?_⟩
  .have:=AmD hj e
   unfold Gk at h1;omega
  .rw[hs,h];omega
 .refine⟨8,aC _,hz,ten,fun k hk _=>read k (ZCc h k hk),fun h8=>absurd h8 ZE,?_⟩
  rw[hs,h];omega
theorem Am4(b):∀k,N1 b k<=9*k
 |0=>aC _
 |k+1=>by
  have h1:=Am4 b k;have h2:=ZD6 (b.extract (1+5*k) (6+5*k));rw[N1]
  split
  .omega
  .rename_i hg
   unfold Gk at hg⊢;omega
theorem ZA7(b w)(hz:b.size=42)(hn:Fb b=false)(hw:N9 w):
 C_ 153 #[.string b] w (.tuple #[.string ⟨#[]⟩,.bool false]):=by
 have HG:Hid (∀(k:Nat) (_:k<8) (W:World),B_ w W->ya 240 #[.string b,.int .i64 (k:Int)] W (.int .i64 (if Gk b k=10 then -1 else(Gk b k:Int)))):=fun k hk W hW=>by refine(ZBC b k W hz hk (hw.on hW)).mono ?_;rintro e _ ⟨d,rfl,hd,rfl⟩;exact⟨by rw[BbE hd.out];rfl,rfl⟩
 have HN:Hid (¬(Dn b 8=1\/(Dn b 8=0/\N1 b 8%10=0))):=fun h=>by
  unfold Fb at hn;rw[hz]at hn;rcases h with h|⟨h1,h2⟩
  .rw[h]at hn;simp at hn
  .rw[h1,h2]at hn;simp at hn
 have QU:(b.size:Int)=42:=ZA
 refine' ZQZ;clear wc hn hw hz;refine' ZQa;go_loopw[5,6,7] (fun t m i wr=>∃(k:Nat) (l:List UInt8) (mi:Int),k<=8/\i=.int .i64 k/\t=.int .i64 (N1 b k:Nat)/\m=.int .i64 mi/\Hid (Dn b k<=1/\(Dn b k=0->mi= -1)/\(Dn b k=1->0<=mi))/\Hid (E8 wr w.heap.size l)/\Hid (l.length=8)/\B_ w wr) (fun _ _ i _=>(8 - intOf i).toNat)
 case atStart=>exact⟨0,List.replicate 8 0, -1,ZA,rfl,rfl,rfl,⟨aN _,fun _=>rfl,fun h=>by rw[Dn]at h;omega⟩,RC.out,Rm,lz⟩
 case round=>
  obtain⟨k,l,mi,hk,rfl,rfl,rfl,HM,HR,HL,av⟩:=hrel;refine' YB;by_cases ab:k<8
  .refine' ZQb;have xm:=Am4 b k;have hlk:k<l.length:=zt
   have cn:Hid (Dn b (k+1)=Dn b k+if Gk b k=10 then 1 else 0):=rfl;have qR:Hid (N1 b (k+1)=N1 b k+if Gk b k=10 then 0 else Gk b k):=rfl;by_cases hg:Gk b k=10
   .have lJ:Hid (ya 240 #[.string b,.int .i64 (k:Int)] w1 (.int .i64 (-1))):=by{have:=HC.out;rw[aQ hg]at this;exact this};have GH:Hid (Dn b (k+1)=Dn b k+1):=by{have:=cn.out;rw[aQ hg]at this;exact this};have yX:Hid (N1 b (k+1)=N1 b k):=by{have:=qR.out;rw[aQ hg]at this;exact this};clear HC cn qR hg;generalize N1 b k=sm at *;by_cases hm:0<=mi
    .refine' Qj;go_ret2;exact⟨rfl,av⟩
    .have OO:Hid (Dn b (k+1)<=1/\(Dn b (k+1)=0->(k:Int)= -1)/\(Dn b (k+1)=1->0<=(k:Int))):=by
      obtain⟨h1,h2,h3⟩:=HM.out;have:=GH.out;have h0:Dn b k=0:=by
       rcases(show Dn b k=0\/Dn b k=1 by omega)with h|h
       .exact h
       .exact absurd (h3 h) hm
      exact⟨ZA,fun h=>ZA,fun _=>ZA⟩
     refine' Qj;go_roundw
     case rel=>exact⟨k+1,l,k,ZA,ZJ,by rw[yX.out],rfl,OO,HR,HL,av⟩
     case measure=>exact ZK
   .have lJ:Hid (ya 240 #[.string b,.int .i64 (k:Int)] w1 (.int .i64 (Gk b k:Int))):=by{have:=HC.out;rw[aM hg]at this;exact this};have GH:Hid (Dn b (k+1)=Dn b k):=by{have:=cn.out;rw[aM hg]at this;exact this};have yX:Hid (N1 b (k+1)=N1 b k+Gk b k):=by{have:=qR.out;rw[aM hg]at this;exact this};have OO:Hid (Dn b (k+1)<=1/\(Dn b (k+1)=0->mi= -1)/\(Dn b (k+1)=1->0<=mi)):=by{show _/\_;rw[GH.out];exact HM.out};have hd:Gk b k<10:=by{refine' ZGf;unfold Gk at hg⊢;omega};have pM:Hid (E8 (w1.setCell ⟨w.heap.size,k,none⟩ (.int .u8 (48+(Gk b k:Int)))) w.heap.size (l.set k (b8 (48+(Gk b k:Int))))):=by{have h1:=HR.out.set k (b8 (48+(Gk b k:Int)));refine' ZFH;exact h1};have ig:Hid ((l.set k (b8 (48+(Gk b k:Int)))).length=8):=ZQd
    have hc:=HR.out.cell k hlk;have hf:=HR.out.free k;clear HC cn qR hg;generalize N1 b k=sm at *;generalize l[k]=WE at *;obtain⟨d,jb⟩:∃d,Gk b k=d:=⟨_,rfl⟩;rw[jb]at lJ yX pM ig hd;clear jb;refine' ZFM;refine' Qj;go_roundw
    case rel=>exact⟨k+1,_,mi,ZA,ZJ,by rw[yX.out];rfl,rfl,OO,pM,ig,Ai av (p:=⟨w.heap.size,k,none⟩) (aC _) _⟩
    case measure=>exact ZK
  .obtain rfl:k=8:=ZA
   have xm:=Am4 b 8;have h0:mi= -1/\¬N1 b 8%10=0:=by
    obtain⟨h1,h2,h3⟩:=HM.out;have hn:=HN.out;rcases(show Dn b 8=0\/Dn b 8=1 by omega)with h|h
    .exact⟨h2 h,fun h4=>hn (.inr ⟨h,h4⟩)⟩
    .exact absurd (.inl h) hn
   obtain⟨rfl,hsm⟩:=h0;generalize N1 b 8=sm at *;have hS1:¬(sm:Int)%10=0:=ZA
   clear hsm
   refine' ZQ;exact⟨rfl,av⟩
theorem ZDt(b w)(hw:N9 w):
 C_ 153 #[.string b] w (.tuple #[.string (Hr b),.bool (Fb b)]):=by
 unfold Hr;cases hr:Fb b
 .by_cases hz:b.size=42
  .exact ZA7 b w hz hr hw
  .have QU:¬(b.size:Int)=42:=ZA
   clear hr hw hz;go_enter func153,ntmps153
   refine' ZQ;exact zv
 .obtain⟨u,hu,hB⟩:=AlY hr
  exact Ab7 b (Y3 b) u w hB hu hw
def u_(b:Y_)(k:Nat):Nat:=if Gk b k=10 then 0 else Gk b k
theorem AmW(b k):u_ b k<10:=by
 unfold u_;refine' ZGf;unfold Gk
 split<;>omega
def v_(ds:Nat->Nat)(n:Nat):Y_:=⟨((List.range n).map fun j=>b8 (48+(ds j:Int))).toArray⟩
theorem AfH(ds:Nat->Nat)(n):(v_ ds n).size=n:=by show(List.toArray _).size=n;rw[dX,bI,List.length_range]
theorem Ns(ds:Nat->Nat)(n):(v_ ds n).data.toList=(List.range n).map fun j=>b8 (48+(ds j:Int)):=rfl
theorem AsK:∀d,d<10->xx d=⟨#[b8 (48+(d:Int))]⟩:=ZE
theorem AnL(ds:Nat->Nat){n}(h:ds n<10):v_ ds (n+1)=v_ ds n++xx (ds n):=by apply Cv;rw[B6,Ns,Ns,fN,cG,AsK _ h];rfl
theorem AjK{ds es:Nat->Nat}{n}(h:∀k,k<n->ds k=es k):v_ ds n=v_ es n:=by apply Cv;rw[Ns,Ns];exact List.map_congr_left fun k hk=>by rw[h k (List.mem_range.1 hk)]
theorem AoB{ds:Nat->Nat}{n}(h:∀k,k<n->ds k<10):Ea (v_ ds n).data.toList=true:=by
 rw[Ns];unfold Ea;refine List.all_eq_true.2 fun x hx=>?_
 obtain⟨k,hk,rfl⟩:=List.mem_map.1 hx;have h1:=h k (List.mem_range.1 hk);have h2:=ZAx (n:=48+(ds k:Int)) ZA ZA;exact Yn
theorem AeJ{ds:Nat->Nat}:∀n,n<=8->(∀k,k<n->ds k<10)->F8 (v_ ds n).data.toList=Mw ds 8 n
 |0,_,_=>rfl
 |n+1,h,hd=>by have h1:=hd n ZA;have h2:=ZAx (n:=48+(ds n:Int)) ZA ZA;rw[AnL ds h1,B6,AsK _ h1];show F8 ((v_ ds n).data.toList++[b8 (48+(ds n:Int))])=_;rw[ZCX,AeJ n ZA fun k hk=>hd k ZA,Mw,aM ZA];omega
theorem AqV(ds:Nat->Nat):(v_ ds 8).extract 0 7=c_ ds:=by apply Cv;rw[Hb,Ns];rfl
theorem AzY(ds:Nat->Nat){u d}(hu:u<8)(hd:d<10):(v_ ds 8).extract 0 u++xx d++(v_ ds 8).extract (u+1) 8=v_ (fun j=>if j=u then d else ds j) 8:=by
 apply Cv;rw[B6,B6,Hb,Hb,Ns,Ns,AsK _ hd];have hc:u=0\/u=1\/u=2\/u=3\/u=4\/u=5\/u=6\/u=7:=ZA
 rcases hc with rfl|rfl|rfl|rfl|rfl|rfl|rfl|rfl<;>rfl
theorem Am1(b):∀k,k<=8->Mw (u_ b) 8 k=N1 b k
 |0,_=>rfl
 |k+1,h=>by rw[Mw,N1,aM ZA,Am1 b k ZA];rfl
theorem AqS(b):∀{m n:Nat},m<=n->Dn b m<=Dn b n:=by
 intro m n h
 induction n with
 |zero=>rw[show m=0 by omega];exact iE
 |succ n ih=>
  by_cases e:m=n+1
  .subst e;exact iE
  .exact aI (ih ZA) (by rw[Dn];omega)
theorem BcE{b k}(hk:k<=8)(h:2<=Dn b k):Fb b=false:=by have:=AqS b hk;unfold Fb;rw[aP (show¬Dn b 8=1 by omega),aP (show¬Dn b 8=0 by omega)];simp
theorem BaZ{b}(hz:b.size=42)(h:Dn b 8=0):Fb b=decide (F8 (v_ (u_ b) 8).data.toList%10=0)/\(Fb b=true->Hr b=(v_ (u_ b) 8).extract 0 7):=by
 refine' ZXk;refine⟨?_,fun hr=>?_⟩
 .rw[hs]
  unfold Fb;rw[hz,aP (show¬Dn b 8=1 by omega),aL h];simp
 .unfold Hr
  rw[aQ hr,AqV,<-AqV,<-AqV]
  congr 1
  refine AjK fun k hk=>?_
  have:=ZCc h k hk;unfold Y3 u_;rw[aM this,aM this]
theorem Bc9{b u}(hz:b.size=42)(h:Dn b 8=1)(hu:u<8)(hg:Gk b u=10)(X)(hX:(v_ (u_ b) 8).extract 0 u++xx (Kv (v_ (u_ b) 8).data.toList)++(v_ (u_ b) 8).extract (u+1) 8=X):
 Fb b=true/\Hr b=X.extract 0 7/\Ea X.data.toList=true/\X.size=8/\F8 X.data.toList%10=0:=by
 refine' ZXk;have ag:Fb b=true:=by unfold Fb;rw[hz,aL h];rfl
 have hc:=AeV (v_ (u_ b) 8).data.toList;rw[AzY _ hu hc]at hX;have xW:∀k,k<8->k≠u->Gk b k≠10:=fun k hk ay=>by
  obtain⟨v,hv,h1,h2⟩:=AbQ h;have:u=v:=by
   by_cases e:u=v
   .exact e
   .exact absurd hg (h2 u hu e)
  subst this;exact h2 k hk ay
 have e:X=v_ (Y3 b) 8:=by
  rw[<-hX];refine AjK fun k hk=>?_
  unfold Y3;by_cases QM:k=u
  .subst QM
   rw[aQ rfl,aQ hg];unfold Kv;rw[hs]
  .rw[aM QM,aM (xW k hk QM)]
   unfold u_;rw[aM (xW k hk QM)]
 have ht:∀k,k<8->Y3 b k<10:=fun k hk=>by
  unfold Y3
  split
  .omega
  .rename_i DN
   refine' ZGf;unfold Gk at DN⊢;omega
 refine⟨ag,?_,?_,?_,?_⟩
 .unfold Hr
  rw[aQ ag,e,AqV]
 .rw[e];exact AoB ht
 .rw[e,AfH]
 .rw[e,AeJ 8 (aC _) ht,AsB b 8 (aC _),h]
  omega
theorem AeZ(s w)(hd:Ea s.data.toList=true)(hz:s.size<=20):
 ya 251 #[.string s] w (.int .i64 (F8 s.data.toList:Int)):=by
 refine' Uw;go_enter func251,ntmps251
 refine' ZQR
 .refine' Wg;by_cases ab:k<s.size
  .refine' ZQS;have t6:n<=1000:=ZA
   clear j9 hn;refine' ZIq;refine' ZIy;have w4:aD.wrap ((n:Int)+(b.toNat:Int))=(n:Int)+(b.toNat:Int):=bG _ ZA;have w5:aD.wrap ((n:Int)+(b.toNat:Int) - 48)=(n:Int)+(b.toNat:Int) - 48:=bG _ ZA;exact ZFI
  exact ZFJ
theorem ZBD(s w)(hd:Ea s.data.toList=true)(hz:s.size<=20):
 ya 177 #[.string s] w (.bool true):=by have h:=ZAz s w ZN;rw[hd,aL hz]at h;exact h
theorem ZBW(s w)(hd:Ea s.data.toList=true)(hz:s.size<=20):
 ya 166 #[.string s] w (.int .i64 (Kv s.data.toList:Int)):=by
 have HA:=aA (fun W=>ZBD s W hd hz);have HB:=aA (fun W=>AeZ s W hd hz);refine' ZQT;go_enter func166,ntmps166
 refine' ZC;refine' ZFK;go_wp2_with (go_at_call 251;refine(HB.out _).mono ?_;refine' ZP)
 go_ret;refine⟨Bo ?_,rfl⟩;have:=HE.out;omega
theorem ZBS(s w)(hd:Ea s.data.toList=true)(hz:s.size=8):
 ya 184 #[.string s] w (.bool (decide (F8 s.data.toList%10=0))):=by
 have HA:=aA (fun W=>ZBD s W hd ZA);have HB:=aA (fun W=>AeZ s W hd ZA);obtain⟨e1,e2⟩:=G7 (x:=s) ZA;have hn:=Ow s.size s.data.toList hd ZF;generalize F8 s.data.toList=n at *;have lK:n<=180:=ZA
 clear hd hn hz;go_enter func184,ntmps184
 go_wp2_with (first|(go_at_call 177;refine' ZFK)|(go_at_call 251;refine(HB.out _).mono ?_;refine' ZP))
 go_ret;refine⟨Al ?_,rfl⟩;refine' fV;exact ZH
theorem AdA(d:Nat)(w)(hd:d<10):
 C_ 165 #[.int .i64 (d:Int)] w (.string (G6 d)):=by
 have hc:d=0\/d=1\/d=2\/d=3\/d=4\/d=5\/d=6\/d=7\/d=8\/d=9:=ZA
 rcases hc with rfl|rfl|rfl|rfl|rfl|rfl|rfl|rfl|rfl|rfl
 all_goals
  go_enter func165,ntmps165
  refine' ZI;exact⟨rfl,(aF _ _).alloc (aC _) _⟩
theorem Ah9(g w):
 C_ 183 #[.string g] w (.int .i64 (if Up g=10 then -1 else(Up g:Int))):=by
 have NM:Hid ((∀j,j<10->G6 j≠g)->Up g=10):=AkE;have mE:Hid (∀k,k<10->G6 k=g->Up g=k):=fun k=>AmD
 generalize Up g=r at *;obtain⟨q,HQ⟩:∃q:Int,Hid ((if r=10 then -1 else(r:Int))=q):=⟨_,rfl⟩;rw[HQ.out];go_enter func183,ntmps183
 refine' ZC;go_loopw[3] (fun i wr=>∃k:Nat,k<=10/\i=.int .i64 k/\Hid (∀j,j<k->G6 j≠g)/\B_ w wr) (fun i _=>10 - (intOf i).toNat)
 case atStart=>exact⟨0,aN _,rfl,fun j hj=>absurd hj (aX j),aF _ _⟩
 case round=>
  obtain⟨k,hk,rfl,HN,lr⟩:=hrel;refine' zd;by_cases ab:k<10
  .have bd:(k:Int)<=9:=ZA
   have HB:=AdA k w3 ab;cases hq:zU (G6 k) g
   .have HS:Hid (∀j,j<k+1->G6 j≠g):=fun j hj=>by
     by_cases e:j=k
     .subst e;exact F6.1 hq
     .exact HN.out j ZA
    have sH:((G6 k).toList==g.toList)=false:=hq;refine' ZWq;refine' ZC;go_roundw
    case rel=>exact⟨k+1,ZA,ZJ,HS,l4⟩
    case measure=>exact ZK
   .have HE:Hid (r=k):=mE.out k ab (Ec.1 hq)
    have sH:((G6 k).toList==g.toList)=true:=hq;refine' ZWq;refine' ZI;exact⟨Bo (by rw[<-HQ.out,aM (by have:=HE.out;omega),HE.out]),l4⟩
  .have NN:k=10:=ZA
   have HE:Hid (r=10):=NM.out (by rw[<-NN];exact HN.out);have bd:¬(k:Int)<=9:=ZA
   clear NN
   refine' ZI;exact⟨Bo (by rw[<-HQ.out,aQ HE.out]),lr⟩
theorem Ae9(s w)(hc:Ap s=true):
 C_ 66 #[.string s] w (.tuple #[.string (Sj s.data.toList),.bool true]):=by
 obtain⟨h7,_⟩:=Cp hc;have jb:Ea s.data.toList=true:=ZIt
 have js:Hid (∀W:World,ya 94 #[.string s] W (.bool true)):=fun W=>by have:=Cm s W ZN;exact We
 have DB:=aA (fun W=>ZBW s W jb ZA);have HB:Hid (∀(d:Nat) (_:d<10) (W:World),B_ w W->Calls Tryz.prog 165 #[.int .i64 (d:Int)] W fun e w'=>e=.returned (.string (G6 d))/\B_ w w'):=fun d hd W hW=>
  (AdA d W hd).mono fun e W' h=>⟨h.1,hW.trans (h.2.mono hW.size)⟩
 refine' ZQV;refine' zk;clear hc jb hq;refine' ZWr;go_loopw[4,5] (fun t i wr=>∃k:Nat,k<=s.size/\i=.int .i64 k/\t=.string (Ni (s.data.toList.take k))/\B_ w wr) (fun _ i _=>s.size - (intOf i).toNat)
 case atStart=>exact Pr
 case round=>
  refine' Ph;refine' zd;clear l0;by_cases ab:k<s.size
  .refine' ZQX;have ha:¬9223372036854775807<u.size+(G6 d).size:=ZA
   have FB:=aA (HB.out d uK);generalize G6 d=X at *;clear DC lZ;refine' ZIy;have w1:aD.wrap ((b.toNat:Int) - 48)=(d:Int):=Z8
   clear bv dq hd
   go_wp2_with (go_at_call 165;refine(FB.out _ lr).mono ?_;rintro e w4 ⟨rfl,l4⟩)
   go_roundw
   case rel=>exact⟨k+1,ZA,ZJ,ZFL,l4⟩
   case measure=>exact ZK
  .refine' ZQY;have ha:¬9223372036854775807<u.size+(G6 q).size:=ZA
   have qj:¬9223372036854775807<u.size+(G6 q).size+1:=ZA
   have FB:=aA (HB.out q uh);have yT:Hid (Sj s.data.toList=u++G6 q++⟨#[124]⟩):=HE.out;generalize G6 q=X at *;clear DC lZ HE
   go_wp2_with (first|(go_at_call 166;refine(DB.out _).mono ?_;refine' ZP)|(go_at_call 165;refine(FB.out _ lr).mono ?_;rintro e w4 ⟨rfl,l4⟩))
   go_ret2;exact⟨by rw[yT.out]<;>rfl,l4⟩
theorem AgP(s w)(hz:s.size<=maxLen)(hc:Ap s=false):
 C_ 66 #[.string s] w (.tuple #[.string ⟨#[]⟩,.bool false]):=by
 have js:Hid (∀W:World,ya 94 #[.string s] W (.bool false)):=fun W=>by have:=Cm s W hz;exact We
 clear hc;refine' ZWr;go_ret2;exact zv
theorem ApD(s w)(hz:s.size<=maxLen):
 C_ 66 #[.string s] w (.tuple #[.string (Kz s),.bool (Ap s)]):=by
 unfold Kz;cases h:Ap s
 .exact AgP s w hz h
 .exact Ae9 s w h
theorem Au8{rs}(h:Be rs=true)(k):(Jb rs k).size<=510:=by
 have h1:=Dw ((rs.take k).map Ek) y7 16 fun p hp=>(Zt h p ZIb).1
 have h2:=(Ch.1 h).1;refine' Ur;have h3:(rs.take k).length*(16+y7.size)<=30*17:=bY zF (aC _);unfold Jb;omega
theorem AyO{rs}(h:Be rs=true)(h0:0<rs.length):1<=(Jb rs rs.length).size:=by
 refine' ZPy;have hp:∀(j:Nat) (hj:j<rs.length),1<=(Ek rs[j]).size:=fun j hj=>(Zt h _ (List.mem_map.2 ⟨_,aS hj,rfl⟩)).2
 exact ZPz
theorem Et(v rs w)(hv:R_ w v rs):
 C_ 30 #[v] w (.string (C5 rs)):=by
 refine' eN;go_enter func30,ntmps30
 refine' ZC;refine(D2 _ rs _ HV.out).mono ?_;refine' ZIk;refine' ZRH;have HF:Hid (C5 rs=if(Jb rs rs.length).size=0 then⟨#[45]⟩else Jb rs rs.length):=by
  show _=_;by_cases h0:rs.length=0
  .rw[AhO ag h0,h0,Ou];rfl
  .have:=AyO ag ZA
   rw[Pe ag h0,aM ZA];unfold Jb;rw[bA]
 refine' ZP1
 .refine' Qv;by_cases ab:k<rs.length
  .refine' Qo;have y1:=y1 w2 lr;have y2:=y2 w2 lr;have me:=aA (AbF d9.out ab);refine' ZP2;have ev:=Au8 d9.out k;refine' ZP3
   .refine' ZP4;have QK:(P++(⟨#[32]⟩:Y_)).size<=511:=Wp
    exact ZP5
  .refine' ZP6;by_cases hz:P.size=0
   .have uR:Hid (C5 rs=⟨#[45]⟩):=ZIf
    exact ZIg
   .have uR:Hid (C5 rs=P):=ZIh
    exact ZIi
theorem Be0{c}(m):∀l:List UInt8,s_ c (l++c::m)=s_ c l++s_ c m
 |[]=>by rw[bT,Yw];rfl
 |b::l=>by
  have ih:=Be0 (c:=c) m l;rw[cK];by_cases hb:b=c
  .subst hb
   rw[Yw,Yw,ih];rfl
  .obtain⟨p,ps,hp⟩:=BdY (Vx c l)
   rw[hp]at ih;rw[Nk hb hp,Nk hb (p:=p) (ps:=ps++s_ c m) ih];rfl
theorem BeM(a b c:Y_):a++b++c=a++(b++c):=ZJT
theorem BeN(a:Y_):a++⟨#[]⟩=a:=by apply Cv;rw[B6];simp
theorem BdE(ans:Nat->Y_):∀(Q:List Y_) (k:Nat) (o:Y_),∃R,Qr ans k o Q=o++R
 |[],k,o=>⟨⟨#[]⟩,by rw[Qr,BeN]⟩
 |l::Q,k,o=>by
  by_cases h0:l.size=0
  .rw[T_ h0];exact BdE ans Q (k+1) o
  .by_cases hf:100<=k\/40000<o.size
   .rw[Wj h0 hf];exact⟨_,rfl⟩
   .rw[Vu h0 ZA ZA]
    obtain⟨R,hR⟩:=BdE ans Q (k+1) (o++(jG (ans k)++⟨#[10]⟩));exact⟨_,by rw[hR,BeM]⟩
theorem BdK{ans wt:Nat->Y_}(Q):∀(P:List Y_) (k:Nat) (o:Y_),(∀i,i<P.length->wt (k+i)=ans (k+i))->∃R,Qr wt k o (P++Q)=Qr ans k o (P++[⟨#[]⟩])++R
 |[],k,o,_=>by rw[bT,bT,T_ rfl,Qr];exact BdE wt Q k o
 |l::P,k,o,h=>by
  have hn:∀i,i<P.length->wt (k+1+i)=ans (k+1+i):=fun i hi=>by have:=h (i+1) ZH;rw[show k+1+i=k+(i+1) by omega];exact this
  rw[cK,cK];by_cases h0:l.size=0
  .rw[T_ h0,T_ h0];exact BdK Q P (k+1) o hn
  .by_cases hf:100<=k\/40000<o.size
   .rw[Wj h0 hf,Wj h0 hf];exact⟨⟨#[]⟩,(BeN _).symm⟩
   .rw[Vu h0 ZA ZA,Vu h0 ZA ZA,show wt k=ans k from h 0 ZF]
    exact BdK Q P (k+1) _ hn
theorem Be5{P Q:List Y_}{k}(h:k<P.length):(P++Q).getD k ⟨#[]⟩=P.getD k ⟨#[]⟩:=by rw[bH,bH,ZDy h]
theorem Be4(P Q):∀k,k<=P.length->Xw (P++Q) k=Xw P k
 |0,_=>rfl
 |k+1,h=>by rw[Xw,Xw,Be4 P Q k ZA,Be5 ZA]
theorem Be1(P Q){k}(h:k<P.length):X9 (P++Q) k=X9 P k:=by unfold X9;rw[Be4 P Q k ZA,Be5 h]
theorem BeT(t c)(ht:t.size<=20000)(hc:c=0\/(∃h:c - 1<t.size,1<=c/\t[c - 1]=10)):∃R,b_ t=b_ (t.extract 0 c)++R:=by
 have hz:(t.extract 0 c).size<=20000:=zL
 unfold b_;refine' ZGU;have jy:∃P Q:List Y_,Aj 10 t=P++Q/\Aj 10 (t.extract 0 c)=P++[⟨#[]⟩]:=by
  rcases hc with rfl|⟨h,h1,h2⟩
  .refine⟨[],Aj 10 t,rfl,?_⟩
   have e:(t.extract 0 0).data.toList=[]:=ZJ7
   unfold Aj;rw[e];rfl
  .have hl:c - 1<t.data.toList.length:=zI
   have e1:t.data.toList=t.data.toList.take (c - 1)++(10:UInt8)::t.data.toList.drop c:=by
    conv=>lhs;rw[<-dQ (c - 1) t.data.toList]
    rw[cU hl,show t.data.toList[c - 1]=10 from h2,show c - 1+1=c by omega]
   have e2:(t.extract 0 c).data.toList=t.data.toList.take (c - 1)++(10:UInt8)::[]:=by
    rw[Hb,List.drop_zero];have:t.data.toList.take c=t.data.toList.take (c - 1)++[t.data.toList[c - 1]]:=by
     conv=>lhs;rw[show c=c - 1+1 by omega]
     rw[aJ hl]
    rw[this,show t.data.toList[c - 1]=10 from h2]
   refine⟨(s_ 10 (t.data.toList.take (c - 1))).map fun l=>⟨l.toArray⟩,(s_ 10 (t.data.toList.drop c)).map fun l=>⟨l.toArray⟩,?_,?_⟩
   .unfold Aj
    conv=>lhs;rw[e1]
    rw[Be0,cG]
   .unfold Aj
    rw[e2,Be0,cG];rfl
 obtain⟨P,Q,h1,h2⟩:=jy;rw[h1,h2];refine BdK Q P 0 ⟨#[]⟩ fun i hi=>?_
 rw[bV,Be1 P Q hi,Be1 P _ hi]
theorem AbG{α:Type}{R:α->α->Prop}:∀{l1 l2:List α},l1.Perm l2->l1.Pairwise R->l2.Pairwise R->(∀x y,x∈l1->y∈l1->R x y->R y x->x=y)->l1=l2
 |[],l2,hp,_,_,_=>by rw[hp.symm.eq_nil]
 |x::l1,[],hp,_,_,_=>by simpa using hp.length_eq
 |x::l1,y::l2,hp,h1,h2,ha=>by
  rw[fZ]at h1 h2;have xX:x=y:=by
   refine' ZVK;rcases List.mem_cons.1 m1 with e|SY
   .exact e
   rcases List.mem_cons.1 m2 with e|SZ
   .exact e.symm
   exact ha x y ZF m2 (h1.1 y SZ) (h2.1 x SY)
  subst xX;rw[AbG (List.perm_cons x |>.1 hp) h1.2 h2.2 fun u v hu hv=>ha u v (bN _ hu) (bN _ hv)]
def j_(a b:Y_):Prop:=a.data.toList<=b.data.toList
theorem AnN{a b}(h1:j_ a b)(h2:j_ b a):a=b:=Cv (List.le_antisymm h1 h2)
theorem AuW{a b c}(h1:j_ a b)(h2:j_ b c):j_ a c:=List.le_trans h1 h2
theorem Pn(ps):(Ir ps).Perm ps:=by
 unfold Ir;have h:=(List.mergeSort_perm (ps.map (·.data.toList)) fun x y=>decide (x<=y)).map fun l:List UInt8=>(⟨l.toArray⟩:Y_)
 rw[gZ]at h;have e:(fun l:List UInt8=>(⟨l.toArray⟩:Y_)) ∘ (fun x:Y_=>x.data.toList)=id:=by funext x;rfl
 rw[e,List.map_id]at h;exact h
theorem ZD2(ps):(Ir ps).Pairwise j_:=by
 unfold Ir;rw[iK];have h:=List.pairwise_mergeSort (le:=fun x y:List UInt8=>decide (x<=y)) (fun a b c h1 h2=>by rw[dZ]at *;exact List.le_trans h1 h2) (fun a b=>by rw[jF,dZ,dZ];exact List.le_total a b) (ps.map (·.data.toList))
 exact h.imp fun{a b} h=>by rw[dZ]at h;exact h
theorem AsH{ps xs}(hp:xs.Perm ps)(hs:xs.Pairwise j_):xs=Ir ps:=
 AbG (hp.trans (Pn ps).symm) hs (ZD2 ps) fun _ _ _ _ h1 h2=>AnN h1 h2
def Kk:List Y_->Y_->List Y_
 |[],s=>[s]
 |x::l,s=>if s.data.toList<x.data.toList then s::x::l else x::Kk l s
theorem ZDc:∀(l:List Y_) (s:Y_),(Kk l s).Perm (s::l)
 |[],s=>gQ _
 |x::l,s=>by
  unfold Kk
  split
  .exact gQ _
  .exact((ZDc l s).cons x).trans (List.Perm.swap s x l)
theorem AdM:∀{l:List Y_} (s:Y_),l.Pairwise j_->(Kk l s).Pairwise j_
 |[],s,_=>by unfold Kk;simp
 |x::l,s,h=>by
  rw[fZ]at h;unfold Kk
  split
  .rename_i hl
   rw[fZ,fZ];have FO:j_ s x:=List.le_of_lt hl;exact⟨fun y hy=>by
    rcases List.mem_cons.1 hy with rfl|hy
    .exact FO
    .exact AuW FO (h.1 y hy),h⟩
  .rename_i hl
   rw[fZ];refine⟨fun y hy=>?_,AdM s h.2⟩;rcases List.mem_cons.1 ((ZDc l s).mem_iff.1 hy)with rfl|hy
   .exact List.not_lt.1 hl
   .exact h.1 y hy
theorem Ac3(xs):xs.foldl Kk []=Ir xs:=by
 have jy:∀(xs CW:List Y_),CW.Pairwise j_->(xs.foldl Kk CW).Pairwise j_/\(xs.foldl Kk CW).Perm (CW++xs):=by
  intro xs
  induction xs with
  |nil=>intro CW h;exact⟨h,ZF⟩
  |cons x xs ih=> intro CW h;rw[List.foldl_cons];obtain⟨h1,h2⟩:=ih (Kk CW x) (AdM x h);refine⟨h1,h2.trans ?_⟩;refine((ZDc CW x).append_right xs).trans ?_;rw[cK];exact ZB1.symm
 obtain⟨h1,h2⟩:=jy xs [] ZAb;exact AsH V2 h1
theorem Aj7{fs}(h:Be fs=true):(Q7 fs).Perm (bl fs):=by
 unfold Q7 bl;rw[aQ h];have h1:=((Pn (fs.map Fwd.src)).filter fun c=>(Bc fs c).2.2).map fun c=>(⟨c,(Bc fs c).1⟩:Fwd)
 refine h1.trans ?_;rw[List.filter_map,gZ];exact gQ _
theorem AnS(fs):(Q7 fs).Pairwise fun x y=>j_ x.src y.src:=by
 unfold Q7
 split
 .rw[iK]
  exact(ZD2 _).filter _
 .exact ZAb
theorem Au4{fs gs}(h:Be fs=true)(hp:gs.Perm (bl fs))(hs:gs.Pairwise fun x y=>j_ x.src y.src):gs=Q7 fs:=by
 refine AbG (hp.trans (Aj7 h).symm) hs (AnS fs) fun x y hx hy h1 h2=>?_
 have e:=AnN h1 h2;have mx:=hp.mem_iff.1 hx;have my:=hp.mem_iff.1 hy;unfold bl at mx my;obtain⟨a,_,rfl⟩:=List.mem_map.1 mx;obtain⟨b,_,rfl⟩:=List.mem_map.1 my;have e':a.src=b.src:=e;rw[e']
theorem AjN{x}(h:Ap x=true):x.size=7:=(Cp h).1
theorem ZBG{hs}(h:Ee hs=true):hs.length<=30/\∀x∈hs,Ap x=true:=by unfold Ee at h;rw[aO,dZ,dU]at h;exact h
theorem AlQ(B d s vH w)(hD:Bv B w d s vH)(hT:I4 w):
 Calls Tryz.prog 52 #[.pointer (P_ d),.string Cf] w (Bb B d s vH (Co s.letters) w):=by refine' ZKl;have HF:=aA (F7 vL s.letters w hL.rd hT);clear hD hL hT;refine' ZKk;exact Ox
theorem Au7(B d s vH w)(hD:Bv B w d s vH)(hT:I4 w)(hi:Bj s.day.plan.bins/\Bj s.day.plan.passes):
 Calls Tryz.prog 52 #[.pointer (P_ d),.string Df] w (Bb B d s vH (E7 s.day.plan) w):=by
 refine' ZVu;have HF:=aA (ZCJ (.agg #[.int .i64 s.day.plan.bins,.int .i64 s.day.plan.passes,vO]) s.day.plan w ⟨_,rfl,hi.1,hi.2,hO.rd⟩ hT);clear hD hO hT hi;refine' ZWJ;have eu:(Df.toList==[115,101,113,117,101,110,99,101])=false:=ZD
 have fw:(Df.toList==[115,101,97,108])=false:=ZD
 refine' ZGb;exact Ox
theorem Ai2(B d s vH w)(hD:Bv B w d s vH):
 Calls Tryz.prog 52 #[.pointer (P_ d),.string Bg] w (Bb B d s vH (C5 s.day.fwds) w):=by
 refine' U7;have HF:=aA (ZAV vF s.day.fwds w hF.rd);clear hD hF;refine' ZWK;have eu:(Bg.toList==[115,101,113,117,101,110,99,101])=false:=ZD
 have fw:(Bg.toList==[115,101,97,108])=false:=ZD
 have iq:(Bg.toList==[112,108,97,110])=false:=ZD
 have jz:(Bg.toList==[109,111,118,101,100])=false:=ZD
 refine' ZKv;exact Ox
theorem Aw3(B d s vH w)(hD:Bv B w d s vH)(hk:Ee s.day.held=true):
 Calls Tryz.prog 52 #[.pointer (P_ d),.string Fm] w (Bb B d s vH (Cb s.day.held) w):=by
 refine' zJ;obtain⟨_,_,_,_,_,⟨_,_,_,_,_,c5,_,_⟩,_,_,_,_,hH,_⟩:=Ca hD;have HF:=aA (Hw vH s.day.held w hH.rd (by have:=(ZBG hk).1;omega) fun p hp=>by have:=AjN ((ZBG hk).2 p hp);omega);clear hD hH hk;refine' ZWL;have eu:(Fm.toList==[115,101,113,117,101,110,99,101])=false:=ZD
 have fw:(Fm.toList==[115,101,97,108])=false:=ZD
 have iq:(Fm.toList==[112,108,97,110])=false:=ZD
 have jz:(Fm.toList==[109,111,118,101,100])=false:=ZD
 have kB:(Fm.toList==[102,111,114,119,97,114,100,115])=false:=ZD
 have lT:(Fm.toList==[100,105,114,101,99,116])=false:=ZD
 have m6:(Fm.toList==[101,110,100,108,101,115,115])=false:=ZD
 refine' ZWM;exact Ox
theorem AvI(B d s vH wd w)(hD:Bv B w d s vH)(hn:∀x∈([[108,101,116,116,101,114,115],[115,111,114,116],[115,101,113,117,101,110,99,101],[115,101,97,108],[112,108,97,110],[109,111,118,101,100],[102,111,114,119,97,114,100,115],[100,105,114,101,99,116],[101,110,100,108,101,115,115],[104,101,108,100],[100,97,121],[116,114,97,121,115],[110,101,116]]:List (List UInt8)),(wd.toList==x)=false):
 Calls Tryz.prog 52 #[.pointer (P_ d),.string wd] w (Bb B d s vH Hg w):=by refine' zJ;have ci:(wd.toList==[108,101,116,116,101,114,115])=false:=hn _ ZF;have dh:(wd.toList==[115,111,114,116])=false:=hn _ ZF;have eu:(wd.toList==[115,101,113,117,101,110,99,101])=false:=hn _ ZF;have fw:(wd.toList==[115,101,97,108])=false:=hn _ ZF;have iq:(wd.toList==[112,108,97,110])=false:=hn _ ZF;have jz:(wd.toList==[109,111,118,101,100])=false:=hn _ ZF;have kB:(wd.toList==[102,111,114,119,97,114,100,115])=false:=hn _ ZF;have lT:(wd.toList==[100,105,114,101,99,116])=false:=hn _ ZF;have m6:(wd.toList==[101,110,100,108,101,115,115])=false:=hn _ ZF;have pG:(wd.toList==[104,101,108,100])=false:=hn _ ZF;have lU:(wd.toList==[100,97,121])=false:=hn _ ZF;have oJ:(wd.toList==[116,114,97,121,115])=false:=hn _ ZF;have sS:(wd.toList==[110,101,116])=false:=hn _ ZF;clear hn hD;refine' ZF0;exact UT
theorem AzA(B d s vH wd f w)(hD:Bv B w d s vH)(hn:∀x∈([[112,97,115,115],[99,111,117,110,116],[114,97,110,107],[108,111,97,100,115],[115,116,97,121],[114,101,115,111,108,118,101],[104,111,108,100],[115,105,122,101],[102,97,116,101],[102,97,117,108,116,115],[99,111,100,101],[98,97,114,115],[114,101,97,100]]:List (List UInt8)),(wd.toList==x)=false):
 Calls Tryz.prog 58 #[.pointer (P_ d),.string wd,.string f] w (Bb B d s vH Hg w):=by refine' zJ;have ci:(wd.toList==[112,97,115,115])=false:=hn _ ZF;have dh:(wd.toList==[99,111,117,110,116])=false:=hn _ ZF;have eu:(wd.toList==[114,97,110,107])=false:=hn _ ZF;have fw:(wd.toList==[108,111,97,100,115])=false:=hn _ ZF;have iq:(wd.toList==[115,116,97,121])=false:=hn _ ZF;have jz:(wd.toList==[114,101,115,111,108,118,101])=false:=hn _ ZF;have kB:(wd.toList==[104,111,108,100])=false:=hn _ ZF;have lT:(wd.toList==[115,105,122,101])=false:=hn _ ZF;have m6:(wd.toList==[102,97,116,101])=false:=hn _ ZF;have pG:(wd.toList==[102,97,117,108,116,115])=false:=hn _ ZF;have lU:(wd.toList==[99,111,100,101])=false:=hn _ ZF;have oJ:(wd.toList==[98,97,114,115])=false:=hn _ ZF;have sS:(wd.toList==[114,101,97,100])=false:=hn _ ZF;clear hn hD;refine' YV;exact UT
theorem AwS(B d s vH wd f g w)(hD:Bv B w d s vH)(hn:∀x∈([[115,119,97,112],[102,111,114,119,97,114,100],[112,97,116,104]]:List (List UInt8)),(wd.toList==x)=false):
 Calls Tryz.prog 59 #[.pointer (P_ d),.string wd,.string f,.string g] w (Bb B d s vH Hg w):=by refine' zJ;have ci:(wd.toList==[115,119,97,112])=false:=hn _ ZF;have dh:(wd.toList==[102,111,114,119,97,114,100])=false:=hn _ ZF;have eu:(wd.toList==[112,97,116,104])=false:=hn _ ZF;clear hn hD;refine' ZGd;exact UT
theorem ApZ(B d s' vH f a w)(HC:Calls Tryz.prog 146 #[.pointer (P_ d),.string f] w (Bb B d s' vH a w)):
 Calls Tryz.prog 58 #[.pointer (P_ d),.string Cc,.string f] w (Bb B d s' vH a w):=by
 refine' eK;have ci:(Cc.toList==[112,97,115,115])=false:=ZD
 have dh:(Cc.toList==[99,111,117,110,116])=false:=ZD
 have eu:(Cc.toList==[114,97,110,107])=false:=ZD
 have fw:(Cc.toList==[108,111,97,100,115])=false:=ZD
 have iq:(Cc.toList==[115,116,97,121])=false:=ZD
 refine' ZWN;refine' YV;exact Y1
theorem Ax2(B d s' vH f a w)(HC:Calls Tryz.prog 149 #[.pointer (P_ d),.string f] w (Bb B d s' vH a w)):
 Calls Tryz.prog 58 #[.pointer (P_ d),.string Dl,.string f] w (Bb B d s' vH a w):=by
 refine' eK;have ci:(Dl.toList==[112,97,115,115])=false:=ZD
 have dh:(Dl.toList==[99,111,117,110,116])=false:=ZD
 have eu:(Dl.toList==[114,97,110,107])=false:=ZD
 have fw:(Dl.toList==[108,111,97,100,115])=false:=ZD
 have iq:(Dl.toList==[115,116,97,121])=false:=ZD
 have jz:(Dl.toList==[114,101,115,111,108,118,101])=false:=ZD
 have kB:(Dl.toList==[104,111,108,100])=false:=ZD
 have lT:(Dl.toList==[115,105,122,101])=false:=ZD
 refine' ZWO;refine' YV;exact Y1
theorem AsE(B d s' vH f a w)(hz:f.size<=maxLen)(HC:Calls Tryz.prog 143 #[.pointer (P_ d),.int .i64 (Am f)] w (Bb B d s' vH a w)):
 Calls Tryz.prog 58 #[.pointer (P_ d),.string Ds,.string f] w (Bb B d s' vH a w):=by
 refine' ZWP;have ci:(Ds.toList==[112,97,115,115])=false:=ZD
 have dh:(Ds.toList==[99,111,117,110,116])=false:=ZD
 have eu:(Ds.toList==[114,97,110,107])=false:=ZD
 refine' ZWQ;refine' YV;refine' ZGh;exact Y1
theorem Av7(B d s' vH f a w)(hz:f.size<=maxLen)(HC:Calls Tryz.prog 148 #[.pointer (P_ d),.int .i64 (Am f)] w (Bb B d s' vH a w)):
 Calls Tryz.prog 58 #[.pointer (P_ d),.string Dk,.string f] w (Bb B d s' vH a w):=by
 refine' ZWP;have ci:(Dk.toList==[112,97,115,115])=false:=ZD
 have dh:(Dk.toList==[99,111,117,110,116])=false:=ZD
 have eu:(Dk.toList==[114,97,110,107])=false:=ZD
 have fw:(Dk.toList==[108,111,97,100,115])=false:=ZD
 have iq:(Dk.toList==[115,116,97,121])=false:=ZD
 have jz:(Dk.toList==[114,101,115,111,108,118,101])=false:=ZD
 have kB:(Dk.toList==[104,111,108,100])=false:=ZD
 refine' ZKw;refine' YV;refine' ZGh;exact Y1
theorem ZB5{α β:Type}[El α][El β]{T1 T2 B:Nat}{w w1 vo vH}{xs:List α}{ys:List β}(ho:own T1 w.heap.size w1 vo xs)(hh:own T2 B w vH ys):apart vo vH:=by
 unfold apart;cases hv:vo.ownBlock with
 |none=>exact .inl rfl
 |some k=> refine' YQ;have h1:=(ho.blk k hv).1;have h2:=(hh.blk k e.symm).2;omega
theorem AlO(s ok xs):(setL s ok xs).1=if ok then{s with letters:=xs}else s:=by unfold setL;exact gU
theorem AlJ(s ok xs):(setL s ok xs).2=if ok then Co xs else⟨#[]⟩:=by unfold setL;exact gU
theorem Ip(s ok fs):(setF s ok fs).1=if ok then{s with day:={s.day with fwds:=fs}}else s:=by unfold setF;exact gU
theorem Ij(s ok fs):(setF s ok fs).2=if ok then C5 fs else⟨#[]⟩:=by unfold setF;exact gU
theorem AiQ(B d s vH t w)(hD:Bv B w d s vH)(hB:B<=w.heap.size)(ht:t.size<=1000000):
 Calls Tryz.prog 55 #[.pointer (P_ d),.string t] w (Bb B d (if Ge t then{s with day:={s.day with plan:=Ey t}}else s) vH (if Ge t then kR else⟨#[]⟩) w):=by
 refine' zJ;have HP:=aA (AgA t w ht);have rQ:=hD.lt;clear hD ht;generalize Ey t=p at *;obtain⟨pb,pp,po⟩:=p;simp only at HP;cases ag:Ge t
 all_goals
  rw[ag]at HP;clear ag;go_enter func55,ntmps55
  refine' ZC;refine HP.out.mono ?_;rintro e w1 ⟨vo,rfl,o1,b1⟩;have qV:=ZB5 o1 HD.out.held;refine' PC;obtain⟨w2,sq⟩:∃u,u=w1.alloc (aB #[.int .i64 pb,.int .i64 pp,.slice A n c] 30):=⟨_,rfl⟩;have dq:w2.heap[w1.heap.size]? =some (.cells #[.int .i64 pb,.int .i64 pp,.slice A n c] 30 (0,0)):=ZVm
  have qF:B_ w w2:=ZVn
  have kn:own 9 w.heap.size w2 (.slice A n c) po:=by rw[sq];exact o1.alloc _
  have ie:=b1.size;obtain⟨q0,q1,q2,_,_,_⟩:=B7 dq;have kC:=aA (HD.out.below qF);refine' ZVo;have im:=aA (kn.base_ hB);have ig:=aA qF;have fe:=aA qV;clear o1 b1 dq qF kn hf qV;subst sq
  refine' ZI
 .exact Bb.of_read HD.out rfl ig.out
 .exact⟨rfl,vH,((kC.out.setBins pb).setPasses pp).setOrder (D3 (D3 im.out kC.out.obj ZE 1) (kC.out.setBins pb).obj ZE 2) fe.out,(((Kd.of_below ig.out).set 1 _).set 2 _).set 3 _,Nu.refl _ _⟩
theorem AaW(B d s vH t w)(hD:Bv B w d s vH)(hB:B<=w.heap.size)(ht:t.size<=maxLen):
 Calls Tryz.prog 56 #[.pointer (P_ d),.string t] w (Bb B d (if Tf t then{s with day:={s.day with fwds:=kS t}}else s) vH (if Tf t then kR else⟨#[]⟩) w):=by
 refine' zJ;clear hD;have HP:=aA (ZCN t w ht);generalize kS t=fs at *;cases ag:Tf t
 all_goals
  rw[ag]at HP;clear ag;go_enter func56,ntmps56
  refine' ZC;refine HP.out.mono ?_;refine' Ye;have qG:=aA (HD.out.below b1);refine' PC;have mH:=aA (o1.base_ hB);refine' eD;obtain⟨_,_,_,_,_,⟨_,_,_,_,c4,_,_,_⟩,hf,_⟩:=Ca qG.out;have f4:=hf 4;clear o1 b1 hf
  refine' ZI
 .exact Bb.of_read HD.out rfl it.out
 .exact⟨rfl,vH,qG.out.setFwds mH.out,(Kd.of_below it.out).set 4 _,Nu.refl _ _⟩
theorem AmI(B d s vH t w)(hD:Bv B w d s vH)(hB:B<=w.heap.size)(ht:t.size<=maxLen):
 Calls Tryz.prog 57 #[.pointer (P_ d),.string t] w (Bb B d (if Kx t then{s with net:=pf t}else s) vH (if Kx t then kR else⟨#[]⟩) w):=by
 refine' zJ;clear hD;have HP:=aA (AaC t w ht);generalize pf t=net at *;cases ag:Kx t
 all_goals
  rw[ag]at HP;clear ag;go_enter func57,ntmps57
  refine' ZC;refine HP.out.mono ?_;rintro e w1 ⟨v1,rfl,⟨os1,o1⟩,b1⟩;have qG:=aA (HD.out.below b1);refine' PC;have mH:=aA o1;refine' eD;obtain⟨_,_,_,_,_,⟨_,_,_,_,_,_,_,c7⟩,hf,_⟩:=Ca qG.out;have f7:=hf 7;clear o1 b1 hf
  refine' ZI
 .exact Bb.of_read HD.out rfl it.out
 .exact⟨rfl,vH,qG.out.setNet (mH.out.base_ hB),(Kd.of_below it.out).set 7 _,Nu.refl _ _⟩
theorem AiX(B d s vH n w)(hD:Bv B w d s vH):
 Calls Tryz.prog 148 #[.pointer (P_ d),.int .i64 n] w (Bb B d (if Fp n then{s with day:={s.day with size:=n}}else s) vH (if Fp n then kR else⟨#[]⟩) w):=by
 refine' zJ;obtain⟨_,_,_,_,_,⟨_,_,_,_,_,_,c6,_⟩,i7,_⟩:=Ca hD;have f6:=i7 6;have HSV:=aA (Me n w);clear i7 hD;cases ag:Fp n
 all_goals
  rw[ag]at HSV;clear ag;go_enter func148,ntmps148
  refine' ZC;refine HSV.out.mono ?_;refine' Tn
 .exact Bb.of_read HD.out rfl (aF _ _)
 .exact⟨rfl,vH,HD.out.setSize n,(Kd.of_below (aF _ _)).set 6 _,Nu.refl _ _⟩
theorem AsM(B d s vH c w)(hD:Bv B w d s vH)(hB:B<=w.heap.size)(hc:c.size<=maxLen)(hk:Ee s.day.held=true):
 Calls Tryz.prog 147 #[.pointer (P_ d),.string c] w (Bb B d (if Ap c&&decide (s.day.held.length<30)then{s with day:={s.day with held:=s.day.held++[c]}}else s) vH (if Ap c&&decide (s.day.held.length<30)then Cb (s.day.held++[c])else⟨#[]⟩) w):=by
 cases gp:Ap c
 .have js:=aA (Cw c w hc)
  refine' zJ;rw[gp]at js;clear hD hc gp hk;exact ZVp
 .by_cases hl:s.day.held.length<30
  .have h:=AuK B d s vH c w hD hB gp hl fun x hx=>by have:=AjN ((ZBG hk).2 x hx);omega
   rw[aL hl];exact h
  .have js:=aA (Cw c w hc)
   refine' zJ;rw[gp]at js;rw[aP hl];obtain⟨AH,nH,cH,rfl,hn, -, -, -⟩:=hD.held.rd;obtain⟨_,_,_,_,_,⟨_,_,_,_,_,c5,_,_⟩,_,_⟩:=Ca hD;have hni':(30:Int)<=(nH:Int):=ZA
   clear hD hc gp hk hn hl;exact ZVp
theorem ZAX(B d s vH v fs ok w)(hD:Bv B w d s vH)(ho:own 128 B w v fs):
 Calls Tryz.prog 144 #[.pointer (P_ d),v,.bool ok] w (Bb B d (if ok then{s with day:={s.day with fwds:=fs}}else s) vH (if ok then C5 fs else⟨#[]⟩) w):=by
 refine' zJ;refine' zY;refine' ZJU;obtain⟨_,_,_,_,_,⟨_,_,_,_,c4,_,_,_⟩,hf,_⟩:=Ca hD;have f4:=hf 4;clear hD ho hf;cases ok
 .go_enter func144,ntmps144
  exact UT
 .have HF:=aA (ZAV _ fs _ (D3 (u:=.slice A n c) HO.out HD.out.obj ZE 4).rd)
  go_enter func144,ntmps144
  refine' X5;have bv:=aA b1;clear b1
  refine' ZI;exact Bb.post ⟨rfl,vH,HD.out.setFwds HO.out,(Kd.of_below (aF _ _)).set 4 _,Nu.refl _ _⟩ bv.out
theorem Ar5(B d s' vH am rest a w)(hz:am.size<=maxLen)(ct:E5 32 am=some (Df,rest))
 (HC:∀W,B_ w W->Calls Tryz.prog 55 #[.pointer (P_ d),.string rest] W (Bb B d s' vH a W)):
 Calls Tryz.prog 16 #[.pointer (P_ d),.string am] w (Bb B d s' vH a w):=by
 have HK:Hid (C_ 51 #[.string am,.string ⟨#[32]⟩] w (.tuple #[.string Df,.string rest,.bool true])):=(Er am 32 w hz).mono fun e w' h=>P9
 refine' ZGa;refine' ZKi;refine' ZGb;exact ZGc
theorem AgK(B d s' vH am rest a w)(hz:am.size<=maxLen)(ct:E5 32 am=some (Bg,rest))
 (HC:∀W,B_ w W->Calls Tryz.prog 56 #[.pointer (P_ d),.string rest] W (Bb B d s' vH a W)):
 Calls Tryz.prog 16 #[.pointer (P_ d),.string am] w (Bb B d s' vH a w):=by
 have HK:Hid (C_ 51 #[.string am,.string ⟨#[32]⟩] w (.tuple #[.string Bg,.string rest,.bool true])):=(Er am 32 w hz).mono fun e w' h=>P9
 refine' ZGa;refine' ZKj;exact ZGc
theorem AiE(B d s vH am rest w)(hD:Bv B w d s vH)(hB:B<=w.heap.size)(hT:I4 w)(hz:am.size<=maxLen)(hr:rest.size<=maxLen)(ct:E5 32 am=some (Cf,rest)):
 Calls Tryz.prog 16 #[.pointer (P_ d),.string am] w (Bb B d (if Mv rest then{s with letters:=t_ rest}else s) vH (if Mv rest then Co (t_ rest)else⟨#[]⟩) w):=by
 have HK:Hid (C_ 51 #[.string am,.string ⟨#[32]⟩] w (.tuple #[.string Cf,.string rest,.bool true])):=(Er am 32 w hz).mono fun e w' h=>P9
 have HP:Hid (∀W:World,B_ w W->Calls Tryz.prog 54 #[.string rest] W fun e w'=>∃v',e=.returned (.tuple #[v',.bool (Mv rest)])/\own 119 W.heap.size w' v' (t_ rest)/\B_ W w'):=fun W hW=>Ae5 rest W hr (hT.on hW)
 have HC:Hid (∀(v:Value) (W:World),B_ w W->own 119 B W v (t_ rest)->Calls Tryz.prog 53 #[.pointer (P_ d),v,.bool (Mv rest)] W (Bb B d (if Mv rest then{s with letters:=t_ rest}else s) vH (if Mv rest then Co (t_ rest)else⟨#[]⟩) W)):=fun v W hW ho=>Bd9 B d s vH v _ _ W (hD.below hW) ho (hT.on hW)
 clear hD hT ct hz hr;generalize(if Mv rest then({s with letters:=t_ rest}:Dsk)else s)=s' at *;generalize(if Mv rest then Co (t_ rest)else(⟨#[]⟩:Y_))=a at *;generalize Mv rest=ok at *;generalize t_ rest=L at *;refine' ZKk;refine' ZVq;refine' eD;clear b1
 refine' ZC;refine(HP.out _ it.out).mono ?_;refine' Y4;have kV:=aA (Aa it.out b2);have lJ:=aA (HC.out v2 w2 kV.out (o2.base_ (aI hB it.out.size)));obtain⟨A,n,c,rfl, -, -, -, -⟩:=o2.rd;clear o2 b2
 refine' ZC;refine lJ.out.mono ?_;rintro e w3 h3;have H3:=aA h3;obtain⟨rfl,_⟩:=h3
 refine' ZI;exact Bb.pre kV.out H3.out
def jI(f:Y_)(xs:List Ltr):List Ltr:=xs.filter fun x=>pre x.code f
def jJ(f:Y_)(xs:List Ltr):List Ltr:=xs.filter fun x=> !pre x.code f
theorem Aq7{f}{xs:List Ltr}{k}(h:k<xs.length)(hf:pre xs[k].code f=true):jI f (xs.take (k+1))=jI f (xs.take k)++[xs[k]]:=by unfold jI;exact zn
theorem Ak6{f}{xs:List Ltr}{k}(h:k<xs.length)(hf:pre xs[k].code f=false):jI f (xs.take (k+1))=jI f (xs.take k):=by unfold jI;exact zn
theorem ApN{f}{xs:List Ltr}{k}(h:k<xs.length)(hf:pre xs[k].code f=true):jJ f (xs.take (k+1))=jJ f (xs.take k):=by unfold jJ;exact zn
theorem AjH{f}{xs:List Ltr}{k}(h:k<xs.length)(hf:pre xs[k].code f=false):jJ f (xs.take (k+1))=jJ f (xs.take k)++[xs[k]]:=by unfold jJ;exact zn
theorem ApG(f xs):(jI f xs).length<=xs.length:=bL _ _
theorem An6(f xs):(jJ f xs).length<=xs.length:=bL _ _
def Re(f:Y_)(xs:List Ltr):Bool:=z_ xs&&Jr f
def Kw(f:Y_)(xs:List Ltr):List Ltr:=if Re f xs then jI f xs else []
def Ts(f:Y_)(xs:List Ltr):List Ltr:=if Re f xs then jJ f xs else []
theorem Ae4(vb xs f w)(hb:R_ w vb xs)(i7:f.size<=maxLen):
 Calls Tryz.prog 225 #[vb,.string f] w fun e w'=>∃vA vB,e=.returned (.tuple #[vA,vB,.bool (Re f xs)])/\own 119 w.heap.size w' vA (Kw f xs)/\own 119 w.heap.size w' vB (Ts f xs)/\apart vA vB/\B_ w w':=by
 refine' Uz;refine' YA;refine' ZVY;go_enter func225,ntmps225
 refine' ZID;refine' zh;cases h1:z_ xs
 .have HF:Hid (Re f xs=false):=z7
  clear h1
  exact Rd
 have kw:=Cq h1;refine' zp;refine(AiY f _ i7).mono ?_;refine' zq;clear b1;cases h2:Jr f
 .have HF:Hid (Re f xs=false):=Ww
  clear h2
  exact Rd
 refine' ZVZ;refine' ZC;go_loopw[7,8,21] (fun a b i wr=>∃k:Nat,k<=xs.length/\i=.int .i64 k/\B_ w wr/\own 119 w.heap.size wr a (jI f (xs.take k))/\own 119 w.heap.size wr b (jJ f (xs.take k))/\Hid (apart a b)) (fun _ _ i _=>xs.length - (intOf i).toNat)
 case atStart=>exact ZOH
 case round=>
  refine' Uy;clear l0 l1;by_cases ab:k<xs.length
  .refine' ZVa;refine' ZOJ;refine(ZCY x.code f _ fj i7).mono ?_;cases hf:pre x.code f
   rotate_left
   .refine' fO;refine' Ux;clear hf
    go_wp2_with (at_builtin;refine An (α:=Ltr) rfl (.tmp 29) (.tmp 31) 27 rfl w.heap.size 119 i1 _ 24 aV ji dr du dw rfl ZE (.slice AA sa.length cA) sa x rfl (jm.out.alloc _) ⟨wl.heap.size,0,none⟩ 1 (Ltr.cells x) rfl ⟨⟨fq,fj⟩,rfl⟩ (Bz wl _ (Ltr.cells x)) ZN ZA ZH ?_;refine' zH)
    exact ZIE
   .refine' fO;refine' ZEz;clear hf
    go_wp2_with (at_builtin;refine An (α:=Ltr) rfl (.tmp 33) (.tmp 35) 27 rfl w.heap.size 119 i1 _ 24 aV ji dr du dw rfl ZE (.slice AB bs.length cB) bs x rfl (bu.out.alloc _) ⟨wl.heap.size,0,none⟩ 1 (Ltr.cells x) rfl ⟨⟨fq,fj⟩,rfl⟩ (Bz wl _ (Ltr.cells x)) ZN ZA ZH ?_;refine' zH)
    exact R7
  exact R6
theorem Ac5(vb xs f w)(hb:R_ w vb xs)(i7:f.size<=maxLen):
 C_ 141 #[vb,.string f] w (.int .i64 (Fw xs f)):=by
 have HS:=aA (Ae4 vb xs f w hb i7);refine' ZVb;cases ag:Re f xs
 all_goals
  rw[ag]at HS;clear ag;go_enter func141,ntmps141
  refine' ZVc
 .exact⟨rfl,B1.out⟩
 .exact⟨Bo (by rw[HN.out]),B1.out⟩
theorem AeK(v)(fs:List Fwd)(oU w)(hv:R_ w v fs)(hl:fs.length<=1000):
 Calls Tryz.prog 229 #[v,.int .i64 oU] w fun e w'=>∃v',e=.returned v'/\own 128 w.heap.size w' v' (wo fs oU)/\B_ w w':=by
 refine' zl;refine' zm;refine' Tr;have hnw:aD.wrap ((fs.length:Int)+1)=(fs.length:Int)+1:=zA
 have fo:∀W:World,Sem.run Tryz.prog (Instr.makeSlice 31 (.int .i64 0) (.int .i64 ((fs.length:Int)+1))) W=.ok (.slice (P_ W.heap.size) 0 (fs.length+1)) (W.alloc (aB (bF #[.string ⟨#[]⟩,.string ⟨#[]⟩] ((fs.length+1)*2)) 128)):=fun W=>by have h:=run_make (P:=Tryz.prog) (w:=W) 31 128 i1 _ dY ji dr .i64 .i64 0 ((fs.length+1:Nat):Int) ZA ZA (by rw[dw];omega) ZA;rw[du]at h;simp only[bE]at h;rw[show((fs.length+1:Nat):Int)=(fs.length:Int)+1 by omega]at h;exact h
 have me:Hid ((bF #[aG ⟨#[]⟩,aG ⟨#[]⟩] ((fs.length+1)*2)).size=(fs.length+1)*2):=size_madeCells _ _;go_enter func229,ntmps229
 refine' ZC;have qd:own (α:=Fwd) 128 w.heap.size (w.alloc (aB (bF #[aG ⟨#[]⟩,aG ⟨#[]⟩] ((fs.length+1)*2)) 128)) (.slice (P_ w.heap.size) 0 (fs.length+1)) (wo (fs.take 0) oU):=own.madeCap w _ (aC _) _ (fs.length+1) ZN me.out;have l0:B_ w (w.alloc (aB (bF #[aG ⟨#[]⟩,aG ⟨#[]⟩] ((fs.length+1)*2)) 128)):=(aF _ _).alloc (aC _) _;have sK:=aA qd;clear fo qd;generalize w.alloc (aB (bF #[aG ⟨#[]⟩,aG ⟨#[]⟩] ((fs.length+1)*2)) 128)=wz at *
 go_loopw[5,14] (fun a i wr=>∃k:Nat,k<=fs.length/\i=.int .i64 k/\B_ w wr/\own 128 w.heap.size wr a (wo (fs.take k) oU)) (fun _ i _=>fs.length - (intOf i).toNat)
 case atStart=>exact⟨0,aN _,rfl,l0,sK.out⟩
 case round=>
  obtain⟨k,hk,rfl,lr,hA⟩:=hrel;refine' zd;clear l0 sK;by_cases ab:k<fs.length
  .obtain⟨b,o,rfl,hb,⟨qD,QT⟩,c1,c2⟩:=HR.out.fwdU k ab
   have HT:=aA (Z7 ab oU);have dc:=aA (aI (I_ (fs.take k) oU) (zF:(fs.take k).length<=fs.length));refine' YR;generalize wo (fs.take k) oU=sa at *;refine' ZVd;refine' ZVe;have y1:=Af de 1 (.string x.dst) rfl;have ll:=Aa lr (Aw de).1;have BL:=aA (Aw de).1;have jm:=aA (HA.out.below BL.out);refine' ZIF;by_cases he:(k:Int)=oU
   .have HS:Hid (wo (fs.take (k+1)) oU=sa):=ZVf
    have XY:((k:Int) != oU)=false:=by{simp[he]};have kz:=aA de;clear de HT he
    refine' ZC;rw[<-kz.out]
    go_roundw
    case rel=>exact⟨k+1,ZA,ZJ,ll,by rw[HS.out];exact jm.out⟩
    case measure=>exact ZK
   .have HS:Hid (wo (fs.take (k+1)) oU=sa++[x]):=ZVg
    have XY:((k:Int) != oU)=true:=by{simp[he]};have kz:=aA de;clear HT;subst de
    go_wp2_with (at_builtin;refine An (α:=Fwd) rfl (.tmp 22) (.tmp 24) 31 rfl w.heap.size 128 i1 _ 32 dY ji dr du dw rfl ZE (.slice AA sa.length cA) sa x rfl (jm.out.alloc _) ⟨w3.heap.size+1,0,none⟩ 1 (Fwd.cells x) rfl ⟨⟨qD,QT⟩,rfl⟩ (by have h:=Bz (w3.alloc (aB #[.string x.src,.string x.dst] 128)) 128 (Fwd.cells x);rw[show(w3.alloc (aB #[.string x.src,.string x.dst] 128)).heap.size=w3.heap.size+1 by simp]at h;exact h) ZN ZA ZH ?_;refine' zH)
    have l5:B_ w w5:=(Ae ll (aB #[aG x.src,aG x.dst] 128)).grown aj ZH fun q hq=>(jm.out.blk q hq).1
    go_roundw
    case rel=>exact⟨k+1,ZA,ZJ,l5,by rw[HS.out];exact cg⟩
    case measure=>exact ZK
  .refine' Uu;rw[HE.out,bA]at hA
   refine' ZI;exact⟨_,rfl,hA,lr⟩
theorem ZD8(v fs c w)(hv:R_ w v fs):
 Calls Tryz.prog 145 #[v,.string c] w fun e w'=>∃v',e=.returned (.tuple #[v',.bool (Jy fs c)])/\own 128 w.heap.size w' v' (N6 fs c)/\B_ w w':=by
 refine' ZVh;have HI:=aA (fun W h=>Mn _ fs c W (HV.out.on h));have HQ:Hid (Jy fs c=(Be fs&&decide (0<=Gg fs c))/\N6 fs c=if Jy fs c then wo fs (Gg fs c)else []):=⟨rfl,rfl⟩;obtain⟨r,hr⟩:∃r,Gg fs c=r:=⟨_,rfl⟩;rw[hr]at HI HQ;clear hr;cases h1:Be fs
 .rw[h1]at HF HQ
  clear h1;go_enter func145,ntmps145
  refine' X5;refine' ZQ;exact⟨_,Bf (by rw[HQ.out.1]<;>rfl),by rw[HQ.out.2,HQ.out.1];exact zj,b1⟩
 .have j7:=(Ch.1 h1).1
  rw[h1]at HF HQ;clear h1;by_cases h2:0<=r
  .have HW:=aA (fun W h=>AeK _ fs r W (HV.out.on h) ZA)
   have HO:Hid (Jy fs c=true):=by{show _=_;rw[HQ.out.1,aL h2];rfl};have yY:¬r<0:=ZA
   refine' ZVi;refine' ZC;refine(HW.out _ l2).mono ?_;refine' fM;refine' YG;have O3:=aA (o3.base_ l2.size);obtain⟨A3,n3,c3',rfl, -, -, -, -⟩:=o3.rd;clear o3 b1 b2 b3 l2
   refine' ZQ;exact⟨_,Bf Tp,by rw[HQ.out.2,HO.out];exact O3.out,l3⟩
  .have HO:Hid (Jy fs c=false):=by show _=_;rw[HQ.out.1,aP h2];rfl
   have yY:r<0:=ZA
   refine' ZVi;refine' ZQ;exact⟨_,Bf Tp,by rw[HQ.out.2,HO.out];exact zj,l2⟩
theorem AdY(v fs a b w)(hv:R_ w v fs)(ha:a.size<=maxLen)(hb:b.size<=maxLen):
 Calls Tryz.prog 155 #[v,.string a,.string b] w fun e w'=>∃v',e=.returned (.tuple #[v',.bool (Ig fs a b)])/\own 128 w.heap.size w' v' (My fs a b)/\B_ w w':=by
 refine' ZVh;have HI:=aA (fun W h=>Mn _ fs a W (HV.out.on h));have HQ:Hid (Ig fs a b=(Be fs&&(Be (Lh fs a b)&&(Bc (Lh fs a b) a).2.2))/\(Ig fs a b=false->My fs a b=[])/\(Ig fs a b=true->My fs a b=Lh fs a b)):=⟨rfl,fun h=>by unfold My;rw[h];rfl,fun h=>by unfold My;rw[aQ h]⟩;refine' Tr;cases h1:Be fs
 .have HO:Hid (Ig fs a b=false):=by show _=_;rw[HQ.out.1,h1];rfl
  rw[h1]at HF;clear h1;go_enter func155,ntmps155
  refine' X5;refine' ZQ;exact⟨_,Bf Tp,ZKh,b1⟩
 .have j7:=(Ch.1 h1).1
  refine' fE;rw[h1]at HF;clear h1;have HW:=aA (fun W h=>AeK _ fs (Gg fs a) W (HV.out.on h) ZA);have NO:Hid (Lh fs a b=wo fs (Gg fs a)++[⟨a,b⟩]):=rfl;have de:(wo fs (Gg fs a)).length<=30:=aI (I_ _ _) j7;generalize wo fs (Gg fs a)=wf at *;generalize Gg fs a=r at *;have pE:Hid ((Lh fs a b).length<=31):=by show _<=_;rw[NO.out,aT,cE];omega
  generalize Lh fs a b=ad at *;have ta:Hid (∀v W,R_ W v ad->C_ 204 #[v] W (.bool (Be ad))):=fun v W h=>Dj v ad W h
  have qN:Hid (∀v W,R_ W v ad->C_ 205 #[v,.string a] W (.tuple #[.string (Bc ad a).1,.int .i64 ((Bc ad a).2.1:Nat),.bool (Bc ad a).2.2])):=fun v W h=>Hj v ad a W h ha (by have:=pE.out;omega)
  clear j7;go_enter func155,ntmps155
  refine' X5;have B1:=aA b1;clear b1
  go_wp2_with (first|(go_at_call 228;(with_reducible refine(HI.out _ B1.out).mono ?_);refine' zK;have l2:=aA (Aa B1.out b2);clear b2)|(go_at_call 229;(with_reducible refine(HW.out _ l2.out).mono ?_);refine' fM;have l3:=aA (Aa l2.out b3);have O3:=aA (o3.base_ l2.out.size);obtain⟨A3,n3,c3',rfl,qI, -, -, -⟩:=o3.rd;subst qI;have mQ:=l3.out.size;clear o3 b3)|(at_builtin;refine An (α:=Fwd) rfl (.tmp 19) (.tmp 23) 31 rfl w.heap.size 128 i1 _ 32 dY ji dr du dw rfl ZE (.slice A3 wf.length c3') wf ⟨a,b⟩ rfl (O3.out.alloc _) ⟨w3.heap.size,0,none⟩ 1 [.string a,.string b] rfl ⟨⟨ha,hb⟩,rfl⟩ (Bz w3 _ [.string a,.string b]) ZN ZA ZH ?_;refine' zH;have l5:B_ w w5:=(Ae l3.out (aB #[aG a,aG b] 128)).grown aj ZH fun q hq=>(O3.out.blk q hq).1;have L5:=aA l5;have O5:Hid (own 128 w.heap.size w5 (.slice (P_ g) (wf.length+1) cap) ad):=by{show own _ _ _ _ _;rw[NO.out];exact cg};clear l5 cg aj cy jn))
  refine(ta.out _ _ O5.out.rd).mono ?_;rintro e w6 ⟨rfl,b6⟩;have l6:=aA (Aa L5.out b6);have O6:=aA (O5.out.below b6);clear b6;cases h2:Be ad
  .have HO:Hid (Ig fs a b=false):=by show _=_;rw[HQ.out.1,h2];simp
   clear h2
   refine' ZQ;exact⟨_,Bf Tp,ZKh,l6.out⟩
  .refine' zN;refine' ZC;refine(qN.out _ _ O6.out.rd).mono ?_;rintro e w7 ⟨rfl,b7⟩;have l7:=aA (Aa l6.out b7);have O7:=aA (O6.out.below b7);clear b7;cases h3:(Bc ad a).2.2
   .have HO:Hid (Ig fs a b=false):=by{show _=_;rw[HQ.out.1,h3];simp};clear h3
    refine' ZQ;exact⟨_,Bf Tp,ZKh,l7.out⟩
   .have HO:Hid (Ig fs a b=true):=by{show _=_;rw[HQ.out.1,H1.out,H2.out,h3];rfl};clear h3
    refine' ZQ;exact⟨_,Bf Tp,by rw[HQ.out.2.2 HO.out];exact O7.out,l7.out⟩
theorem AsL(xs f):Bj (Fw xs f):=by
 unfold Fw
 split
 .rename_i h
  refine' ZVr;exact ZS
 .exact ZS
theorem Av9(p c):Bj (Hl p c):=by
 unfold Hl
 split
 .rename_i h
  have:=(De.1 h).2.1.2;unfold y6
  split<;>(exact ZS)
 .exact ZS
theorem AcO(fs):∀(f:Nat) (c:Y_) (n:Nat),(Gb fs f c n).2.1<=n+f
 |0,c,n=>by unfold Gb;simp
 |f+1,c,n=>by
  unfold Gb
  split
  .simp
  .have:=AcO fs f (Vt fs c) (n+1)
   omega
theorem ZEE{fs c}(h:Be fs=true):(rSv fs c).2.1<=31:=by
 have h1:=(Ch.1 h).1;unfold rSv
 split
 .have:=AcO fs (fs.length+1) c 0
  unfold Bc;omega
 .simp
theorem Ah7{fs}(hf:∀x∈fs,x.dst.size<=7):∀(f:Nat) (c:Y_) (n:Nat),c.size<=7->(Gb fs f c n).1.size<=7
 |0,c,n,_=>aN _
 |f+1,c,n,hc=>by
  unfold Gb
  split
  .exact hc
  .refine Ah7 hf f (Vt fs c) (n+1) ?_
   exact ZPF
theorem AkX{fs c}(h:Be fs=true)(hc:Ap c=true):(Bc fs c).1.size<=7:=by refine Ah7 (fun x hx=>?_) _ _ _ (by rw[(Cp hc).1];exact iE);refine' eY;rw[(Cp ((Ch.1 h).2 k hk).2.1).1];exact iE
theorem ZDg{fs c}(h:Be fs=true):(rSv fs c).1.size<=7:=by
 unfold rSv
 split
 .rename_i hc
  rw[aO]at hc;exact AkX h hc.1
 .exact zC
theorem ZBw(n):(Lv n).size<=100:=by
 unfold Lv
 split<;>decide
theorem AbA{d c}(h:Be d.fwds=true):(Nh d c).1.size<=7/\(Nh d c).2.size<=100:=by
 unfold Nh
 split
 .rename_i hc
  rw[aO]at hc;have h1:=AkX h hc.2
  split
  .split
   .exact⟨h1,ZBw 2⟩
   .split
    .exact⟨h1,ZBw 3⟩
    .exact⟨h1,ZBw 4⟩
  .exact⟨by rw[(Cp hc.2).1];exact iE,ZBw 1⟩
 .exact⟨aN _,ZE⟩
theorem AtV(B d s vH f w)(hD:Bv B w d s vH)(hT:I4 w)(hz:f.size<=maxLen):
 Calls Tryz.prog 58 #[.pointer (P_ d),.string Eo,.string f] w (Bb B d s vH (G1 (Fw s.letters f)) w):=by
 refine' ZKl;have HC:=aA (Ac5 vL s.letters f w hL.rd hz);have HN:=aA (fun W h=>Jg (Fw s.letters f) W (AsL _ _) (hT.on (w':=W) h));clear hD hT hz hL;generalize Fw s.letters f=r at *;have ci:(Eo.toList==[112,97,115,115])=false:=ZD
 refine' ZVs;refine' YV;go_wp2_with (first|(go_at_call 141;refine' ZVt)|(go_at_call 120;refine' ZKm))
 go_ret;exact ZF3
theorem Az9(B d s vH f w)(hD:Bv B w d s vH)(hT:I4 w)(hi:Bj s.day.plan.bins/\Bj s.day.plan.passes):
 Calls Tryz.prog 58 #[.pointer (P_ d),.string Fj,.string f] w (Bb B d s vH (G1 (Hl s.day.plan f)) w):=by
 refine' ZVu;have HC:=aA (AsX (.agg #[.int .i64 s.day.plan.bins,.int .i64 s.day.plan.passes,vO]) s.day.plan f w ⟨_,rfl,hi.1,hi.2,hO.rd⟩);have HN:=aA (fun W h=>Jg (Hl s.day.plan f) W (Av9 _ _) (hT.on (w':=W) h));clear hD hT hi hO;generalize Hl s.day.plan f=r at *;have ci:(Fj.toList==[112,97,115,115])=false:=ZD
 have dh:(Fj.toList==[99,111,117,110,116])=false:=ZD
 have cx:(Fj.toList==[114,97,110,107])=true:=ZD
 generalize Fj=wd at *;refine' YV;go_wp2_with (first|(go_at_call 142;refine' ZVt)|(go_at_call 120;refine' ZKm))
 go_ret;exact ZF3
theorem Ay5(B d s vH f w)(hD:Bv B w d s vH)(hB:B<=w.heap.size):
 Calls Tryz.prog 58 #[.pointer (P_ d),.string C4,.string f] w (Bb B d (if Jy s.day.fwds f then{s with day:={s.day with fwds:=N6 s.day.fwds f}}else s) vH (if Jy s.day.fwds f then C5 (N6 s.day.fwds f)else⟨#[]⟩) w):=by
 refine' U7;have HR:=aA (ZD8 vF s.day.fwds f w hF.rd);have HC:Hid (∀(v:Value) (W:World),B_ w W->own 128 B W v (N6 s.day.fwds f)->Calls Tryz.prog 144 #[.pointer (P_ d),v,.bool (Jy s.day.fwds f)] W (Bb B d (if Jy s.day.fwds f then{s with day:={s.day with fwds:=N6 s.day.fwds f}}else s) vH (if Jy s.day.fwds f then C5 (N6 s.day.fwds f)else⟨#[]⟩) W)):=fun v W hW ho=>ZAX B d s vH v _ _ W (hD.below hW) ho
 clear hD hF;generalize(if Jy s.day.fwds f then({s with day:={s.day with fwds:=N6 s.day.fwds f}}:Dsk)else s)=s' at *;generalize(if Jy s.day.fwds f then C5 (N6 s.day.fwds f)else(⟨#[]⟩:Y_))=a at *;generalize Jy s.day.fwds f=ok at *;generalize N6 s.day.fwds f=L at *;have ci:(C4.toList==[112,97,115,115])=false:=ZD
 have dh:(C4.toList==[99,111,117,110,116])=false:=ZD
 have eu:(C4.toList==[114,97,110,107])=false:=ZD
 have fw:(C4.toList==[108,111,97,100,115])=false:=ZD
 refine' ZKn;refine' YV;go_wp2_with (first|(go_at_call 145;refine' ZVv)|refine' ZVw)
 go_ret;exact Bb.pre B1.out H2.out
theorem AnV(B d s vH f g w)(hD:Bv B w d s vH)(hB:B<=w.heap.size)(hz:f.size<=maxLen/\g.size<=maxLen):
 Calls Tryz.prog 59 #[.pointer (P_ d),.string Bt,.string f,.string g] w (Bb B d (if Ig s.day.fwds f g then{s with day:={s.day with fwds:=My s.day.fwds f g}}else s) vH (if Ig s.day.fwds f g then C5 (My s.day.fwds f g)else⟨#[]⟩) w):=by
 refine' U7;have HR:=aA (AdY vF s.day.fwds f g w hF.rd hz.1 hz.2);have HC:Hid (∀(v:Value) (W:World),B_ w W->own 128 B W v (My s.day.fwds f g)->Calls Tryz.prog 144 #[.pointer (P_ d),v,.bool (Ig s.day.fwds f g)] W (Bb B d (if Ig s.day.fwds f g then{s with day:={s.day with fwds:=My s.day.fwds f g}}else s) vH (if Ig s.day.fwds f g then C5 (My s.day.fwds f g)else⟨#[]⟩) W)):=fun v W hW ho=>ZAX B d s vH v _ _ W (hD.below hW) ho
 clear hD hF hz;generalize(if Ig s.day.fwds f g then({s with day:={s.day with fwds:=My s.day.fwds f g}}:Dsk)else s)=s' at *;generalize(if Ig s.day.fwds f g then C5 (My s.day.fwds f g)else(⟨#[]⟩:Y_))=a at *;generalize Ig s.day.fwds f g=ok at *;generalize My s.day.fwds f g=L at *;have ci:(Bt.toList==[115,119,97,112])=false:=ZD
 refine' ZKo;refine' ZGd;go_wp2_with (first|(go_at_call 155;refine' ZVv)|refine' ZVw)
 go_ret;exact Bb.pre B1.out H2.out
theorem AmX(B d s vH c w)(hD:Bv B w d s vH)(hT:I4 w)(hc:c.size<=maxLen)(hk:Be s.day.fwds=true):
 Calls Tryz.prog 146 #[.pointer (P_ d),.string c] w (Bb B d s vH (Nv s.day.fwds c) w):=by
 refine' U7;have HR:=aA (ZBJ vF s.day.fwds c w hF.rd hc);have hcnt:=ZEE (c:=c) hk;have cm:=ZDg (c:=c) hk;have HQ:Hid (Nv s.day.fwds c=if(rSv s.day.fwds c).2.2 then(rSv s.day.fwds c).1++⟨#[32]⟩++Cl (rSv s.day.fwds c).2.1 else⟨#[]⟩):=rfl;rw[HQ.out];clear hD hF hc hk HQ;generalize(rSv s.day.fwds c).1=e1 at *;generalize(rSv s.day.fwds c).2.1=n at *;have HN:=aA (fun W h=>Jn n W ZA (hT.on (w':=W) h));have lY:=(C9 (n:=n) ZA).1;clear hT;cases ag:(rSv s.day.fwds c).2.2
 .rw[ag]at HR
  clear ag;go_enter func146,ntmps146
  exact ZKp
 .rw[ag]at HR
  clear ag;generalize Cl n=t at *;go_enter func146,ntmps146
  refine' ZC;refine HR.out.mono ?_;refine' ZU;have B1:=aA b1;clear b1
  go_wp2_with (go_at_call 195;refine' ZKm)
  go_ret;exact ZF3
theorem AvL(B d s vH c w)(hD:Bv B w d s vH)(hc:c.size<=maxLen)(hi:Bj s.day.plan.bins/\Bj s.day.plan.passes/\Bj s.day.size)(hk:Be s.day.fwds=true):
 Calls Tryz.prog 149 #[.pointer (P_ d),.string c] w (Bb B d s vH (Ys s.day c) w):=by
 refine' zJ;obtain⟨_,vO,vF,_,_,⟨_,c1,c2,c3,c4,c5,c6,_⟩,_,_,hO,hF,hH,_⟩:=Ca hD;have HR:=aA (Ao8 (.agg #[.int .i64 s.day.plan.bins,.int .i64 s.day.plan.passes,vO,vF,vH,.int .i64 s.day.size]) s.day c w ⟨_,_,_,rfl,hi.1,hi.2.1,hi.2.2,hO.rd,hF.rd,hH.rd⟩ hc);have cm:=AbA (d:=s.day) (c:=c) hk;have HQ:Hid (Ys s.day c=if(Nh s.day c).2.size=0 then⟨#[]⟩else(Nh s.day c).1++⟨#[32]⟩++(Nh s.day c).2):=rfl;rw[HQ.out];clear hD hO hF hH hc hk HQ hi;generalize(Nh s.day c).1=e1 at *;generalize(Nh s.day c).2=e2 at *;obtain⟨ie,jd⟩:=cm;by_cases h0:e2.size=0
 .rw[aQ h0]
  have t2:=(L6 h0).2;clear h0;go_enter func149,ntmps149
  exact ZKp
 .rw[aM h0]
  have t2:=(G7 h0).2;clear h0;go_enter func149,ntmps149
  exact ZKp
theorem Oy(p xs k):(Gs p xs k).length<=16/\∀n∈Gs p xs k,n<=60:=by
 unfold Gs Fz
 split
 .rename_i h
  refine' ZVx;refine⟨?_,fun n hn=>?_⟩
  .rw[bI,Hz];omega
  .obtain⟨b,hb,rfl⟩:=List.mem_map.1 hn
   unfold Bm at hb;obtain⟨i,_,rfl⟩:=List.mem_map.1 hb;exact aI (bL _ _) h2
 .exact⟨ZE,fun n hn=>absurd hn ZF⟩
theorem AiC(v vb p xs k w)(hv:rdP w w.heap.size v p)(hb:R_ w vb xs):
 Calls Tryz.prog 227 #[v,vb,.int .i64 k] w fun e w'=>∃v',e=.returned v'/\own 3 w.heap.size w' v' ((Gs p xs k).map fun n:Nat=>(n:Int))/\B_ w w':=by
 refine' zR;refine' eP;obtain⟨A0,c0,rfl⟩:=Gx hv;obtain⟨AL,nL,cL,rfl, -, -, -, -⟩:=hb;refine' ZVy;refine' ZKq;have j5:B_ w w0:=(Aw ac).1;have HP:=aA (Aj6 _ _ p xs k w0 (HV.out.on j5) (HB.out.on j5));refine' zT;have kO:=aA j5;refine' ZVz;cases ag:Qm p xs k
 .have HL:Hid (L=[]):=ZV0
  rw[ag]at HP;refine' ZV1;have l1:=aA (Aa kO.out b1);obtain⟨A1,n1,c1,rfl, -, -, -, -⟩:=qc.1.rd;refine' ZGe;refine' ZI;exact⟨_,rfl,by rw[HL.out];exact zj,l1.out⟩
 .rw[ag]at HP
  have mK:bins.length<=16:=ZV2
  have fo:=Ed (P:=Tryz.prog) 61 3 i0 _ iP hi ah bins.length zi ZA;refine' ZV1;have l1:=Aa kO.out b1;refine' ZGe;have hrdB:R_ w1 vB bins:=Fu.rd ⟨vs,qc⟩;obtain⟨A1,n1,c1,rfl,dy,uy,qq,ew⟩:=hrdB;subst dy;have HR:=aA ew;refine' ZC;refine' ZV3;have lk:Ck 3 (w1.alloc (aB (bF #[.int .i64 0] bins.length) 3)) w1.heap.size bins.length 0 (L.map fun n:Nat=>(n:Int)):=Ck.made w1 _ _ _ iG _;have br:B_ w1 (w1.alloc (aB (bF #[.int .i64 0] bins.length) 3)):=(aF _ _).alloc (aC _) _;generalize w1.alloc (aB (bF #[.int .i64 0] bins.length) 3)=wz at *;go_loopw[28] (fun i wr=>∃k:Nat,k<=bins.length/\i=.int .i64 k/\B_ w1 wr/\Ck 3 wr w1.heap.size bins.length k (L.map fun n:Nat=>(n:Int))) (fun i _=>bins.length - (intOf i).toNat)
  case atStart=>exact Y7
  case round=>
   refine' Qs;have ie:=l1.size;by_cases ab:k<bins.length
   .obtain⟨b,o,u,rfl,hb,hu,y1⟩:=HR.out.rowU k ab
    replace y1:=y1 w2 av;have mY:(L.map fun n:Nat=>(n:Int))[k]' za=((bins[k].length:Nat):Int):=by{simp[HE.out]};have BJ:bins[k].length<=60:=um.out.2 _ ZV4;have fx:=aA (hf.step za Za (ecs:=[.int .i64 ((bins[k].length:Nat):Int)]) (by rw[mY];exact⟨ZS,rfl⟩));obtain⟨oc,p8⟩:=hf.cell (j:=k) (by show k<_*1;omega);have xH:=hf.free k;generalize bins[k]=ys at *;obtain⟨A3,m3,c3,rfl,vE,_,_,_⟩:=hu;subst vE;have bd:(k:Int)<(bins.length:Int):=ZA
    refine' zQ;refine' ZC;go_roundw
    case rel=>exact⟨k+1,ZA,ZJ,Ai av (p:=⟨w1.heap.size,k,none⟩) (aC _) _,by have h:=fx.out;rw[show k*El.size Int=k from eF k]at h;exact h⟩
    case measure=>exact ZK
   .have HK:=aA (show k=bins.length by omega)
    refine' ZI;rw[HK.out]at hf;exact⟨_,rfl,hf.own cn.out.symm ie ZN,Aa l1 av⟩
theorem ArC(B d s vH k w)(hD:Bv B w d s vH)(hT:I4 w)(hi:Bj s.day.plan.bins/\Bj s.day.plan.passes):
 Calls Tryz.prog 143 #[.pointer (P_ d),.int .i64 k] w (Bb B d s vH (Vs s.day.plan s.letters k) w):=by
 refine' ZJV;have HM:Hid (∀W,B_ w W->Calls Tryz.prog 227 #[.agg #[.int .i64 s.day.plan.bins,.int .i64 s.day.plan.passes,.slice AO nO cO],.slice AL nL cL,.int .i64 k] W fun e w'=>∃v',e=.returned v'/\own 3 W.heap.size w' v' ((Gs s.day.plan s.letters k).map fun n:Nat=>(n:Int))/\B_ W w'):=fun W hW=>AiC _ _ s.day.plan s.letters k W (qX.on hW) (hL.rd.on hW)
 have um:=aA (Oy s.day.plan s.letters k);have HQ:Hid (Vs s.day.plan s.letters k=if(Gs s.day.plan s.letters k).length=0 then⟨#[]⟩else Cb ((Gs s.day.plan s.letters k).map Cl)):=rfl;rw[HQ.out];generalize Gs s.day.plan s.letters k=L at *;refine' Py;refine' Y2;have HT:=aA hT;have qE:=um.out.1;refine' zc;have fo:=Ed (P:=Tryz.prog) 28 9 i0 _ aW hi ah L.length zi ZA;by_cases h0:L.length=0
 .rw[aQ h0]
  go_enter func143,ntmps143
  refine' ZC;go_region_held3 (fun W=>B_ w W) (first|exact ld|exact k1|fail) (first|(go_at_call 227;first|(refine' ZJW;refine' Zw;have k1:=Aa US z1;obtain⟨A1,n1,m1,rfl,dy, -, -, -⟩:=o1.rd;have qW:=aA dy;clear o1 dy)|fail)|fail)
  all_goals
   have gx:n1=0:=by{have:=qW.out;rw[bI]at this;omega};subst gx;have K1:=aA k1;refine' ZI;exact Bb.of_read HD.out rfl K1.out
 .rw[aM h0]
  go_enter func143,ntmps143
  refine' ZC;go_region_held3 (fun W=>B_ w W) (first|exact ld|exact k1|fail) (first|(go_at_call 227;first|(refine' ZJW;refine' Zw;have k1:=Aa US z1;have ew:=o1.rd;clear o1)|fail)|fail)
  all_goals
   obtain⟨A1,n1,m1,rfl,dy,uy,qq,ew⟩:=ew;rw[bI]at dy;subst dy;have HR:=aA ew;have l1:=k1;have ay:¬(L.length:Int)=0:=ZA
   have hneb:((L.length:Int)==0)=false:=beq_eq_false_iff_ne.2 ay;refine' ZC;have cn:Hid ((L.map Cl).length=L.length):=Y8
   have lk:Ck 9 (u1.alloc (aB (bF #[.string ⟨#[]⟩] L.length) 9)) u1.heap.size L.length 0 (L.map Cl):=Ck.made u1 _ _ _ iG _;have br:B_ u1 (u1.alloc (aB (bF #[.string ⟨#[]⟩] L.length) 9)):=(aF _ _).alloc (aC _) _;generalize u1.alloc (aB (bF #[.string ⟨#[]⟩] L.length) 9)=wz at *;go_loopw[28] (fun i wr=>∃k:Nat,k<=L.length/\i=.int .i64 k/\B_ u1 wr/\Ck 9 wr u1.heap.size L.length k (L.map Cl)) (fun i _=>L.length - (intOf i).toNat)
   case atStart=>exact Y7
   case round=>
    refine' Qs;have ie:=l1.size;by_cases ab:k<L.length
    .obtain⟨b,o,rfl,hb,kj,y1⟩:=HR.out.intU k (by refine' ze;exact ab)
     replace y1:=y1 w2 av;rw[fD]at y1;have BJ:L[k]<=60:=um.out.2 _ (aS ab);have mY:(L.map Cl)[k]' za=Cl L[k]:=ZF
     have lY:=(C9 (n:=L[k]) ZA).1;have fx:=aA (fun(W:World) (hF:Ck 9 W u1.heap.size L.length k (L.map Cl))=>hF.step za Za (ecs:=[.string (Cl L[k])]) (by rw[mY];exact⟨ZN,rfl⟩));have HN:=aA (Jn L[k] w2 ZA (HT.out.on (Aa l1 av)));generalize Cl L[k]=dt at *;generalize L[k]=nk at *;have bd:(k:Int)<(L.length:Int):=ZA
     refine' zQ;have HF:=aA hf;refine' ZC;refine HN.out.mono ?_;refine' zB;have kc:=HF.out.below b3;have l3:=Aa av b3;obtain⟨oc,p8⟩:=kc.cell (j:=k) (by show k<_*1;omega);have xH:=kc.free k;have HST3:=aA (fx.out _ kc);refine' ZC;go_roundw
     case rel=>exact⟨k+1,ZA,ZJ,Ai l3 (p:=⟨u1.heap.size,k,none⟩) (aC _) _,by have h:=HST3.out;rw[show k*El.size Y_=k from eF k]at h;exact h⟩
     case measure=>exact ZK
    .have HK:=aA (show k=L.length by omega)
     rw[HK.out]at hf;have HO:=aA (hf.own (base:=u1.heap.size) cn.out.symm (aC _) ZN);have ma:=aA (Hw _ _ w2 HO.out.rd Uq fun x hx=>by obtain⟨n,hn,rfl⟩:=List.mem_map.1 hx;have:=(C9 (n:=n) (by have:=um.out.2 n hn;omega)).1;omega)
     refine' ZC;refine ma.out.mono ?_;refine' zB;have L3:=aA (Aa (Aa l1 av) b3)
     refine' ZI;exact Bb.of_read HD.out rfl L3.out
theorem AmO(B d s vH st c w)(hD:Bv B w d s vH)(hc:c.size<=maxLen)(hn:Na s.net st c=false):
 Calls Tryz.prog 156 #[.pointer (P_ d),.string st,.string c] w (Bb B d s vH ⟨#[]⟩ w):=by
 refine' P0;have HR:Hid (Calls Tryz.prog 242 #[vN,.string st,.string c] w fun e w'=>∃v',e=.returned (.tuple #[v',.int .i64 3])/\own (α:=Y_) 9 w.heap.size w' v' []/\B_ w w'):=by have h:=ZCe vN s.net st c w hN.rd hc;rw[AaH hn]at h;exact h
 clear hD hN hn;refine' ZV5;refine' eD;refine' X3;clear o1 b1;have HL:=aA (Hw _ [] w1 mH.out.rd ZE (fun p hp=>absurd hp ZF));refine' ZC;refine HL.out.mono ?_;refine' zK;have l2:=aA (Aa it.out b2);clear b2;generalize Cb []=L at *
 refine' ZI;exact Bb.of_read HD.out rfl l2.out
theorem AqN(B d s vH st c w)(hD:Bv B w d s vH)(hc:c.size<=maxLen):
 Calls Tryz.prog 156 #[.pointer (P_ d),.string st,.string c] w (Bb B d s vH (Xe s.net st c) w):=by
 unfold Xe;cases h:Na s.net st c
 .exact AmO B d s vH st c w hD hc h
 .refine' ZV6;have:=AuG B d s vH st c w hD hc f1 (show(Wb s.net st c).length<=1000 by omega) (fun p hp=>aI (f3 p hp).2 ZA) (aI q9 ZA);unfold BbM at this;rw[show Cb ((Cs s.net st c).1.map (Bw s.net))++(⟨#[32]⟩++Xa (Cs s.net st c).2)=Cb ((Cs s.net st c).1.map (Bw s.net))++⟨#[32]⟩++Xa (Cs s.net st c).2 by exact ZJT]at this
  exact this
theorem AeY(B d s vH st w)(hD:Bv B w d s vH)(xE:Gq s.net st<0):
 Calls Tryz.prog 150 #[.pointer (P_ d),.string st] w (Bb B d s vH ⟨#[]⟩ w):=by refine' P0;have HO:=aA (Hx vN s.net st w hN.rd);generalize Gq s.net st=r at *;clear hD hN;refine' ZV7;exact ZKr
theorem AmQ(B d s vH st w)(hD:Bv B w d s vH):
 Calls Tryz.prog 150 #[.pointer (P_ d),.string st] w (Bb B d s vH (Wh s.net st) w):=by
 unfold Wh;by_cases h:Gq s.net st<0
 .rw[aQ h];exact AeY B d s vH st w hD h
 .rw[aM h]
  exact AnH B d s vH st w hD ZA fun p hp=>aI ((ZC4 s.net st).2.1 p hp) ZE
theorem BbX{α:Type}(xs:List α)(k):(wo xs k).Sublist xs:=by
 unfold wo;have h:=(dR (p:=fun x:α×Nat=>decide ((x.2:Int)≠k)) (l:=xs.zipIdx)).map Prod.fst
 rwa [List.zipIdx_map_fst]at h
theorem At4{α:Type}(k):∀(xs:List α) (n:Nat),k<(n:Int)->((xs.zipIdx n).filter fun x=>decide ((x.2:Int)≠k)).map Prod.fst=xs
 |[],_,_=>rfl
 |x::xs,n,h=>by rw[List.zipIdx_cons,List.filter_cons_of_pos ZH,cD,At4 k xs (n+1) ZA]
theorem Ay0{α:Type}:∀(xs:List α) (n k:Nat) (h:k<xs.length),(xs[k]::((xs.zipIdx n).filter fun x=>decide ((x.2:Int)≠((n+k:Nat):Int))).map Prod.fst).Perm xs
 |x::xs,n,0,_=>by rw[List.zipIdx_cons,List.filter_cons_of_neg ZF,At4 _ xs (n+1) ZA];exact gQ _
 |x::xs,n,k+1,h=>by rw[List.zipIdx_cons,List.filter_cons_of_pos ZH,cD];have ih:=Ay0 xs (n+1) k zI;rw[show n+(k+1)=n+1+k by omega];exact(List.Perm.swap _ _ _).trans (ih.cons x)
theorem Ba7{α:Type}{xs:List α}{k}(h:k<xs.length):(xs[k]::wo xs (k:Int)).Perm xs:=by have:=Ay0 xs 0 k h;exact Sb
theorem AsO{os f}(t)(h:f<os.length):(Ju os f t).Perm os:=by unfold Ju;refine ZB1.trans ?_;rw[dQ,bH,aR h];exact Ba7 h
theorem AnA{cs}:La cs=true↔(∀c∈cs,Ap c=true)/\cs.Nodup:=by
 unfold La List.Nodup;rw[dU,dJ];constructor
 .intro h
  have hk:∀k (hk:k<cs.length),Ap cs[k]=true/\∀d∈cs.take k,zU d cs[k]=false:=fun k hk=>by have:=h k zP;rw[U9 hk,aO,dU]at this;exact⟨this.1,fun d hd=>by simpa using this.2 d hd⟩
  refine⟨fun c hc=>?_,fun i j hi hj rg=>?_⟩
  .obtain⟨k,gj,rfl⟩:=bP hc
   exact(hk k gj).1
  .refine F6.1 ((hk j hj).2 _ ?_)
   rw[eB];exact⟨i,ZA,rfl⟩
 .rintro⟨h1,h2⟩ k hk
  have hk:k<cs.length:=zP
  rw[U9 hk,aO,dU];refine⟨h1 _ (aS hk),fun d hd=>?_⟩;rw[eB]at hd;obtain⟨i,hi,rfl⟩:=hd;rw[F6.2 (h2 i k ZA hk ZA)];rfl
theorem AlM{cs ds}(hp:cs.Perm ds)(h:La cs=true):La ds=true:=by obtain⟨h1,h2⟩:=AnA.1 h;exact AnA.2 ⟨fun c hc=>h1 c (hp.mem_iff.2 hc),hp.nodup_iff.1 h2⟩
theorem AdH{p f t}(h:Eg p f t=true):Bq (Ei p f t)=true:=by have h':=h;unfold Eg at h';simp only[aO,bD]at h';obtain⟨h1,⟨h2,h3⟩,h4,h5⟩:=h';obtain⟨g1,g2,g3,g4⟩:=De.1 h1;have hp:=AsO (os:=p.order) t.toNat (show f.toNat<p.order.length by omega);have hl:=hp.length_eq;unfold Ei;rw[aQ h];exact De.2 ⟨g1,by show 1<=(Ju _ _ _).length/\(Ju _ _ _).length<=60;omega,by show((Ju _ _ _).length:Int)<=_;rw[hl];exact g3,AlM hp.symm g4⟩
theorem AgD{fs c}(h:Jy fs c=true):Be (N6 fs c)=true:=by unfold N6;rw[aQ h];unfold Jy at h;refine' Yd;obtain⟨h1,h2,h3⟩:=Wi.1 h.1;have hs:=BbX fs (Gg fs c);exact Wi.2 ⟨aI hs.length_le h1,fun x hx=>h2 x (hs.mem hx),h3.sublist hs⟩
theorem Ag3{fs a b}(h:Ig fs a b=true):Be (My fs a b)=true:=by unfold My;rw[aQ h];unfold Ig at h;rw[aO,aO]at h;exact h.2.1
theorem Ad8{fs}(h:Be fs=true):Be (Q7 fs)=true:=An5 (ArY h) (Aj7 h).symm
theorem AvR{t}(h:Tf t=true):Be (kS t)=true:=by
 unfold kS
 split
 .decide
 .rename_i h0
  unfold Tf at h;have h2:Ks t=true:=by simpa [h0]using h
  rw[aQ h2];unfold Ks at h2;rw[aO]at h2;exact h2.2
theorem AwA{t}(h:Mv t=true):z_ (t_ t)=true:=by
 unfold t_
 split
 .decide
 .rename_i h0
  unfold Mv at h;have h2:J5 t=true:=by simpa [h0]using h
  rw[aQ h2];unfold J5 at h2;rw[aO]at h2;cases hk:z_ (J7 (Aj 32 t))
  .exfalso
   have he:=Ec.1 h2.2;have e0:Co (J7 (Aj 32 t))=⟨#[]⟩:=by{unfold Co;rw[hk];rfl};rw[e0]at he;subst he;exact absurd h2.1 ZE
  .rfl
theorem AsY{xs n}(h:Jo xs n=true):z_ (pg xs n)=true:=BcB h
theorem E4{p:Prop}[Decidable p]{a b:Dsk×Y_}(h1:p->Inv a.1)(h2:¬p->Inv b.1):Inv (if p then a else b).1:=ZWX
theorem Ob{p:Prop}[Decidable p]{a b:Dsk×Y_}{m}(h1:p->a.2.size<=m)(h2:¬p->b.2.size<=m):(if p then a else b).2.size<=m:=ZWX
theorem Inv.setL{s xs}(h:Inv s)(hx:z_ xs=true):Inv {s with letters:=xs}:=⟨hx,h.plan,h.fwds,h.held,h.size,h.net⟩
theorem Inv.setFw{s fs}(h:Inv s)(hx:Be fs=true):Inv {s with day:={s.day with fwds:=fs}}:=⟨h.bs,h.plan,hx,h.held,h.size,h.net⟩
theorem Inv.setPl{s p}(h:Inv s)(hx:Bq p=true):Inv {s with day:={s.day with plan:=p}}:=⟨h.bs,hx,h.fwds,h.held,h.size,h.net⟩
theorem Inv.setHe{s hs}(h:Inv s)(hx:Ee hs=true):Inv {s with day:={s.day with held:=hs}}:=⟨h.bs,h.plan,h.fwds,hx,h.size,h.net⟩
theorem Inv.setSz{s n}(h:Inv s)(hx:Fp n=true):Inv {s with day:={s.day with size:=n}}:=⟨h.bs,h.plan,h.fwds,h.held,hx,h.net⟩
theorem Inv.setNe{s net}(h:Inv s)(hx:Di net=true):Inv {s with net:=net}:=⟨h.bs,h.plan,h.fwds,h.held,h.size,hx⟩
theorem Aa2{hs c}(h:Ee hs=true)(hc:Ap c=true)(hl:hs.length<30):Ee (hs++[c])=true:=by unfold Ee at *;rw[aO]at *;refine⟨aL Px,?_⟩;rw[eH,h.2];simp[hc]
theorem AxS{s}(h:Inv s)(wd):Inv (Rh s wd).1:=by
 unfold Rh
 repeat' (with_reducible refine E4 (fun h1=>?_) fun _=>?_)
 all_goals first
  |exact h
  |exact h.setL (AcW (Oe _) h.bs)
  |exact h.setL (As3 h.rp)
  |exact h.setFw (Ad8 h.fwds)
theorem AoX{s ok xs}(h:Inv s)(hx:ok=true->z_ xs=true):Inv (setL s ok xs).1:=by
 unfold setL
 split
 .rename_i h1;exact h.setL (hx h1)
 .exact h
theorem AoI{s ok fs}(h:Inv s)(hx:ok=true->Be fs=true):Inv (setF s ok fs).1:=by
 unfold setF
 split
 .rename_i h1;exact h.setFw (hx h1)
 .exact h
theorem BaX{s}(h:Inv s)(wd f):Inv (i_ s wd f).1:=by
 unfold i_
 repeat' (with_reducible refine E4 (fun h1=>?_) fun _=>?_)
 all_goals first
  |exact h
  |exact AoX h AsY
  |exact AoI h AgD
  |(rw[aO,bD]at h1;exact h.setHe (Aa2 h.held h1.1 h1.2))
  |(exact h.setSz h1)
theorem BbG{s}(h:Inv s)(wd f g):Inv (iV s wd f g).1:=by
 unfold iV
 repeat' (with_reducible refine E4 (fun h1=>?_) fun _=>?_)
 all_goals first
  |exact h
  |exact AoI h Ag3
  |(exact h.setPl (AdH h1))
theorem AqL{t}(h:Ge t=true):Bq (Ey t)=true:=by unfold Ey;rw[aQ h];unfold Ge at h;refine' Xx;exact h.2.2
theorem AyH{t}(h:Kx t=true):Di (pf t)=true:=by unfold pf;rw[aQ h];unfold Kx at h;refine' Xx;exact h.2
theorem AxE{s}(h:Inv s)(wd r):Inv (U0 s wd r).1:=by
 unfold U0
 repeat' (with_reducible refine E4 (fun h1=>?_) fun _=>?_)
 all_goals first
  |exact h
  |exact AoX h AwA
  |(exact h.setPl (AqL h1))
  |(exact h.setFw (AvR h1))
  |(exact h.setNe (AyH h1))
  |skip
 split
 .exact BaX h _ _
 .exact BbG h _ _ _
 .split<;>exact h
 .exact h
theorem AwC{s}(h:Inv s)(am):Inv (Qk s am).1:=by
 unfold Qk
 split
 .exact AxS h _
 .exact AxE h _ _
theorem Wl(ls):∀k,Inv (Xw ls k)
 |0=>AuX
 |k+1=>by
  unfold Xw
  split
  .exact Wl ls k
  .exact AwC (Wl ls k) _
theorem H9{n}(h0: -1<=n)(h1:n<=9999):(G1 n).size<=4:=by
 by_cases hn:n= -1
 .subst hn;decide
 .obtain⟨m,rfl⟩:=aK (show 0<=n by omega)
  rw[AnF];exact(C9 ZA).1
theorem Ac0{p xs}(h:z_ xs=true): -1<=F5 p xs/\F5 p xs<=60:=by
 have h1:=ZBd p xs;have h2:=Cq h;unfold F5
 split<;>omega
theorem Ho{xs}(h:z_ xs=true):0<=Gy (z_ xs) (sL xs)/\Gy (z_ xs) (sL xs)<9973:=by rw[h];exact Bc6 xs 0 ZA ZA
theorem Io{xs}(h:z_ xs=true):0<=Gy (z_ xs) (m_ xs)/\Gy (z_ xs) (m_ xs)<9973:=by rw[h];exact AzQ xs 0 ZA ZA
theorem AkW{hs}(h:Ee hs=true):(Cb hs).size<=241:=by refine' ZJh;exact(BdQ h.1 h.2).1
theorem ArT{fs}(h:Be fs=true):(Cb (N2 fs)).size<=241:=by have h1:=(Ch.1 h).1;exact(BdQ (ps:=N2 fs) (by have:=AhE (fs:=fs);omega) (Mb _)).1
theorem Pq:Hg.size<=2000000000:=ZE
theorem Ap5:kR.size<=2000000000:=ZE
theorem AgU{s}(h:Inv s)(wd):(Rh s wd).2.size<=2000000000:=by
 unfold Rh
 repeat' (with_reducible refine Ob (fun _=>?_) fun _=>?_)
 exact ZK0;exact ZK0
 .have h1:=Du (Dr s.day.plan s.letters)
  have h2:=Du (Ha s.day.plan s.letters);exact Xt
 .have h1:=Ho h.bs
  have h2:=Io h.bs;have h3:=H9 (n:=Gy (z_ s.letters) (sL s.letters)) ZA ZA;have h4:=H9 (n:=Gy (z_ s.letters) (m_ s.letters)) ZA ZA;exact Xt
 .exact aI (ZAg _) ZA
 .have h1:=Ac0 (p:=s.day.plan) h.bs
  exact aI (H9 h1.1 ZA) ZA
 .exact aI (Pc _) ZA
 .exact aI (Pc _) ZA
 .exact aI (ArT h.fwds) ZA
 .exact aI (AkW h.held) ZA
 .exact aI BaS ZA
 .exact aI (AtO (ZC7 h.rd).2).1 ZA
 .exact aI (AvJ _) ZA
 .exact Pq
theorem Af8(s ok xs):(setL s ok xs).2.size<=1000:=by
 unfold setL
 split
 .exact Du _
 .exact zC
theorem AfC(s ok fs):(setF s ok fs).2.size<=600:=by
 unfold setF
 split
 .exact Pc _
 .exact zC
theorem An9(p xs k):(Vs p xs k).size<=100:=by
 unfold Vs
 split
 .exact zC
 .obtain⟨h1,h2⟩:=Oy p xs k
  refine aI (Lm (n:=16) (b:=4) (by refine' ze;exact h1) fun q hq=>?_) ZA;obtain⟨n,hn,rfl⟩:=List.mem_map.1 hq;exact(C9 (aI (h2 n hn) ZA)).1
theorem AiU{fs c}(h:Be fs=true):(Nv fs c).size<=100:=by
 unfold Nv
 split
 .have h1:=ZDg (c:=c) h
  have h2:=(C9 (n:=(rSv fs c).2.1) (aI (ZEE h) ZA)).1;exact Xt
 .exact zC
theorem As0{d c}(h:Be d.fwds=true):(Ys d c).size<=200:=by
 unfold Ys
 split
 .exact zC
 .have h1:=AbA (c:=c) h
  exact Xt
theorem Aq2(net st):(Wh net st).size<=1000000001:=by
 unfold Wh
 split
 .exact zC
 .obtain⟨h1,_,h3⟩:=ZC4 net st
  exact Lm (n:=100000000) (b:=9) h1 fun p hp=>(h3 p hp).2
theorem AqM(net s c):(Xe net s c).size<=100:=by
 unfold Xe
 split
 .rename_i h
  obtain⟨_,f2,f3⟩:=ZDQ h;have h1:=Lm (n:=9) (b:=8) f2 fun p hp=>(f3 p hp).2
  unfold Wb at h1;have h2:=(AvA (Cs net s c).2).2;exact Xt
 .exact zC
theorem Ar4(f):(Yt f).size<=10:=by
 unfold Yt
 split
 .rename_i h
  unfold Fk at h;refine' Xx;rw[(Cp h.2.2.2).1];omega
 .exact zC
theorem AhA(f):(Kz f).size<=50:=by
 unfold Kz
 split
 .rename_i h
  have h7:=(Cp h).1;have jb:Ea f.data.toList=true:=ZVW
  have h1:=M9 7 f.data.toList jb (by simpa using h7);have h2:=Ot _ (AeV f.data.toList);unfold Sj;refine' YU;show _+_+1<=_;omega
 .exact zC
theorem AfX(f):(Hr f).size<=50:=by
 unfold Hr
 split
 .show 7<=50;omega
 .exact zC
theorem AvX{s}(h:Inv s)(wd f):(i_ s wd f).2.size<=2000000000:=by
 unfold i_;refine' ZWY;refine Ob (fun _=>?_) fun _=>?_
 .have h1:=Cq h.bs
  refine aI (H9 ?_ ?_) (ZA:4<=_)
  .unfold Fw;split<;>omega
  .unfold Fw
   have:=bL (fun x:Ltr=>pre x.code f) s.letters
   split<;>omega
 refine Ob (fun _=>?_) fun _=>?_
 .have h1:=(De.1 h.plan).2.1.2
  have h2:=ZER s.day.plan.order f;refine aI (H9 ?_ ?_) (ZA:4<=_)
  .unfold Hl;split<;>omega
  .unfold Hl;split<;>omega
 refine Ob (fun _=>?_) fun _=>?_
 .exact aI (An9 _ _ _) ZA
 refine' ZWZ;refine Ob (fun _=>?_) fun _=>?_
 .exact aI (AiU h.fwds) ZA
 refine Ob (fun _=>?_) fun _=>?_
 .refine Ob (fun h1=>?_) fun _=>?_
  .rw[aO,bD]at h1
   exact aI (AkW (Aa2 h.held h1.1 h1.2)) ZA
  .exact zC
 refine Ob (fun _=>?_) fun _=>?_
 .refine Ob (fun _=>?_) fun _=>?_
  .exact Ap5
  .exact zC
 refine Ob (fun _=>?_) fun _=>?_
 .exact aI (As0 h.fwds) ZA
 refine Ob (fun _=>?_) fun _=>?_
 .exact aI (Aq2 _ _) ZA
 refine Ob (fun _=>?_) fun _=>?_
 .exact aI (Ar4 _) ZA
 refine Ob (fun _=>?_) fun _=>?_
 .exact aI (AhA _) ZA
 refine Ob (fun _=>?_) fun _=>?_
 .exact aI (AfX _) ZA
 .exact Pq
theorem AuO(s wd f g):(iV s wd f g).2.size<=2000000000:=by
 unfold iV;refine Ob (fun _=>?_) fun _=>?_
 .refine Ob (fun _=>?_) fun _=>?_
  .exact aI (ZAg _) ZA
  .exact zC
 refine' ZWZ;refine Ob (fun _=>?_) fun _=>?_
 .exact aI (AqM _ _ _) ZA
 .exact Pq
theorem AfD{p:Prop}[Decidable p](s1 s2):(if p then(s1,kR)else(s2,⟨#[]⟩):Dsk×Y_).2.size<=2000000000:=by
 split
 .exact Ap5
 .exact zC
theorem Ao0(p xs a b c):(Jp p xs a b c).size<=2000000000:=by
 unfold Jp
 split
 exact ZK0
 .exact zC
theorem Ar0{s}(h:Inv s)(wd r):(U0 s wd r).2.size<=2000000000:=by
 unfold U0;refine' ZWY;refine' ZK1;refine' ZK1;refine' ZK1;split
 .exact AvX h _ _
 .exact AuO _ _ _ _
 .split
  .exact Ao0 _ _ _ _ _
  .exact Pq
 .exact Pq
theorem Ag4{s}(h:Inv s)(am):(Qk s am).2.size<=2000000000:=by
 unfold Qk
 split
 .exact AgU h _
 .exact Ar0 h _ _
theorem Bd8{l x}(h:Ea (l++[x])=true):Ea l=true/\48<=x.toNat/\x.toNat<=57:=by have h1:=F3 h l.length;rw[List.take_left]at h1;exact⟨h1,Iw h x ZF⟩
theorem AqA:∀(k:Nat) (l m:List UInt8),Ea l=true->Ea m=true->l.length=k->m.length=k->Fe l=Fe m->l=m
 |0,l,m,_,_,hl,hm,_=>by rw[bW hl,bW hm]
 |k+1,l,m,h1,h2,hl,hm,h=>by
  rcases List.eq_nil_or_concat l with rfl|⟨l',x,rfl⟩
  .simp at hl
  rcases List.eq_nil_or_concat m with rfl|⟨m',y,rfl⟩
  .simp at hm
  rw[List.concat_eq_append]at *;rw[List.concat_eq_append]at *;obtain⟨d1,x1,x2⟩:=Bd8 h1;obtain⟨d2,y1,y2⟩:=Bd8 h2;rw[Il,Il]at h;have GG:l'.length=k:=by simpa using hl
  have mj:m'.length=k:=by simpa using hm
  have e:=AqA k l' m' d1 d2 GG mj ZA;have xX:x=y:=UInt8.toNat_inj.1 ZA;rw[e,xX]
theorem ZCH{l k}(h:Ea l=true)(hl:l.length=k):Gm (Fe l) k=l:=by have h1:=AkS k (Fe l) (Jc k l h hl);exact AqA k _ _ (Pl k _) h (Ab6 k _) hl h1
theorem ZAs{c}(h:Ap c=true):Hf (G0 c)=c/\Jk (G0 c)=true:=by
 obtain⟨h7,_⟩:=Cp h;have jb:Ea c.data.toList=true:=ZVW
 have yC:c.data.toList.length=7:=by simpa using h7
 have d0:Ea (c.extract 0 3).data.toList=true:=by rw[Hb];exact AaR (F3 jb 3) 0
 have d1:Ea (c.extract 3 5).data.toList=true:=by rw[Hb];exact AaR (F3 jb 5) 3
 have d2:Ea (c.extract 5 c.size).data.toList=true:=by rw[Hb];exact AaR (F3 jb _) 5
 have l0:(c.extract 0 3).data.toList.length=3:=by rw[Hb];simp[yC]
 have l1:(c.extract 3 5).data.toList.length=2:=by rw[Hb];simp[yC]
 have l2:(c.extract 5 c.size).data.toList.length=2:=by rw[Hb,h7];simp[yC]
 constructor
 .apply Cv
  rw[ZA2];show Gm (Fe _:Int).toNat 3++Gm (Fe _:Int).toNat 2++Gm (Fe _:Int).toNat 2=_;rw[bE,bE,bE,ZCH d0 l0,ZCH d1 l1,ZCH d2 l2,Hb,Hb,Hb,h7];have e:c.data.toList.take 7=c.data.toList:=bB ZA;rw[e];generalize c.data.toList=l at *
  match l,yC with
  |[a,b,c,d,e,f,g],_=>rfl
 .rw[Ap1]
  have n0:=Jc 3 _ d0 l0;have n1:=Jc 2 _ d1 l1;have n2:=Jc 2 _ d2 l2;unfold G0;simp only;omega
theorem Ae1(c w)(hz:c.size<=maxLen)(hc:Ap c=false):
 C_ 292 #[.string c] w (.tuple #[.agg #[.int .i64 0,.int .i64 0,.int .i64 0],.bool false]):=by
 have js:Hid (∀W:World,ya 231 #[.string c] W (.bool false)):=fun W=>by have:=Cw c W hz;exact We
 refine' ZGY;clear hc;go_enter func292,ntmps292
 refine' ZC;refine' iB;exact ZVX
theorem ZCA(t w)(hn:Fk t=false):
 C_ 236 #[.string t] w (.tuple #[.agg #[.int .i64 0,.int .i64 0,.int .i64 0],.bool false]):=by
 refine' ZIr;refine' Uh;by_cases hz:t.size=9
 .have g9:(t.size:Int)=9:=ZA
  refine' ZKf;by_cases e3:(t[3]' ZA).toNat=45
  .have g3:(((t[3]' ZA).toNat:Nat):Int)=45:=ZA
   by_cases e6:(t[6]' ZA).toNat=45
   .have g6:(((t[6]' ZA).toNat:Nat):Int)=45:=ZA
    have gp:Ap (t.extract 0 3++t.extract 4 6++t.extract 7 9)=false:=by
     cases hq:Ap (t.extract 0 3++t.extract 4 6++t.extract 7 9)with
     |false=>rfl
     |true=>
      exfalso;have h3:t.data.toList[3]? =some 45:=by
       rw[aR ZA]
       congr 1
       exact UInt8.toNat_inj.1 e3
      have h6:t.data.toList[6]? =some 45:=by
       rw[aR ZA]
       congr 1
       exact UInt8.toNat_inj.1 e6
      have:Fk t=true:=by{unfold Fk c3;rw[hz,h3,h6,hq];rfl};rw[hn]at this;cases this
    have HP:=aA (fun W=>Ae1 (t.extract 0 3++t.extract 4 6++t.extract 7 9) W (by simp only[aY,dB];exact ZN) gp);clear gp hn hl e3 e6;exact ZQU
   .have g6:¬(((t[6]' ZA).toNat:Nat):Int)=45:=ZA
    clear hn hl e3 e6;exact ZKg
  .have g3:¬(((t[3]' ZA).toNat:Nat):Int)=45:=ZA
   clear hn hl e3;exact ZKg
 .have g9:¬(t.size:Int)=9:=ZA
  clear hn hz;exact ZKg
theorem Am9{t:Y_}(h:Fk t=true):∃hz:t.size=9,(t[3]' ZA).toNat=45/\(t[6]' ZA).toNat=45/\Ap (c3 t)=true:=by
 unfold Fk at h;rw[aO,aO,aO,dI,dI,dI]at h;obtain⟨hz,h3,h6,hc⟩:=h;refine' ZKf;rw[aR ZA]at h3 h6;refine⟨hz,?_,?_,hc⟩
 .injection h3 with h3
  show(t.data.toList[3]).toNat=45;rw[h3];rfl
 .injection h6 with h6
  show(t.data.toList[6]).toNat=45;rw[h6];rfl
theorem AbV(t w):
 C_ 151 #[.string t] w (.string (Yt t)):=by
 unfold Yt;cases hp:Fk t
 .have HP:=aA (fun W=>ZCA t W hp)
  clear hp;go_enter func151,ntmps151
  go_wp2_with (go_at_call 236;refine' ZIs)
  go_ret;exact⟨rfl,Ae b1 _⟩
 .obtain⟨hz,h3,h6,hc⟩:=Am9 hp
  obtain⟨q1,q2⟩:=ZAs hc;have h:=Aa0 t (G0 (c3 t)) w (aA fun V=>AfL t (c3 t) V hz h3 h6 rfl hc) q2;rw[q1]at h;exact h
theorem ZDp:Aj 32 (⟨#[]⟩:Y_)=[⟨#[]⟩]:=ZR
theorem AvD{n}(h:0<n):Pg n=J1 n:=by unfold Pg;rw[aM ZA]
theorem AkM(a b l):Cg (a::b::l) y7=a++y7++Cg (b::l) y7:=by apply Cv;rw[B6,B6,O8,O8,cD,cD,Po];rfl
def Hk(x:Y_):Option Ltr:=(E5 58 x).map fun q=>⟨Hp q.1,q.2⟩
def Vg(t:Y_):Bool:=Ik Hk ((Aj 32 t).take 61)&&zU (Co (Gl Hk ((Aj 32 t).take 61))) t
theorem Ba2(x y)(h:Ll x=some y):Hk x=some y:=by
 unfold Ll at h;unfold Hk;cases hc:E5 58 x with
 |none=>rw[hc]at h;cases h
 |some q=>
  obtain⟨p,q⟩:=q;rw[hc]at h;simp only at h
  split at h
  .exact h
  .cases h
theorem AzL(ps):M1 ps=Ik Ll ps:=rfl
theorem BcQ{t}(cv:zU t ⟨#[45]⟩=false):Vg t=J5 t/\(J5 t=true->Gl Hk ((Aj 32 t).take 61)=J7 (Aj 32 t)):=by
 have h1:J5 t=true->(Aj 32 t).take 61=Aj 32 t/\Gl Hk (Aj 32 t)=J7 (Aj 32 t)/\Ik Hk (Aj 32 t)=true:=fun h=>by unfold J5 Yu at h;refine' e_;exact⟨bB ZA,Ab4 Ba2 (by rw[<-AzL];exact h.1.1)⟩
 refine⟨?_,fun h=>by rw[(h1 h).1,(h1 h).2.1]⟩;refine' fV;constructor
 .intro h
  unfold Vg at h;refine' ZGN;cases hr:z_ (Gl Hk ((Aj 32 t).take 61))
  .have e0:Co (Gl Hk ((Aj 32 t).take 61))=⟨#[]⟩:=AeH hr
   rw[e0]at he;subst he;rw[ZDp]at ha;exact absurd ha ZR
  .have h2:=(BbW hr).1
   rw[he]at h2;unfold Mv at h2;rw[cv,Bool.false_or]at h2;exact h2
 .intro h
  obtain⟨h2,h3,h4⟩:=h1 h;unfold Vg;rw[h2,h3,h4,fF];unfold J5 at h;refine' Yd;exact h.2
theorem AyC:∀(n:Nat) (l:List UInt8),l.length=n->Ea l=true->(∀b,l.head?=some b->b≠48)->l≠[]->0<Fe l/\J1 (Fe l)=l:=by
 intro n
 induction n with
 |zero=>intro l hl _ _ h0;exact absurd (List.length_eq_zero_iff.1 hl) h0
 |succ n ih=>
  intro l hl hd hh h0;obtain⟨m,b,rfl⟩:∃m b,l=m++[b]:=⟨l.dropLast,l.getLast h0,(List.dropLast_concat_getLast h0).symm⟩;obtain⟨hdm,bv,dq⟩:=Bd8 hd;rw[aT,cE]at hl;rw[Il];have pn:UInt8.ofNat (48+(b.toNat - 48))=b:=by apply UInt8.toNat_inj.1;rw[iC];omega
  by_cases hm:m=[]
  .subst hm
   have hb:b≠48:=hh b rfl;have UN:b.toNat≠48:=fun e=>hb (UInt8.toNat_inj.1 e)
   have e0:Fe []=0:=rfl;rw[e0];refine⟨ZA,?_⟩;rw[I2 ZA,show(10*0+(b.toNat - 48))/10=0 by omega,AxF,show(10*0+(b.toNat - 48))%10=b.toNat - 48 by omega,pn,bT]
  .obtain⟨i1,i2⟩:=ih m ZA hdm (fun c hc=>hh c (by
    cases m with
    |nil=>exact absurd rfl hm
    |cons x m=>exact hc)) hm
   refine⟨ZA,?_⟩;rw[I2 ZA,show(10*Fe m+(b.toNat - 48))/10=Fe m by omega,i2,show(10*Fe m+(b.toNat - 48))%10=b.toNat - 48 by omega,pn]
theorem AmA{t}(h:Kn t=false):Mj t=t:=by apply Cv;unfold Kn at h;unfold Mj Lib.trimPrefix;rw[h];rfl
theorem AjO{t}(h:Ic t=true)(h1:1<=Hp t):Cl (Hp t).toNat=t:=by
 unfold Ic at h;have hv:Hp t=if Kn t then -(Fe (Mj t).data.toList:Int)else(Fe (Mj t).data.toList:Int):=by unfold Hp N5;rw[aQ h]
 cases hn:Kn t
 .rw[hn]at hv
  rw[AmA hn]at hv h;have QY:Hp t=(Fe t.data.toList:Int):=hv;rw[QY,bE];unfold x_ at h;simp only[aO,bD,hn,Bool.or_false]at h;obtain⟨⟨h2,h3,h4⟩,h5⟩:=h;have ay:t.data.toList≠[]:=fun e=>h2 ZRk
  have hh:∀b,t.data.toList.head?=some b->b≠48:=fun b hb e=>by
   subst e;have hz:Pu t=true:=by{unfold Pu;rw[hb];rfl};rw[hz]at h5;have h6:¬1<t.size:=by{simpa using h5};obtain⟨x,l,kw⟩:∃x l,t.data.toList=x::l:=by
    cases hq:t.data.toList with
    |nil=>exact absurd hq ay
    |cons x l=>exact⟨x,l,rfl⟩
   rw[kw]at hb;have hx:x=48:=by{simpa using hb};have hl:t.data.toList.length=t.size:=ZF
   rw[kw]at hl;have j5:l=[]:=List.length_eq_zero_iff.1 (by simp at hl;omega);have:Fe t.data.toList=0:=by{rw[kw,hx,j5];rfl};omega
  obtain⟨h6,h7⟩:=AyC _ _ rfl h4 hh ay;apply Cv;unfold Cl;rw[AvD h6,h7]
 .rw[hn]at hv
  have QY:Hp t= -(Fe (Mj t).data.toList:Int):=hv;omega
theorem BaQ{t}(h3:3<=(Aj 32 t).length):zU (E7 (I8 t)) t=Ge t:=by
 refine' fV;constructor
 .intro h
  rw[Ec]at h;cases hp:Bq (I8 t)
  .exfalso
   have e0:E7 (I8 t)=⟨#[]⟩:=by{unfold E7;rw[hp];rfl};rw[e0]at h;subst h;rw[ZDp]at h3;exact absurd h3 ZE
  .have:=(BaV hp).1
   rwa [h]at this
 .intro h
  rw[Ec];unfold Ge at h;refine' e_;obtain⟨⟨h1,h2⟩,⟨h4,h5⟩,h6⟩:=h;obtain⟨⟨x1,x2,x3,x4⟩,⟨x5,x6⟩,_⟩:=De.1 h6;rw[Ov h6];have ht:=ZCG t;unfold I8 at x1 x3⊢;simp only at x1 x3⊢;have e1:=AjO h4 ZA;have e2:=AjO h5 ZA;rw[e1,e2];obtain⟨a,b,c,l,ev⟩:∃a b c l,Aj 32 t=a::b::c::l:=by
   rcases hq:Aj 32 t with _|⟨a,_|⟨b,_|⟨c,l⟩⟩⟩
   .rw[hq]at h1;simp at h1
   .rw[hq]at h1;simp at h1
   .rw[hq]at h1;simp at h1
   .exact⟨a,b,c,l,rfl⟩
  rw[ev]at ht⊢;rw[<-ht,AkM,AkM];show a++⟨#[32]⟩++b++⟨#[32]⟩++Cg (c::l) y7=a++y7++(b++y7++Cg (c::l) y7);refine' ZK3;rfl
def Vm(t:Y_):Bool:=Ko ((Aj 32 t).take 31)&&zU (C5 (Fx ((Aj 32 t).take 31))) t
theorem BcS{t}:Vm t=Ks t/\(Ks t=true->Fx ((Aj 32 t).take 31)=Fx (Aj 32 t)):=by
 have h1:Ks t=true->(Aj 32 t).take 31=Aj 32 t:=fun h=>by unfold Ks at h;exact ZJ9
 refine⟨?_,fun h=>by rw[h1 h]⟩;refine' fV;constructor
 .intro h
  unfold Vm at h;refine' ZGN;have hg:=L9 _ ha;cases hr:Be (Fx ((Aj 32 t).take 31))
  .have e0:C5 (Fx ((Aj 32 t).take 31))=⟨#[]⟩:=by unfold C5;rw[hr];rfl
   rw[e0]at he;subst he;rw[ZDp]at ha;exact absurd ha ZR
  .have hl:=(Ch.1 hr).1
   have qT:(Aj 32 t).length<=30:=ZUD
   have ht:(Aj 32 t).take 31=Aj 32 t:=bB ZA;rw[ht]at ha hr;unfold Ks;rw[ha,hr,aL qT];rfl
 .intro h
  have ht:=h1 h;unfold Ks at h;refine' e_;obtain⟨⟨h2,h3⟩,h4⟩:=h;have hl:=L9 _ h2;refine' ZUC;unfold Vm;rw[ht,h2,Pe h4 ZA,An0 h2,ZCG,Mq];rfl
def jS(c:Y_):Plc:=if Ap c then G0 c else⟨0,0,0⟩
theorem BaP(p):c3 (Pm p)=Hf p:=by obtain⟨_,_,_,h⟩:=Au2 p;exact h
theorem AxD{t}(hz:t.size=9):zU (Pm (jS (c3 t))) t=Fk t/\(Fk t=true->Hf (jS (c3 t))=c3 t):=by
 have h2:Fk t=true->Hf (jS (c3 t))=c3 t:=fun h=>by obtain⟨_,_,_,hc⟩:=Am9 h;unfold jS;rw[aQ hc];exact(ZAs hc).1
 refine⟨?_,h2⟩;refine' fV;constructor
 .intro h
  rw[Ec]at h;have hc:=BaP (jS (c3 t));obtain⟨x,y,z,u,v,r,s,e1,e2⟩:=ZDe (jS (c3 t));have vG:=AsC (jS (c3 t));rw[<-hc]at vG;rw[h]at vG;rw[h]at e1;unfold Fk;rw[vG,e1];rfl
 .intro h
  rw[Ec];obtain⟨JT,h3,h6,hc⟩:=Am9 h;have e:=h2 h;obtain⟨x,y,z,u,v,r,s,e1,e2⟩:=ZDe (jS (c3 t));rw[e]at e2;rw[e1];apply Cv;obtain⟨b0,b1,b2,b3,b4,b5,b6,b7,b8',ht⟩:∃b0 b1 b2 b3 b4 b5 b6 b7 b8:UInt8,t.data.toList=[b0,b1,b2,b3,b4,b5,b6,b7,b8]:=by
   refine' ZKf;generalize t.data.toList=l at hl;rcases l with _|⟨b0,_|⟨b1,_|⟨b2,_|⟨b3,_|⟨b4,_|⟨b5,_|⟨b6,_|⟨b7,_|⟨b8,_|⟨b9,l⟩⟩⟩⟩⟩⟩⟩⟩⟩⟩<;>simp at hl
   exact⟨b0,b1,b2,b3,b4,b5,b6,b7,b8,rfl⟩
  have e3:t[3]=b3:=by
   have:t[3]=t.data.toList[3]'(by rw[ht];simp):=rfl
   rw[this];simp[ht]
  have e6:t[6]=b6:=by
   have:t[6]=t.data.toList[6]'(by rw[ht];simp):=rfl
   rw[this];simp[ht]
  have un:b3=45:=by rw[<-e3];exact UInt8.toNat_inj.1 h3
  have h6':b6=45:=by rw[<-e6];exact UInt8.toNat_inj.1 h6
  have e4:(c3 t).data.toList=[b0,b1,b2,b4,b5,b7,b8']:=by unfold c3;rw[B6,B6,Hb,Hb,Hb,ht];rfl
  rw[e2]at e4;have e5:[x,y,z,u,v,r,s]=[b0,b1,b2,b4,b5,b7,b8']:=e4;injection e5 with a0 e5;injection e5 with a1 e5;injection e5 with a2 e5;injection e5 with a4 e5;injection e5 with a5 e5;injection e5 with a7 e5;injection e5 with a8 e5;rw[ht,a0,a1,a2,a4,a5,a7,a8,un,h6']
theorem AgQ(n):1<=(Cl n).size:=by
 unfold Cl Pg
 split
 .exact aC 1
 .rename_i h
  obtain⟨b,l,e,_⟩:=Ag5 n ZA;rw[e];show 1<=(b::l).toArray.size;simp
theorem Ag9{n}(h:0<=n):G1 n=Cl n.toNat/\1<=(G1 n).size:=by obtain⟨m,rfl⟩:=aK h;rw[AnF,bE];exact⟨rfl,AgQ m⟩
theorem Al3{p}(h:Bq p=true):1<=(E7 p).size:=by rw[Ov h];refine' YU;show 1<=_+1+_+1+_;omega
theorem ZC5{fs}(h:Be fs=true):1<=(C5 fs).size:=by
 by_cases h0:fs.length=0
 .unfold C5;rw[aQ h,aQ h0];decide
 .rw[Pe h h0]
  refine Uk ZJS fun p hp=>?_
  obtain⟨x,_,rfl⟩:=List.mem_map.1 hp;unfold Ek;exact Zp
theorem Al1{p xs}(h:M4 p xs=true):0<=F5 p xs:=by have h1:=ZBd p xs;rw[Az5 h]at h1;rw[Aw7 h];omega
theorem Ay9{hs}(h:Ee hs=true):1<=(Cb hs).size:=by refine' ZJh;exact(BdQ h.1 h.2).2
theorem Az4{s}(h:Inv s)(wd):1<=(Rh s wd).2.size:=by
 have mV {p:Prop} [Decidable p] {a b:Dsk×Y_} (h1:1<=a.2.size) (h2:1<=b.2.size):1<=(if p then a else b).2.size:=by
  split
  .exact h1
  .exact h2
 have hR:1<=(Sx (Dh s.day s.letters)).size:=AwI (AzU h.rd);unfold Rh
 with_reducible refine mV (Ui h.bs) ?_
 with_reducible refine mV (Ui (AcW (Oe _) h.bs)) ?_
 with_reducible refine mV ?_ ?_
 .exact Zp
 with_reducible refine mV ?_ ?_
 .exact Zp
 with_reducible refine mV (Al3 h.plan) ?_
 with_reducible refine mV (Ag9 (Al1 h.rp)).2 ?_
 with_reducible refine mV (ZC5 h.fwds) ?_
 with_reducible refine mV (ZC5 (Ad8 h.fwds)) ?_
 with_reducible refine mV (Q6 fun p hp=>by have:=(Cp (Mb _ p hp)).1;omega) ?_
 with_reducible refine mV (Ay9 h.held) ?_
 with_reducible refine mV hR ?_
 with_reducible refine mV (AtO (ZC7 h.rd).2).2 ?_
 with_reducible refine mV (AyK h.net) ?_
 show 1<=Hg.size;decide
def Em(a:Y_):Y_:=jG a++⟨#[10]⟩
theorem Jw:Em ⟨#[]⟩=⟨#[110,111,10]⟩:=ZR
theorem Fh{a}(h:1<=a.size):Em a=a++⟨#[10]⟩:=by unfold Em;rw[AnK h]
theorem AwQ{t}(h:0<t.size):Kn t=(t[0]==45):=by
 have hl:0<t.data.toList.length:=zI
 unfold Kn Lib.hasPrefix;obtain⟨b,l,av⟩:∃b l,t.data.toList=b::l:=by
  cases hq:t.data.toList with
  |nil=>rw[hq]at hl;simp at hl
  |cons b l=>exact⟨b,l,rfl⟩
 have e:t[0]=t.data.toList[0]:=rfl;rw[e];simp only[av];refine' fV;simp[List.isPrefixOf];exact eq_comm
theorem AtP{t}(h:t.size=0):Kn t=false:=by have hl:t.data.toList=[]:=List.length_eq_zero_iff.1 zI;unfold Kn Lib.hasPrefix;rw[hl];rfl
theorem BaM{t}(h:Kn t=true):Mj t=t.extract 1 t.size:=by apply Cv;rw[J3];unfold Kn at h;unfold Mj Lib.trimPrefix;rw[h];rfl
theorem AfB{d ng}(h0:d.size≠0)(SN:d.size<=17)(hz:(Pu d&&(decide (1<d.size)||ng))=false):x_ d ng=Ea d.data.toList:=by unfold x_;rw[hz,aL h0,aL SN];simp
theorem AhS(d w)(hz:d.size<=maxLen)(h0:d.size≠0)(hn:Kn d=false):
 ya 89 #[.string d] w (.tuple #[.int .i64 (N5 d false),.bool (x_ d false)]):=by
 unfold maxLen at hz;have sQ:=AwQ (t:=d) ZA;rw[hn]at sQ;obtain⟨bs,lZ⟩:∃b,d[0]' ZA=b:=⟨_,rfl⟩;rw[lZ]at sQ;have GF:((bs.toNat:Int)==45)=false:=beq_eq_false_iff_ne.2 fun h=>ZWa
 have hsj:¬(bs.toNat:Int)=45:=fun h=>ZWa
 have hdp:(0:Int)<(d.size:Int):=ZA
 clear sQ hn;refine' ZWb;by_cases SN:17<d.size
 .have HO:Hid (x_ d false=false):=ZI3
  exact ZWc
 refine' ZWd;rw[lZ]at ah;by_cases br:bs=48
 .have HZ:Hid (Pu d=true):=by show _=_;rw[ah,br];rfl
  have tB:((bs.toNat:Int)==48)=true:=ZGm
  have hbj:(bs.toNat:Int)=48:=ZGm
  by_cases h1:1<d.size
  .have HO:Hid (x_ d false=false):=by show _=_;unfold x_;rw[HZ.out,aL h1];simp
   refine' eE;have h1i:(1:Int)<(d.size:Int):=ZA
   clear ah br;refine' Od;exact W_
  have HT:Hid (x_ d false=Ea d.data.toList):=AfB ZA ZA (by rw[aP h1];simp);have h1i:¬(1:Int)<(d.size:Int):=ZA
  exact ZWe
 have HZ:Hid (Pu d=false):=ZWf
 have tB:((bs.toNat:Int)==48)=false:=beq_eq_false_iff_ne.2 fun h=>br (UInt8.toNat_inj.1 (by show bs.toNat=48;omega))
 have hbj:¬(bs.toNat:Int)=48:=fun h=>br (UInt8.toNat_inj.1 (by show bs.toNat=48;omega))
 have HT:Hid (x_ d false=Ea d.data.toList):=AfB ZA ZA (by rw[HZ.out];rfl);exact ZWe
theorem AfZ(t w)(hz:t.size<=maxLen)(h0:t.size≠0)(hn:Kn t=true):
 ya 89 #[.string t] w (.tuple #[.int .i64 (N5 (t.extract 1 t.size) true),.bool (x_ (t.extract 1 t.size) true)]):=by
 unfold maxLen at hz;have sQ:=AwQ (t:=t) ZA;rw[hn]at sQ;obtain⟨bs,lZ⟩:∃b,t[0]' ZA=b:=⟨_,rfl⟩;rw[lZ]at sQ;have sy:bs=45:=eq_of_beq sQ.symm;have hsj:(bs.toNat:Int)=45:=by rw[sy];rfl
 have hdp:(0:Int)<(t.size:Int):=ZA
 have h1s:(1:Int)<=(t.size:Int):=ZA
 have tI:(t.extract 1 t.size).size=t.size - 1:=zL
 clear sQ hn sy;obtain⟨d,hd⟩:∃d,t.extract 1 t.size=d:=⟨_,rfl⟩;rw[hd]at tI⊢;have lY:d.size+1=t.size:=ZA
 clear tI;by_cases h0:d.size=0
 .have HO:Hid (x_ d true=false):=ZQ1
  refine' eE;have h0i:(d.size:Int)=0:=ZA
  refine' Od;exact W_
 refine' ZWb;have h0j:¬(d.size:Int)=0:=ZA
 by_cases SN:17<d.size
 .have HO:Hid (x_ d true=false):=ZI3
  exact ZWc
 refine' ZWd;obtain⟨b0,hbe0⟩:∃b,d[0]=b:=⟨_,rfl⟩;rw[hbe0]at ah;by_cases br:b0=48
 .have HZ:Hid (Pu d=true):=by show _=_;rw[ah,br];rfl
  have tB:((b0.toNat:Int)==48)=true:=ZGm
  have hbj:(b0.toNat:Int)=48:=ZGm
  have HO:Hid (x_ d true=false):=by show _=_;unfold x_;rw[HZ.out];simp
  refine' eE;clear ah br;refine' Od;go_wp2_with fail
  all_goals go_ret2;exact⟨by rw[HO.out,HV.out]<;>rfl,rfl⟩
 have HZ:Hid (Pu d=false):=ZWf
 have tB:((b0.toNat:Int)==48)=false:=beq_eq_false_iff_ne.2 fun h=>br (UInt8.toNat_inj.1 (by show b0.toNat=48;omega))
 have hbj:¬(b0.toNat:Int)=48:=fun h=>br (UInt8.toNat_inj.1 (by show b0.toNat=48;omega))
 have HT:Hid (x_ d true=Ea d.data.toList):=AfB ZA ZA (by rw[HZ.out];rfl);refine' ZWg
 .obtain⟨k,hk,rfl,mt,rfl⟩:=hrel;by_cases ab:k<d.size
  .refine' ZWh;by_cases bv:b.toNat<48
   .have HO:Hid (x_ d true=false):=ZGn
    refine' eE;have nE:(b.toNat:Int)<48:=ZA
    exact W_
   by_cases dq:57<b.toNat
   .have HO:Hid (x_ d true=false):=ZGn
    exact ZWi
   exact ZWj
  .refine' ZWk;have HO:Hid (x_ d true=true):=ZWl
   have HV:Hid (N5 d true= -(Fe d.data.toList:Int)):=ZWm
   exact ZWn
theorem AaZ(t w)(h0:t.size=0):
 ya 89 #[.string t] w (.tuple #[.int .i64 0,.bool false]):=by refine' Od;refine' ZQ;exact ZW
theorem ZET(t w)(hz:t.size<=maxLen):
 ya 89 #[.string t] w (.tuple #[.int .i64 (Hp t),.bool (Ic t)]):=by
 unfold Hp Ic;by_cases h0:t.size=0
 .have hn:=AtP h0
  have ho:x_ (Mj t) (Kn t)=false:=by rw[AmA hn];unfold x_;simp[h0]
  rw[ZBA ho,ho];exact AaZ t w h0
 .cases hn:Kn t
  .rw[AmA hn];exact AhS t w hz h0 hn
  .rw[BaM hn];exact AfZ t w hz h0 hn
theorem Gh(t w)(hz:t.size<=maxLen):
 ya 93 #[.string t] w (.int .i64 (Am t)):=by
 have HN:=aA (fun W=>ZET t W hz);have HF:Hid (Am t=if Ic t then Hp t else -1):=rfl;generalize Am t=F at *;generalize Hp t=n at *;cases ho:Ic t
 exact ZWo;exact ZWo
theorem Fa(a w):
 ya 43 #[.bool false,.string a] w (.string ⟨#[110,111,10]⟩):=by
 go_enter func43,ntmps43
 refine' ZI;exact ZW
theorem D4(a w)(hz:a.size<=4000000000):
 ya 43 #[.bool true,.string a] w (.string (a++⟨#[10]⟩)):=by
 have h1:¬9223372036854775807<a.size+1:=ZA
 go_enter func43,ntmps43
 refine' ZI;exact ZW
theorem Lt(o a w)(hz:a.size<=4000000000)(hp:o=true->1<=a.size):
 ya 43 #[.bool o,.string a] w (.string (Em (if o then a else⟨#[]⟩))):=by
 cases o
 .rw[aM ZF,Jw]
  exact Fa a w
 .rw[aQ rfl,Fh (hp rfl)]
  exact D4 a w hz
theorem ZAi(ps)(h:∀p∈ps,1<=p.size):(if(Cg ps y7).size=0 then⟨#[45]⟩else Cg ps y7)=Cb ps:=by
 unfold Cb;by_cases h0:ps.length=0
 .have:ps=[]:=List.length_eq_zero_iff.1 h0
  subst this;rw[Km];rfl
 .have:=Uk (sep:=y7) h0 h
  rw[aM ZA,aM h0]
theorem Fn(v ps w)(hv:R_ w v ps)(hp:∀p∈ps,1<=p.size/\p.size<=1000)(hl:ps.length<=1000000000):
 ya 31 #[v] w (.string (Cb ps)):=by
 refine' Tu;refine' YS;have HJ:=aA (ZAi ps fun p h=>(hp p h).1);have me:Hid (∀k,(Cg (ps.take k) y7).size<=ps.length*1001):=fun k=>
  aI (Dw (ps.take k) y7 1000 fun p h=>(hp p (eA h)).2) (bY zF (aC _))
 clear hp;go_enter func31,ntmps31
 refine' ZC;go_loop[3,4] (fun t i=>∃k:Nat,k<=ps.length/\i=.int .i64 k/\t=.string (Cg (ps.take k) y7)) (fun _ i=>ps.length - (intOf i).toNat)
 case atStart=>exact⟨0,aN _,rfl,by rw[dH,Km]⟩
 case round=>
  refine' Wg;by_cases ab:k<ps.length
  .obtain⟨b,o,rfl,hb,pN,y1⟩:=rdA.strU HR.out k ab
   have y1:=y1 w (aF _ _);have nZ:=(HP.out _ (aS ab)).2;have cm:=me.out k;have nt:Hid (ps.take (k+1)=ps.take k++[ps[k]]):=aJ ab;have tj:Hid (0<k->ps.take k≠[]):=fun h e=>ZKM
   have HJS:Hid (0<k->Cg (ps.take (k+1)) y7=Cg (ps.take k) y7++y7++ps[k]):=fun h=>by{rw[nt.out,G5 _ _ _ (tj.out h)]};have HJ0:Hid (k=0->Cg (ps.take (k+1)) y7=ps[k]):=fun h=>by{subst h;rw[nt.out,dH,bT,Kp]};have kA:Hid (k=0->Cg (ps.take k) y7=⟨#[]⟩):=fun h=>by{subst h;rw[dH,Km]};obtain⟨P,hP⟩:∃P,Cg (ps.take k) y7=P:=⟨_,rfl⟩;obtain⟨N,hN⟩:∃P,Cg (ps.take (k+1)) y7=P:=⟨_,rfl⟩;rw[hP]at cm HJS kA⊢;rw[hN]at HJS HJ0;have HN:=aA hN;generalize ps[k]=x at *;clear hP hN;refine' Zv;refine' zQ;refine' ZWp;have so:¬9223372036854775807<P.size+x.size:=ZA
   by_cases fp:k=0
   .subst fp
    simp only[fG,bV,dF,iT]at y1;have mJ:Hid (P++x=N):=by{show _=_;rw[kA.out rfl,HJ0.out rfl];apply Cv;simp};clear bd et;have bd:(0:Int)<(ps.length:Int):=ZA
    refine' ZC;go_round
    case rel=>exact⟨0+1,ZA,ZJ,ZGo⟩
    case measure=>exact ZK
   .have lv:(0:Int)<(k:Int):=ZA
    have mJ:Hid (P++⟨#[32]⟩++x=N):=(HJS.out ZA).symm
    refine' ZC;go_round
    case rel=>exact⟨k+1,ZA,ZJ,ZGo⟩
    case measure=>exact ZK
  .have HE:Hid (ps.take k=ps):=bB ZA
   rw[HE.out];generalize Cg ps y7=P at *;refine' ZGp;rw[HJ.out]at HD
   refine' ZC;refine(HD.out _).mono ?_;refine' Tn;exact ZW
attribute [local go_sem] Oper.semAt_some
theorem ApJ{c}:∀{s:List UInt8},c∉s->Lib.indexByte s c= -1
 |[],_=>rfl
 |b::s,h=>by refine' ZGM;rw[ZCn,aM hb,ApJ (fun m=>h (bN _ m))];rfl
theorem BbK{a b:UInt8}:((a.toNat:Int)=(b.toNat:Int))↔a=b:=by
 constructor
 .intro h
  exact UInt8.toNat_inj.1 ZA
 .intro h;rw[h]
theorem AhM{c}{s:List UInt8}{k}(hk:k<s.length)(h:c∉s.take k)(ay:s[k]≠c):c∉s.take (k+1):=by
 rw[aJ hk,eJ];rintro(m|m)
 .exact h m
 .simp at m;exact ay m.symm
theorem AxB{c s}{k:Nat}(hk:k<s.length)(h:c∉s.take k)(he:s[k]=c):Lib.indexByte s c=(k:Int):=by
 have h1:s=s.take k++c::s.drop (k+1):=by
  conv=>lhs;rw[<-dQ k s]
  rw[cU hk,he]
 have h2:=J_ (s.drop (k+1)) h;rw[<-h1,bJ]at h2;rw[h2];congr 1;omega
theorem Nq(s c w)(hs:s.size<=maxLen):
 ya 10 #[.string s,.int .u8 c.toNat] w (.int .i64 (Lib.indexByte s.data.toList c)):=by
 unfold maxLen at hs;go_enter func10,ntmps10;go_wp2
 go_loop[5] (fun i=>∃k:Nat,k<=s.size/\i=.int .i64 k/\c∉s.data.toList.take k) (fun i=>s.size - (intOf i).toNat)
 case atStart=>exact⟨0,aN _,rfl,ZF⟩
 case round=>
  refine' Se;by_cases ab:k<s.size
  .have dz:k<s.data.toList.length:=ZKA
   have HN:=aA (AhM dz hd);have HH:=aA (AxB dz hd);clear hd;go_wp2
   .rename_i h1 _
    have he:=aA (HH.out (BbK.1 (beq_iff_eq.1 h1)));clear h1;go_ret;exact⟨Bo he.out.symm,rfl⟩
   .rename_i h1
    have hN:=aA (HN.out (fun e=>by have h2:s[k]=c:=e;rw[h2]at h1;simp at h1))
    clear h1
    go_round
    case rel=>exact⟨k+1,ZA,ZJ,hN.out⟩
    case measure=>exact ZK
  .rw[bB ZH]at hd
   have HD:=aA (ApJ hd);clear hd;refine' ZO;exact⟨Bo HD.out.symm,rfl⟩
def tl(c:UInt8)(s:Y_)(f k:Nat):List Y_:=if k<=s.size then Aj c (s.extract f s.size)else []
theorem Ar7(s:Y_)(f k):(s.extract f k).data.toList=(s.data.toList.drop f).take (k - f):=by refine' Wd;simp[List.extract]
theorem BcJ{c s f k}(hf:f<=k)(hk:k<s.size)(hn:c∉(s.data.toList.drop f).take (k - f))(he:s[k]=c):tl c s f k=s.extract f k::tl c s (k+1) (k+1):=by
 have gj:k<s.data.toList.length:=zP
 unfold tl;rw[aQ ZA,aQ ZA];unfold Aj;have h1:s.data.toList.drop f=(s.data.toList.drop f).take (k - f)++c::s.data.toList.drop (k+1):=by
  conv=>lhs;rw[<-dQ (k - f) (s.data.toList.drop f)]
  rw[List.drop_drop,show f+(k - f)=k by omega,cU gj,show s.data.toList[k]=c from he]
 rw[J3,J3,h1,Kf _ hn,cD]
 congr 1
 refine Cv ?_;rw[Ar7]
theorem Bc5{c s f}(hn:c∉(s.data.toList.drop f).take (s.size - f)):tl c s f s.size=s.extract f s.size::tl c s (s.size+1) (s.size+1):=by
 have h0:(s.data.toList.drop f).take (s.size - f)=s.data.toList.drop f:=bB ZF;rw[h0]at hn;unfold tl;rw[aQ (aC _),aM ZA];unfold Aj;rw[J3,ZCx hn,cD,gE]
 congr 1
 refine Cv ?_;rw[J3]
theorem BaO(c s):tl c s 0 0=Aj c s:=by
 unfold tl;rw[aQ (aN _)]
 congr 1
 exact Cv (by rw[J3];rfl)
theorem BaC{c s f k}(hk:k<s.size):tl c s f k=tl c s f (k+1):=by unfold tl;rw[aQ ZA,aQ ZA]
theorem AqW{c}{s:Y_}{f k}(hf:f<=k)(hk:k<s.size)(hn:c∉(s.data.toList.drop f).take (k - f))(he:s[k]≠c):c∉(s.data.toList.drop f).take (k+1 - f):=by
 have gj:k<s.data.toList.length:=zP
 rw[show k+1 - f=k - f+1 by omega];refine AhM (by rw[dV];omega) hn ?_;rw[iJ];simp only[show f+(k - f)=k by omega];exact he
theorem ZBt(c s):(Aj c s).length<=s.size+1:=by
 have h:∀l:List UInt8,(s_ c l).length<=l.length+1:=by
  intro l
  induction l with
  |nil=>exact iE
  |cons b l ih=>
   by_cases hb:b=c
   .subst hb
    rw[Yw,dA,dA];omega
   .obtain⟨p,ps,hp⟩:=BdY (Vx c l)
    rw[Nk hb hp];rw[hp]at ih;simp only[dA]at ih⊢;omega
 unfold Aj;refine' ze;exact h _
theorem I9(s c w)(hs:s.size<=1000000000000):
 Calls Tryz.prog 9 #[.string s,.int .u8 c.toNat] w fun e w'=>∃v,e=.returned v/\own (α:=Y_) 9 w.heap.size w' v (Aj c s)/\B_ w w':=by
 refine' zc;have mg:=aA (ZBt c s);go_enter func9,ntmps9;go_wp2;refine' ZOh;have lA:B_ w (w.alloc (aB #[] 9)):=(aF _ _).alloc (aC _) _;generalize w.alloc (aB #[] 9)=wA at *
 go_loopw[5,6,7] (fun v f i wr=>∃(k fr:Nat) (xs:List Y_),k<=s.size+1/\fr<=k/\i=.int .i64 k/\f=.int .i64 fr/\own 9 w.heap.size wr v xs/\xs++tl c s fr k=Aj c s/\(k<=s.size->c∉(s.data.toList.drop fr).take (k - fr))/\B_ w wr) (fun _ _ i _=>s.size+1 - (intOf i).toNat)
 case atStart=>exact⟨0,0,[],aN _,aC _,rfl,rfl,pC,by rw[BaO];rfl,fun _=>ZF,lA⟩
 case round=>
  obtain⟨k,fr,xs,hk,xH,rfl,rfl,ho,wR,rM,lr⟩:=hrel;refine' zO;clear pC lA;have kw:xs.length<=s.size+1:=by have:=aU List.length wR;rw[aT]at this;exact ZHe
  refine' zY;have HC:=aA wR;have hz:=lr.size;obtain⟨A,m,cp,rfl,hm,_,_,_⟩:=ho.rd;subst hm;have FO:(s.extract fr k).size<=maxLen:=by rw[dB];exact ZN
  by_cases qM:k=s.size+1
  .have HE:Hid (xs=Aj c s):=by show _=_;rw[<-wR,qM];unfold tl;rw[aM ZA];simp
   clear rM wR ho;have qT:¬((k:Int)<=(s.size:Int)):=ZA
   refine' ZO;exact⟨_,rfl,HE.out▸HO.out,lr⟩
  .have hks:k<=s.size:=ZA
   have qT:(k:Int)<=(s.size:Int):=ZA
   have HN:=aA (rM hks);clear qM rM wR ho;have hfi:(fr:Int)<=(k:Int):=ZA
   have lk:(0:Int)<=(fr:Int):=ZA
   by_cases gq:k=s.size
   .have HT:Hid ((xs++[s.extract fr k])++tl c s (k+1) (k+1)=Aj c s):=by{show _=_;have hN:=HN.out;rw[gq]at hN;have:=Bc5 hN;rw[cZ,<-HC.out,gq,this];rfl};have hkb:((k:Int)==(s.size:Int))=true:=beq_iff_eq.2 ZA;have ob:=aA gq;clear gq
    refine' ZUE;go_roundw
    case rel=>exact⟨k+1,k+1,_,ZA,aC _,ZJ,ZJ,jx.out,HT.out,fun h=>by have:=ob.out;omega,lr.trans ju⟩
    case measure=>exact ZK
   .have hkb:((k:Int)==(s.size:Int))=false:=beq_eq_false_iff_ne.2 ZA
    have ab:k<s.size:=ZA
    by_cases hc:s[k]=c
    .have hcb:((s[k].toNat:Int)==(c.toNat:Int))=true:=by{rw[hc];simp};have HT:Hid ((xs++[s.extract fr k])++tl c s (k+1) (k+1)=Aj c s):=by{show _=_;rw[cZ,<-HC.out,BcJ xH ab HN.out hc];rfl};have HD:=aA hc;clear hc
     refine' ZUE;go_roundw
     case rel=>exact⟨k+1,k+1,_,ZA,aC _,ZJ,ZJ,jx.out,HT.out,fun _=>ZF,lr.trans ju⟩
     case measure=>exact ZK
    .have hcb:((s[k].toNat:Int)==(c.toNat:Int))=false:=beq_eq_false_iff_ne.2 fun e=>hc (BbK.1 e)
     have HD:=aA (AqW xH ab HN.out hc);have HT:Hid (xs++tl c s fr (k+1)=Aj c s):=by{show _=_;rw[<-BaC ab];exact HC.out};clear hc;go_wp2
     go_roundw
     case rel=>exact⟨k+1,fr,xs,ZA,ZA,ZJ,rfl,HO.out,HT.out,fun _=>HD.out,lr⟩
     case measure=>exact ZK
def Wv(cs:List Y_)(k:Nat):Y_:=if k=0 then⟨#[]⟩else y7++Cg (cs.take k) y7
theorem Av4(cs):Wv cs 0=⟨#[]⟩:=rfl
theorem Aw0{cs k}(hk:k<cs.length):Wv cs (k+1)=Wv cs k++y7++cs[k]:=by
 unfold Wv;rw[aM ZA,aJ hk];by_cases h0:k=0
 .subst h0
  rw[aQ rfl,dH,bT,Kp];apply Cv;simp
 .rw[aM h0,G5]
  .apply Cv
   simp
  .intro e
   exact ZKM
theorem AtU{p}(h:Bq p=true)(k):(Wv p.order k).size<=481:=by
 unfold Wv
 split
 .exact zC
 .have h1:=Dw (p.order.take k) y7 7 fun c hc=>eS (Cp (AvY h c (eA hc))).1
  have h2:=(De.1 h).2.1.2;have h3:(p.order.take k).length*(7+y7.size)<=60*8:=bY zF (aC _);refine' zo;show 1+_<=_;omega
theorem Ax5{p}(h:Bq p=true):Cl p.bins.toNat++⟨#[32]⟩++Cl p.passes.toNat++Wv p.order p.order.length=E7 p:=by have h1:=(De.1 h).2.1.1;rw[Ov h];unfold Wv;rw[aM ZA,bA];refine' ZK3;rfl
theorem Lc(v p w)(hv:rdP w w.heap.size v p):
 C_ 26 #[v] w (.string (E7 p)):=by
 refine' ZRI;have mS:=aA (Fo _ p w0 (hv.on j5));refine' ZRJ;have HW:=aA ac;refine' ZJJ;obtain⟨R,ak⟩:∃R,Hid (E7 p=R):=⟨_,rfl⟩;rw[ak.out];go_enter func26,ntmps26
 refine' Ql;cases hp:Bq p
 .refine' ZU;have HF:Hid (R=⟨#[]⟩):=by show _=_;rw[<-ak.out,AhB hp]
  refine' ZFs;refine' ZI;exact⟨B8 HF.out.symm,dc.out⟩
 .refine' ZJK;have kg:=aA (AtU hp);have tz:=aA (Ax5 hp);have HF:Hid (Cl p.bins.toNat++⟨#[32]⟩++Cl p.passes.toNat++Wv p.order p.order.length=R):=by show _=_;rw[<-ak.out];exact tz.out
  obtain⟨⟨x1,x2,x3,x4⟩,⟨x5,x6⟩,_⟩:=De.1 hp;obtain⟨bi,pa,od⟩:=p;simp only at x1 x2 x3 x4 x5 x6 q0 q1 q2 bv ga HF kg sP⊢;refine' ZRK;have EV:Hid (∀W,C_ 28 #[.int .i64 (bi:Int)] W (.string (Cl bi))):=fun W=>Hy bi W ZA
  have IN:Hid (∀W,C_ 28 #[.int .i64 (pa:Int)] W (.string (Cl pa))):=fun W=>Hy pa W ZA
  refine' ZRL;have uB:Hid (Cl bi++⟨#[32]⟩++Cl pa++Wv od od.length=R):=HF.out;generalize Cl bi=B1 at *;generalize Cl pa=B2 at *;refine' ZRM;refine' ZFt;refine' ZRN;refine' ZC;go_region_held3 (fun W=>B_ w1 W) (first|exact ld|exact k2|exact k1|fail) (first|(go_at_call 28;first|((with_reducible refine(EV.out _).mono ?_);refine' Zy;have k1:=Aa ld z1)|((with_reducible refine(IN.out _).mono ?_);refine' gY;have k2:=Aa k1 z2)|fail)|fail)
  all_goals
   have JC:=aA k2;have q3:=q2 _ JC.out;have K3:=aA (Aa dc.out JC.out);have hr:=sP.out _ K3.out;obtain⟨A',n',c',EF,j9,gp,xw,cj⟩:=hr;injection EF with e1 e2 e3;subst e1 e2 e3;have ak:=aA cj;have RN:(B1++(⟨#[32]⟩:Y_)++B2).size<=9:=Xt
   refine' ZC;generalize B1++(⟨#[32]⟩:Y_)++B2=HD at *
   go_loop[3,4] (fun t i=>∃k:Nat,k<=od.length/\i=.int .i64 k/\t=.string (HD++Wv od k)) (fun _ i=>od.length - (intOf i).toNat)
   case atStart=>exact⟨0,aN _,rfl,by rw[Av4];congr 1;apply Cv;simp⟩
   case round=>
    refine' Wg;by_cases ab:k<od.length
    .obtain⟨b,o,rfl,hb,pN,y1⟩:=rdA.strU ak.out k ab
     have y1:=y1 _ (aF _ _);have EW:=aA (Aw0 ab);have nZ:=kg.out k;have EX:=kg.out (k+1);rw[EW.out]at EX;have qD:(od[k]).size<=481:=by{rw[aY]at EX;omega};obtain⟨P,hP⟩:∃P,HD++Wv od k=P:=⟨_,rfl⟩;have mJ:Hid (P++⟨#[32]⟩++od[k]=HD++Wv od (k+1)):=by{show _=_;rw[EW.out,<-hP];refine' ZK3;rfl};have hPz:P.size<=490:=by{rw[<-hP,aY];omega};rw[hP];obtain⟨X,hX⟩:∃X,HD++Wv od (k+1)=X:=⟨_,rfl⟩;rw[hX]at mJ;have HX:=aA hX;generalize od[k]=x at *;refine' ZWp;have bd:(k:Int)<(od.length:Int):=ZA
     refine' zQ;refine' ZC;go_round
     case rel=>exact⟨k+1,ZA,ZJ,by rw[HX.out];exact aU aG mJ.out⟩
     case measure=>exact ZK
    .have HE:Hid (k=od.length):=by{show _=_;omega};have mJ:Hid (HD++Wv od k=R):=by{show _=_;rw[HE.out];exact uB.out};generalize HD++Wv od k=P at *
     refine' ZI;exact⟨B8 mJ.out,K3.out⟩
theorem Ai7(v p c w)(hv:rdP w w.heap.size v p):
 C_ 103 #[v,.string c] w (.int .i64 (Hl p c)):=by
 obtain⟨A,cp,rfl⟩:=Gx hv;obtain⟨w0,ac⟩:∃u,u=w.alloc (aB #[.int .i64 p.bins,.int .i64 p.passes,.slice A p.order.length cp] 30):=⟨_,rfl⟩;have br:w0.heap[w.heap.size]? =some (.cells #[.int .i64 p.bins,.int .i64 p.passes,.slice A p.order.length cp] 30 (0,0)):=ZK4
 have j5:B_ w w0:=by rw[ac];exact Vj
 have mS:=aA (Fo _ p w0 (hv.on j5));have sP:Hid (∀W,B_ w W->R_ W (.slice A p.order.length cp) p.order):=fun W hW=>ZW3
 have qe:Hid (Hl p c=if Bq p then y6 p.order c else -1):=rfl;have HW:=aA ac;refine' ZJJ;generalize Hl p c=R at *;go_enter func103,ntmps103
 refine' Ql;cases hp:Bq p
 .refine' ZU;refine' ZFs;rw[hp]at qe;refine' ZI;exact⟨Bo qe.out.symm,dc.out⟩
 .refine' ZJK;rw[hp]at qe;have RH:=aA (Lw _ p.order c w1 (sP.out w1 dc.out));obtain⟨c0,c1,c2,_,_,_⟩:=B7 bv;generalize y6 p.order c=n at *
  refine' ZC;refine RH.out.mono ?_;refine' Tn;exact⟨Bo qe.out.symm,dc.out⟩
def K_(n:Nat)(v:Value):Prop:=v=.slice none 0 0\/∃g o m c,v=.slice (some ⟨g,o,none⟩) m c/\n<=g
theorem ZC8(t w)(ht:t.size<=1000000):
 Calls Tryz.prog 42 #[.string t] w fun e w'=>∃vo,e=.returned (.tuple #[.agg #[.int .i64 (Ey t).bins,.int .i64 (Ey t).passes,vo],.bool (Ge t)])/\R_ w' vo (Ey t).order/\B_ w w'/\K_ w.heap.size vo:=by
 have XH:Hid (3<=(Aj 32 t).length->zU (E7 (I8 t)) t=Ge t):=BaQ;have ca:Hid (¬3<=(Aj 32 t).length->Ge t=false):=fun h=>by unfold Ge;rw[aP h];simp
 refine' ZRO;have XI:Hid (∀W:World,Calls Tryz.prog 9 #[.string t,.int .u8 32] W fun e w'=>∃v,e=.returned v/\own (α:=Y_) 9 W.heap.size w' v (Aj 32 t)/\B_ W w'):=fun W=>I9 t 32 W ZA
 refine' ZRP;have qY:=aA (Pj t);refine' ZRQ;go_enter func42,ntmps42
 refine' Zx;refine(XI.out wA).mono ?_;rintro e w1 ⟨v,rfl,o1,b1⟩;refine' ZRR;rcases o1.form with⟨_,vT⟩|⟨g,cc,rfl,WI,bz,uw,bf⟩
 .exact absurd vT qY.out
 by_cases h3:3<=ps.length
 case neg=>
  have LO:(ps.length:Int)<3:=ZA
  have HQ:Hid (Ge t=false):=ca.out h3;refine' Q_;exact ZW4
 have sZ:Hid (w.heap.size<=g):=Zi
 refine' ZJM;have NI:=aA (XH.out h3);refine' ZRS;rw[g0,g1]at qt;refine' ZRT;have kG:¬cc=2:=ZA
 have sP:Hid (∀W,own 9 wA.heap.size W (.slice (P_ g) ps.length cc) ps->R_ W (.slice (some ⟨g,2,none⟩) (ps.length - 2) (cc - 2)) (ps.drop 2)):=fun W h=>by have:=h.rd.drop (k:=2) ZA;rw[aM kG]at this;exact this
 refine' ZRU;have tj:=aA (fun W=>ZET p0 W z0);have qW:=aA (fun W=>ZET p1 W z1);refine' ZRV;have WA:(1:Int)<(ps.length:Int):=ZA
 have h2i:(2:Int)<=(ps.length:Int):=ZA
 refine' ZFu;have LQ:=bv;obtain⟨u2,rx⟩:∃u,u=w1.alloc (aB #[.int .i64 v0,.int .i64 v1,.slice (some ⟨g,2,none⟩) (ps.length - 2) (cc - 2)] 30):=⟨_,rfl⟩;have sF:u2.heap[w1.heap.size]? =some (.cells #[.int .i64 v0,.int .i64 v1,.slice (some ⟨g,2,none⟩) (ps.length - 2) (cc - 2)] 30 (0,0)):=by rw[rx];exact bC w1 _
 refine' ZRX;have vz:B_ w u2:=by rw[rx];exact mF.alloc mF.size _
 have ap:u2.heap.size=w1.heap.size+1:=by rw[rx];simp
 have kn:own 9 wA.heap.size u2 (.slice (P_ g) ps.length cc) ps:=by rw[rx];exact mH.out.alloc _
 have HP:Hid (rdP u2 u2.heap.size (.agg #[.int .i64 v0,.int .i64 v1,.slice (some ⟨g,2,none⟩) (ps.length - 2) (cc - 2)]) (I8 t)):=by show rdP _ _ _ _;rw[qt.out];exact⟨_,rfl,(show Bj v0 by exact ZS),(show Bj v1 by exact ZS),sP.out _ kn⟩
 have yy:=aA rx;have uA:=aA (Lc _ _ u2 HP.out);have im:=aA kn;obtain⟨c0,c1,pL,f0,f1,f2⟩:=B7 sF;obtain⟨F,hF⟩:∃F,E7 (I8 t)=F:=⟨_,rfl⟩;rw[hF]at uA NI;refine' ZC;rw[<-yy.out];refine uA.out.mono ?_;cases jp:zU F t
 .refine' zB;rw[jp]at NI;have sH:(F.toList==t.toList)=false:=jp;refine' ZFv;refine' ZFw;have HQ:Hid (Ge t=false):=NI.out.symm;refine' ZJN;refine' ZFx;exact ZW4
 .refine' zB;rw[jp]at NI;have sH:(F.toList==t.toList)=true:=jp;refine' ZFv;have yi:=(b3.block w1.heap.size ZA).trans sF;refine' ZFw;have HQ:Hid (Ge t=true):=NI.out.symm;have HR:=aA (AhP HQ.out);have ez:=aA (im.out.below b3);obtain⟨c0,c1,pL,f0,f1,f2⟩:=B7 yi;refine' ZFx;refine' Q9;refine⟨.slice (some ⟨g,2,none⟩) (ps.length - 2) (cc - 2),ZRY,?_,Ai (Ai (Ai mU.out (aC _) _) (aC _) _) (aC _) _,.inr ⟨g,2,_,_,rfl,sZ.out⟩⟩;rw[HR.out,qt.out];exact sP.out _ (Bd (Bd (Bd ez.out ⟨w.heap.size,0,none⟩ _ ZK5) ⟨w.heap.size,1,none⟩ _ ZK5) ⟨w.heap.size,2,none⟩ _ ZK5)
def BeP(g p:Nat)(w:World)(e:Ending)(w':World):Prop:=
 ∃(s:Y_) (p':Nat),e=.returned (.string s)/\s.size<=3000/\rdr w' g p'/\p'<=p+2000/\w.grownBy w' (some g)
theorem Sy(g p)(xs:List Y_)(w)(hr:rdr w g p)(hp:p<=100000000000)(h0:0<xs.length)(hl:xs.length<=100)(hx:∀x∈xs,x.size<=20):
 Calls Tryz.prog 22 #[.pointer (P_ g),.slice (P_ w.heap.size) xs.length xs.length] (w.alloc (aB (xs.map aG).toArray 9)) fun e w'=>∃x:Y_,e=.returned (.string x)/\x.size<=20/\rdr w' g (p+1)/\w.grownBy w' (some g):=by have ab:=hr.lt;refine(Vn 9 g p _ xs _ (hr.alloc _) ZA (X_ 9 (g+1) w xs (fun x h=>by have:=hx x h;exact ZN) ZN ab) h0).mono ?_;rintro e w' ⟨x,hm,rfl,_,tO,hg⟩;exact⟨x,rfl,hx x hm,tO,vU (cQ w _ _) hg⟩
theorem BeJ(g p w)(hr:rdr w g p)(hp:p<=1000000):
 Calls Tryz.prog 20 #[.pointer (P_ g)] w (BeP g p w):=by
 have ab:=hr.lt;go_enter func20,ntmps20
 refine' ZC;refine(T7 g p _ hr ZA).mono ?_;rintro e w1 ⟨c,rfl,ym,ew,ey⟩;refine' ZC;refine(p_ g (p+1) 5 _ ew ZA ZS).mono ?_;rintro e w2 ⟨y,rfl,hy,fh,jl⟩;refine' So;obtain⟨M,rfl⟩:=aK y0;replace jl:=vU ey jl;refine' ZC;refine(Vv (d:=M) ZA).mono ?_;rintro e wn ⟨rfl,bn⟩;have mQ:(xx M).size=1:=rfl;generalize xx M=n at *;have hrn:=fh.below bn;have CC:=Vo jl bn;refine' ZC;refine(p_ g (p+1+1) 10 _ hrn ZA ZS).mono ?_;rintro e w3 ⟨z,rfl,hz,fy,er⟩;replace er:=vU CC er;by_cases c0:z=0
 .have d0:(z==0)=true:=by simp[c0]
  refine' ZC;refine(BeI g (p+3) _ fy ZA).mono ?_;rintro e w4 ⟨v4,xs,p4,rfl,o4,_,_,ik,hp4,a6⟩;refine' ZZU;refine(D6 _ xs _ R4.out).mono ?_;refine' Y0;have hz:=Du xs;refine' ZHN;generalize Co xs=F at *;refine' ZI;exact⟨_,p4,rfl,by refine' zo;show 8+_<=_;omega,ex,ZA,sZ.out⟩
 have d0:(z==0)=false:=by simp[c0]
 by_cases c1:z=1
 .have d1:(z==1)=true:=N0
  refine' ZC;refine(BeS g (p+3) _ fy ZA).mono ?_;rintro e w4 ⟨v4,d,p4,rfl,⟨vo,vf,vh,rfl,i1,i2,i3,oo,of,oh,_⟩,_,_,_,_,ik,hp4,a6⟩;have R4:Hid (rdP w4 w4.heap.size (.agg #[.int .i64 d.plan.bins,.int .i64 d.plan.passes,vo]) d.plan):=⟨vo,rfl,i1,i2,oo.rd⟩;obtain⟨Ao,no,co,rfl, -, -, -, -⟩:=oo.rd;obtain⟨Af,nf,cf,rfl, -, -, -, -⟩:=of.rd;obtain⟨Ah,nh,ch,rfl, -, -, -, -⟩:=oh.rd;have ML:∀W:World,(Instr.field 33 (.agg #[.int .i64 d.plan.bins,.int .i64 d.plan.passes,.slice Ao no co,.slice Af nf cf,.slice Ah nh ch,.int .i64 d.size]) 0).run Tryz.prog W=.ok (.agg #[.int .i64 d.plan.bins,.int .i64 d.plan.passes,.slice Ao no co]) W:=fun _=>ZB
  refine' ZLv;refine(Lc _ d.plan _ R4.out).mono ?_;refine' Y0;have hz:=ZAg d.plan;refine' ZHN;generalize E7 d.plan=F at *;refine' ZI;exact⟨_,p4,rfl,ZZV,ex,ZA,sZ.out⟩
 have d1:(z==1)=false:=N0
 by_cases c2:z=2
 .have d2:(z==2)=true:=by simp[c2]
  refine' ZC;refine(BdU g (p+3) _ fy ZA).mono ?_;rintro e w4 ⟨v4,fs,p4,rfl,o4,_,_,ik,hp4,a6⟩;refine' ZZU;refine(Et _ fs _ R4.out).mono ?_;refine' Y0;have hz:=Pc fs;refine' ZHN;generalize C5 fs=F at *;refine' ZI;exact⟨_,p4,rfl,by refine' zo;show 9+_<=_;omega,ex,ZA,sZ.out⟩
 have d2:(z==2)=false:=by simp[c2]
 by_cases c3:z=3
 .have d3:(z==3)=true:=by simp[c3]
  refine' ZC;refine(BeR g (p+3) _ fy ZA).mono ?_;rintro e w4 ⟨v4,net,os,p4,rfl,wG,_,_,_,_,ik,hp4,a6⟩;have R4:=aA wG.rd;obtain⟨A4,m4,c4,t8,PY,_,_,_⟩:=wG.rd;subst PY t8;refine' ZLv;refine(AmJ _ net _ R4.out).mono ?_;refine' Y0;have hz:=AvJ net;refine' ZHN;generalize Mx net=F at *;refine' ZI;exact⟨_,p4,rfl,by refine' zo;show 4+_<=_;omega,ex,ZA,sZ.out⟩
 have d3:(z==3)=false:=by simp[c3]
 by_cases c4:z=4
 .have d4:(z==4)=true:=by simp[c4]
  refine' ZC;refine(Sy g (p+3) [⟨#[102,111,114,119,97,114,100,32]⟩,⟨#[102,111,114,119,97,114,100,32]⟩,⟨#[115,119,97,112,32]⟩] _ fy ZA ZE ZE ZE).mono ?_;refine' ZHO;refine' ZC;refine(T7 g (p+4) _ ik ZA).mono ?_;rintro e w5 ⟨c2,rfl,kG,ex,aj⟩;refine' ZLw;exact⟨_,p+5,rfl,by rw[aY,aY,aY];show _+_+1+_<=_;omega,ex,ZA,sZ.out⟩
 have d4:(z==4)=false:=by simp[c4]
 by_cases c5:z=5
 .have d5:(z==5)=true:=by simp[c5]
  refine' ZC;refine(Sy g (p+3) [⟨#[104,111,108,100,32]⟩,⟨#[115,116,97,121,32]⟩,⟨#[114,97,110,107,32]⟩,⟨#[114,101,115,111,108,118,101,32]⟩,⟨#[102,97,116,101,32]⟩,⟨#[98,97,114,115,32]⟩,⟨#[99,111,117,110,116,32]⟩] _ fy ZA ZE ZE ZE).mono ?_;exact ZZW
 have d5:(z==5)=false:=by simp[c5]
 by_cases c6:z=6
 .have d6:(z==6)=true:=by simp[c6]
  refine' ZC;refine(Sy g (p+3) [⟨#[115,105,122,101,32]⟩,⟨#[112,97,115,115,32]⟩,⟨#[108,111,97,100,115,32]⟩,⟨#[115,119,97,112,32,48,32]⟩] _ fy ZA ZE ZE ZE).mono ?_;exact ZZW
 have d6:(z==6)=false:=by simp[c6]
 by_cases c7:z=7
 .have d7:(z==7)=true:=by simp[c7]
  refine' ZC;refine(ApD c _ ZN).mono ?_;refine' YP;have hz:=AhA c;have ik:=fy.below b4;have HG:=aA (Vo er b4);generalize Kz c=F at *;refine' ZC;refine(Be7 g (p+3) F _ ik ZA ZA).mono ?_;rintro e w5 ⟨x,p5,rfl,pI,ex,uC,aj⟩;refine' ZLw;exact⟨_,p5,rfl,ZZV,ex,ZA,sZ.out⟩
 have d7:(z==7)=false:=by simp[c7]
 by_cases c8:z=8
 .have d8:(z==8)=true:=by simp[c8]
  refine' ZC;refine(Sy g (p+3) [⟨#[112,97,116,104,32,97,32]⟩,⟨#[112,97,116,104,32,98,32]⟩] _ fy ZA ZE ZE ZE).mono ?_;refine' ZHO;refine' ZC;refine(BdV g (p+4) _ ik ZA).mono ?_;rintro e w5 ⟨c2,rfl,kG,ex,aj⟩;have hc3:c2.size<=8:=by have:=kG.1;omega
  refine' ZLw;exact⟨_,p+7,rfl,V1,ex,ZA,sZ.out⟩
 have d8:(z==8)=false:=by simp[c8]
 refine' ZC;refine(Sy g (p+3) [⟨#[108,101,116,116,101,114,115]⟩,⟨#[115,111,114,116]⟩,⟨#[112,108,97,110]⟩,⟨#[115,101,113,117,101,110,99,101]⟩,⟨#[109,111,118,101,100]⟩,⟨#[102,111,114,119,97,114,100,115]⟩,⟨#[101,110,100,108,101,115,115]⟩,⟨#[100,105,114,101,99,116]⟩,⟨#[104,101,108,100]⟩,⟨#[100,97,121]⟩,⟨#[116,114,97,121,115]⟩,⟨#[110,101,116]⟩,⟨#[115,101,97,108]⟩,⟨#[119,104,97,116]⟩,⟨#[]⟩,⟨#[32,100,97,121]⟩,⟨#[100,97,121,32]⟩,⟨#[99,111,100,101,32,49,50,48,45,48,49,45,48,55]⟩,⟨#[99,111,100,101,32,120]⟩,⟨#[102,97,117,108,116,115,32,97]⟩,⟨#[102,97,117,108,116,115,32,122]⟩,⟨#[102,97,117,108,116,32,48,32,49,32,48]⟩,⟨#[102,97,117,108,116,32,48,32,56,32,49]⟩,⟨#[102,97,117,108,116,32,57,32,49,32,48]⟩,⟨#[102,97,117,108,116,32,48,32,120,32,48]⟩,⟨#[99,111,117,110,116,32,49,50,48,48]⟩,⟨#[99,111,117,110,116,32,120]⟩,⟨#[110,101,116,32,97,32,49,50,62,98]⟩,⟨#[108,101,116,116,101,114,115,32,45]⟩,⟨#[102,111,114,119,97,114,100,115,32,45]⟩,⟨#[112,108,97,110,32,52,32,49,32,120]⟩,⟨#[115,105,122,101,32,57,57]⟩] _ fy ZA ZE ZE ZE).mono ?_;refine' ZHO;refine' ZI;exact⟨_,p+4,rfl,ZA,ik,ZA,HG.out⟩
def BeY:Value->Nat
 |.string s=>s.size
 |_=>0
theorem BdD(v)(bs:List UInt8)(w)(hv:R_ w v bs):
 Calls Tryz.prog 7 #[v] w fun e w'=>∃t:Y_,e=.returned (.string t)/\t.size<=200000/\B_ w w':=by
 go_enter func7,ntmps7
 refine' ZC;refine(BeV _ bs _ hv).mono ?_;rintro e w0 ⟨g,rfl,hg,fi,b0⟩;have ab:=fi.lt;have B0:=aA b0;refine' ZC;refine(Zz 3 g 0 _ [8,5,12,3] _ (fi.alloc _) ZA (a_ 3 (g+1) w0 [8,5,12,3] Zg ZE ZA) ZE).mono ?_;rintro e w1 ⟨n,hn,rfl,ew,ey⟩;replace ey:w0.grownBy w1 (some g):=vU (cQ w0 _ _) ey;have B1:Hid (B_ w w1):=B0.out.trans (Pd ey B0.out.size (fun r e=>ZY));have lK:3<=n/\n<=12:=Rf
 obtain⟨gx,dy⟩:=lK;obtain⟨N,rfl⟩:=aK (show 0<=n by omega);refine' ZC;go_loopw[4,5] (fun t i wr=>∃(k:Nat) (F:Y_) (q:Nat),k<=N/\i=.int .i64 k/\t=.string F/\Hid (N<=F.size+k/\F.size+3001*k<=3001*N)/\rdr wr g q/\Hid (q+2000*k<=1+2000*N)/\Hid (B_ w wr)) (fun _ i _=>(intOf i).toNat)
 case atStart=>exact⟨N,_,1,aC _,rfl,rfl,by show _/\_;rw[show(⟨#[]⟩:Y_).size=0 from rfl];omega,ew,Zi,B1.out⟩
 case round=>
  obtain⟨k,F,q,hk,rfl,rfl,HF,ko,xl,BR⟩:=hrel;refine' zO;have hF2:F.size<=60000:=by have:=HF.out;omega
  have hq:q<=30000:=by have:=xl.out;omega
  by_cases fp:0<k
  .refine' ZC;refine(BeJ g q _ ko ZA).mono ?_;rintro e w3 ⟨s,q3,rfl,cm,fy,yi,er⟩;have B3:Hid (B_ w w3):=BR.out.trans (Pd er BR.out.size (fun r e=>ZY));have HZ:Hid (N<=(F++s++⟨#[10]⟩).size+(k - 1)/\(F++s++⟨#[10]⟩).size+3001*(k - 1)<=3001*N):=by show _/\_;have:=HF.out;rw[aY,aY,show(⟨#[10]⟩:Y_).size=1 from rfl];omega
   refine' ZC;go_roundw
   case rel=>exact⟨k - 1,_,q3,ZA,ZJ,rfl,HZ.out,fy,by show _<=_;have:=xl.out;omega,B3.out⟩
   case measure=>exact ZK
  .have SR:3<=F.size:=by have:=HF.out.1;omega
   have SS:F.size<=36012:=by{have:=HF.out.2;omega};refine' ZC;refine(p_ g q 60 _ ko ZA ZS).mono ?_;rintro e wp ⟨x,rfl,hx,sY,hgp⟩;have BP:Hid (B_ w wp):=BR.out.trans (Pd hgp BR.out.size (fun r e=>ZY));by_cases c0:x=0
   .have d0:(x==0)=true:=by{simp[c0]};refine' ZC;go_loopw[4,6] (fun t i wr=>∃(k:Nat) (F:Y_),k<=101/\i=.int .i64 k/\t=.string F/\3<=F.size/\F.size<=36012+5*k/\rdr wr g (q+1)/\Hid (B_ w wr)) (fun _ i _=>101 - (intOf i).toNat)
    case atStart=>exact⟨0,F,aN _,rfl,rfl,SR,SS,sY,BP.out⟩
    case round=>
     obtain⟨j,F,hj,rfl,rfl,SR,SS,fh,B2⟩:=hrel;refine' zO;by_cases EC:j<=100
     .refine' ZC;go_roundw
      case rel=>exact⟨j+1,_,ZA,ZJ,rfl,V1,ZZX,fh,B2.out⟩
      case measure=>exact ZK
     .exact ZZY
   have d0:(x==0)=false:=by{simp[c0]};by_cases c1:x=1
   .have d1:(x==1)=true:=N0
    refine' ZC;go_loopw[4] (fun t wr=>∃(F:Y_),t=.string F/\3<=F.size/\F.size<=36012/\rdr wr g (q+1)/\Hid (B_ w wr)) (fun t _=>20001 - BeY t)
    case atStart=>exact⟨F,rfl,SR,SS,sY,BP.out⟩
    case round=>
     obtain⟨F,rfl,SR,SS,fh,B2⟩:=hrel;refine' zO;by_cases EC:F.size<=20000
     .have ul:(F.size:Int)<=20000:=ZA
      refine' ZC;go_roundw
      case rel=>exact⟨_,rfl,V1,ZZX,fh,B2.out⟩
      case measure=> show 20001 - (F++_).size<20001 - F.size;refine' zo;show 20001 - (F.size+5)<_;omega
     .have ul:¬(F.size:Int)<=20000:=ZA
      exact ZZY
   have d1:(x==1)=false:=N0
   by_cases c2:x=2
   .have d2:(x==2)=true:=by{simp[c2]};have GP:aD.wrap ((F.size:Int) - 1)=(F.size:Int) - 1:=bG _ ZA;refine' ZI;exact⟨_,rfl,zL,BP.out⟩
   .have d2:(x==2)=false:=by{simp[c2]};obtain⟨pp,xd⟩:∃pp,q+1=pp:=⟨_,rfl⟩;rw[xd]at sY;obtain⟨w2,rfl⟩:∃w2:World,w2=wp:=⟨_,rfl⟩;have fh:=sY;have B2:=BP;exact ZZZ
theorem Tryz.sizeSt:(Tryz.prog.info? 36).map (·.size)=some 8:=ZB
theorem Ac{w:World}{g}{T:TypeId}{a b c d e f h i}(hh:w.heap[g]? =some (.cells #[a,b,c,d,e,f,h,i] T (0,0))):
 (w.cell? ⟨g,0,none⟩=some a/\w.cell? ⟨g,1,none⟩=some b/\w.cell? ⟨g,2,none⟩=some c/\w.cell? ⟨g,3,none⟩=some d/\w.cell? ⟨g,4,none⟩=some e/\w.cell? ⟨g,5,none⟩=some f/\w.cell? ⟨g,6,none⟩=some h/\w.cell? ⟨g,7,none⟩=some i)/\∀k,w.frozen? ⟨g,k,none⟩=false:=
 ⟨⟨Xn,Xn,Xn,Xn,Xn,Xn,Xn,Xn⟩,fun k=>by simp[World.frozen?,hh]⟩
theorem Cj{w:World}{g}{T:TypeId}{u0 u1 u2 u3 u4 u5 u6 u7 a b c d e f h i}(hh:w.heap[g]? =some (.cells #[u0,u1,u2,u3,u4,u5,u6,u7] T (0,0))):
 ((((((((w.setCell ⟨g,0,none⟩ a).setCell ⟨g,1,none⟩ b).setCell ⟨g,2,none⟩ c).setCell ⟨g,3,none⟩ d).setCell ⟨g,4,none⟩ e).setCell ⟨g,5,none⟩ f).setCell ⟨g,6,none⟩ h).setCell ⟨g,7,none⟩ i).heap[g]? =some (.cells #[a,b,c,d,e,f,h,i] T (0,0)):=by have h1:=Mu (Mu (Mu (Mu (Mu (Mu (Mu (Mu hh 0 a) 1 b) 2 c) 3 d) 4 e) 5 f) 6 h) 7 i;exact Xu
structure stS (w:World) (b2:Nat) (T:TypeId) (cs:Array Value) (W:World):Prop where
 lay:Below w.heap.size w W
 box:W.heap[b2]? =some (.cells cs T (0,0))
theorem stS.drew{w W b2}{T:TypeId}{cs}(h:stS w b2 T cs W):stS w b2 T cs W.drew:=⟨h.lay.drew,h.box⟩
theorem stS.lt{w W b2}{T:TypeId}{cs}(h:stS w b2 T cs W):b2<W.heap.size:=(Array.getElem?_eq_some_iff.1 h.box).1
theorem stS.alloc{w W b2}{T:TypeId}{cs}(h:stS w b2 T cs W)(o):stS w b2 T cs (W.alloc o):=
 ⟨h.lay.alloc h.lay.size o,(dL _ _ _ h.lt).trans h.box⟩
theorem stS.below{w W W' b2}{T:TypeId}{cs}(h:stS w b2 T cs W)(hb:B_ W W'):stS w b2 T cs W':=
 ⟨h.lay.trans (hb.mono h.lay.size),(hb.block b2 h.lt).trans h.box⟩
def Ct(R:Nat->Prop)(w W:World):Prop:=w.heap.size<=W.heap.size/\∀k,R k->k<w.heap.size->W.heap[k]? =w.heap[k]?
theorem Ct.refl(R:Nat->Prop)(w):Ct R w w:=⟨aC _,fun _ _ _=>rfl⟩
theorem Ct.below(R:Nat->Prop){w W}(h:B_ w W):Ct R w W:=⟨h.size,fun k _ hk=>h.block k hk⟩
theorem Ct.trans{R:Nat->Prop}{w W U}(h:Ct R w W)(h2:Ct R W U):Ct R w U:=⟨aI h.1 h2.1,fun k hr hk=>(h2.2 k hr (bR hk h.1)).trans (h.2 k hr hk)⟩
theorem Ct.mono{R R':Nat->Prop}{w W}(h:Ct R w W)(hr:∀k,k<w.heap.size->R' k->R k):Ct R' w W:=⟨h.1,fun k hk hl=>h.2 k (hr k hl hk) hl⟩
theorem Ct.set(R:Nat->Prop)(w b i u)(hb:¬R b):Ct R w (w.setCell ⟨b,i,none⟩ u):=
 ⟨ZF,fun k hr _=>bQ _ _ _ _ (fun e=>hb (by have e:k=b:=e;rw[<-e];exact hr))⟩
theorem Ct.cell{R:Nat->Prop}{w W}(h:Ct R w W){p}(hr:R p.block)(hl:p.block<w.heap.size):W.cell? p=w.cell? p:=by have:=h.2 _ hr hl;unfold World.cell?;rw[this]
def rdN{α:Type}[El α](R:Nat->Prop)(w:World)(v:Value)(xs:List α):Prop:=∀W,Ct R w W->R_ W v xs
section
variable{α:Type}[El α]{R R':Nat->Prop}{w W:World}{v:Value}{xs:List α}
theorem rdN.rd(h:rdN R w v xs):R_ w v xs:=h w (Ct.refl _ _)
theorem rdN.on(h:rdN R w v xs)(hk:Ct R w W):rdN R W v xs:=fun U hU=>h U (hk.trans hU)
theorem rdN.mono(h:rdN R w v xs)(hr:∀k,k<w.heap.size->R k->R' k):rdN R' w v xs:=fun U hU=>h U (hU.mono hr)
theorem rdN.of_rd(h:Go.Proofs.YtfadhdacjpmmeaaGreatDoor.rd w w.heap.size v xs)(hr:∀k,k<w.heap.size->R k):rdN R w v xs:=fun U hU=>
 (h.keep fun _ hp=>hU.cell (hr _ hp) hp).more hU.1
theorem rdN.of_block{α:Type}[Flat α]{xs:List α}{g o n c}(h:Go.Proofs.YtfadhdacjpmmeaaGreatDoor.rd w w.heap.size (.slice (some ⟨g,o,none⟩) n c) xs)(hr:R g):rdN R w (.slice (some ⟨g,o,none⟩) n c) xs:=fun U hU=>by obtain⟨A,n',c',e,h2,h3,h4,h5⟩:=h;cases e;refine⟨_,_,_,rfl,h2,h3,h4,fun k hk=>?_⟩;obtain⟨b,o',cs,hA,hb,he,hc⟩:=h5 k hk;cases hA;exact⟨_,_,cs,rfl,bR hb hU.1,Flat.free he,fun j u hu=>(hU.cell (p:=⟨g,_,none⟩) hr hb).trans (hc j u hu)⟩
theorem rdN.of_own{α:Type}[Flat α]{T:TypeId}{base}{xs:List α}(h:own T base w v xs)(hr:∀k,base<=k->R k):rdN R w v xs:=by
 rcases h.form with⟨rfl,rfl⟩|⟨g,c,rfl,hg,bz,hc,hm⟩
 .exact fun U hU=>Go.Proofs.YtfadhdacjpmmeaaGreatDoor.rd.nil_
 .exact rdN.of_block h.rd (hr g hg)
end
theorem rdN.of_fresh{α:Type}[Flat α]{R:Nat->Prop}{w v}{xs:List α}{n}(h:Go.Proofs.YtfadhdacjpmmeaaGreatDoor.rd w w.heap.size v xs)(hf:K_ n v)(hr:∀k,n<=k->R k):rdN R w v xs:=by
 rcases hf with rfl|⟨g,o,m,c,rfl,hg⟩
 .intro U _
  obtain⟨A,n',c',e,h2,h3,h4,h5⟩:=h;cases e;have:xs=[]:=List.length_eq_zero_iff.1 h2.symm;subst this;exact Go.Proofs.YtfadhdacjpmmeaaGreatDoor.rd.nil_
 .exact rdN.of_block h (hr g hg)
theorem rdN.of_ownN{R:Nat->Prop}{T1 T2 base:Nat}{w v net}(h:AoW T1 T2 base w v net)(hr:∀k,base<=k->R k):rdN R w v net:=fun U hU=>by obtain⟨os,h⟩:=h;exact(h.keepBlk fun k hb hk=>hU.2 k (hr k hb) hk).rd
structure stN (R:Nat->Prop) (w:World) (vL vO vF vH vN:Value) (s:Dsk):Prop where
 l:rdN R w vL s.letters
 o:rdN R w vO s.day.plan.order
 f:rdN R w vF s.day.fwds
 h:rdN R w vH s.day.held
 n:rdN R w vN s.net
def y5(vL vO vF vH vN:Value)(s:Dsk):Value:=.agg #[vL,.int .i64 s.day.plan.bins,.int .i64 s.day.plan.passes,vO,vF,vH,.int .i64 s.day.size,vN]
theorem stN.on{R:Nat->Prop}{w W vL vO vF vH vN s}(h:stN R w vL vO vF vH vN s)(hk:Ct R w W):stN R W vL vO vF vH vN s:=⟨h.l.on hk,h.o.on hk,h.f.on hk,h.h.on hk,h.n.on hk⟩
theorem stN.mono{R R':Nat->Prop}{w vL vO vF vH vN s}(h:stN R w vL vO vF vH vN s)(hr:∀k,k<w.heap.size->R k->R' k):stN R' w vL vO vF vH vN s:=⟨h.l.mono hr,h.o.mono hr,h.f.mono hr,h.h.mono hr,h.n.mono hr⟩
theorem stN.opened{R:Nat->Prop}{w vL vO vF vH vN s}(h:stN R w vL vO vF vH vN s):∃AL cL AO cO AF cF AH cH AN cN,vL=.slice AL s.letters.length cL/\vO=.slice AO s.day.plan.order.length cO/\vF=.slice AF s.day.fwds.length cF/\vH=.slice AH s.day.held.length cH/\vN=.slice AN s.net.length cN:=by obtain⟨A0,n0,c0,rfl,rfl,_⟩:=h.l.rd;obtain⟨A1,n1,c1,rfl,rfl,_⟩:=h.o.rd;obtain⟨A2,n2,c2,rfl,rfl,_⟩:=h.f.rd;obtain⟨A3,n3,c3,rfl,rfl,_⟩:=h.h.rd;obtain⟨A4,n4,c4,rfl,rfl,_⟩:=h.n.rd;exact⟨A0,c0,A1,c1,A2,c2,A3,c3,A4,c4,rfl,rfl,rfl,rfl,rfl⟩
def plus(R:Nat->Prop)(n:Nat)(k:Nat):Prop:=R k\/n<=k
theorem stN.plus{R:Nat->Prop}{w W vL vO vF vH vN s}(h:stN R w vL vO vF vH vN s)(hb:B_ w W):stN (plus R w.heap.size) W vL vO vF vH vN s:=
 (h.on (Ct.below R hb)).mono fun _ _=>.inl
def Bs(R:Nat->Prop)(s':Dsk)(a:Y_)(w:World)(e:Ending)(w':World):Prop:=
 ∃vL vO vF vH vN,e=.returned (.tuple #[y5 vL vO vF vH vN s',.string (Em a)])/\stN (plus R w.heap.size) w' vL vO vF vH vN s'/\B_ w w'
theorem stN.setL{R:Nat->Prop}{w vL vO vF vH vN v s xs}(h:stN R w vL vO vF vH vN s)(hx:rdN R w v xs):stN R w v vO vF vH vN {s with letters:=xs}:=⟨hx,h.o,h.f,h.h,h.n⟩
theorem stN.setF{R:Nat->Prop}{w vL vO vF vH vN v s xs}(h:stN R w vL vO vF vH vN s)(hx:rdN R w v xs):stN R w vL vO v vH vN {s with day:={s.day with fwds:=xs}}:=⟨h.l,h.o,hx,h.h,h.n⟩
theorem stN.setH{R:Nat->Prop}{w vL vO vF vH vN v s xs}(h:stN R w vL vO vF vH vN s)(hx:rdN R w v xs):stN R w vL vO vF v vN {s with day:={s.day with held:=xs}}:=⟨h.l,h.o,h.f,hx,h.n⟩
theorem stN.setN{R:Nat->Prop}{w vL vO vF vH vN v s xs}(h:stN R w vL vO vF vH vN s)(hx:rdN R w v xs):stN R w vL vO vF vH v {s with net:=xs}:=⟨h.l,h.o,h.f,h.h,hx⟩
def cut(R:Nat->Prop)(n m:Nat)(k:Nat):Prop:=(R k/\k<n)\/m<=k
theorem Ct.cut{R:Nat->Prop}{w W0 W m}(hb:B_ w W0)(h:Ct (cut R w.heap.size m) W0 W):Ct R w W:=
 ⟨aI hb.size h.1,fun k hr hk=>(h.2 k (.inl ⟨hr,hk⟩) (bR hk hb.size)).trans (hb.block k hk)⟩
theorem rdN.cut{α:Type}[El α]{R:Nat->Prop}{w W0 v}{xs:List α}{m}(h:rdN R w v xs)(hb:B_ w W0):rdN (cut R w.heap.size m) W0 v xs:=fun W hW=>h W (hW.cut hb)
theorem stN.cut{R:Nat->Prop}{w W0 vL vO vF vH vN s m}(h:stN R w vL vO vF vH vN s)(hb:B_ w W0):stN (cut R w.heap.size m) W0 vL vO vF vH vN s:=
 ⟨h.l.cut hb,h.o.cut hb,h.f.cut hb,h.h.cut hb,h.n.cut hb⟩
theorem Ct.set_cut(R:Nat->Prop)(w n m b i u)(h1:n<=b)(h2:b<m):Ct (Go.Proofs.YtfadhdacjpmmeaaGreatDoor.cut R n m) w (w.setCell ⟨b,i,none⟩ u):=
 Ct.set _ w b i u fun h=>by
  rcases h with⟨_,h⟩|h
  .exact absurd h (Nat.not_lt.2 h1)
  .exact absurd h2 (Nat.not_lt.2 h)
theorem Ct.set8(R:Nat->Prop)(w n m b x0 x1 x2 x3 x4 x5 x6 x7)(h1:n<=b)(h2:b<m):Ct (Go.Proofs.YtfadhdacjpmmeaaGreatDoor.cut R n m) w ((((((((w.setCell ⟨b,0,none⟩ x0).setCell ⟨b,1,none⟩ x1).setCell ⟨b,2,none⟩ x2).setCell ⟨b,3,none⟩ x3).setCell ⟨b,4,none⟩ x4).setCell ⟨b,5,none⟩ x5).setCell ⟨b,6,none⟩ x6).setCell ⟨b,7,none⟩ x7):=
 ((((((((Ct.set_cut R _ n m b 0 x0 h1 h2).trans (Ct.set_cut R _ n m b 1 x1 h1 h2)).trans (Ct.set_cut R _ n m b 2 x2 h1 h2)).trans (Ct.set_cut R _ n m b 3 x3 h1 h2)).trans (Ct.set_cut R _ n m b 4 x4 h1 h2)).trans (Ct.set_cut R _ n m b 5 x5 h1 h2)).trans (Ct.set_cut R _ n m b 6 x6 h1 h2)).trans (Ct.set_cut R _ n m b 7 x7 h1 h2))
theorem AwU{R:Nat->Prop}{n m k}(h:n<=m)(hk:cut R n m k):plus R n k:=hk.elim (fun h=>.inl h.1) fun h2=>.inr (aI h h2)
theorem Bs.of{R:Nat->Prop}{m vL vO vF vH vN s' a w W W'}(hS:stN (cut R w.heap.size m) W vL vO vF vH vN s')(hm:w.heap.size<=m)(hk:Ct (cut R w.heap.size m) W W')(hb:B_ w W'):
 Bs R s' a w (.returned (.tuple #[y5 vL vO vF vH vN s',.string (Em a)])) W':=⟨_,_,_,_,_,rfl,(hS.on hk).mono fun _ _ h=>AwU hm h,hb⟩
structure duo (w:World) (T:TypeId) (cs:Array Value) (b:Bool) (W:World):Prop where
 lay:Below w.heap.size w W
 box:W.heap[w.heap.size]? =some (.cells cs T (0,0))
 res:∃u0 u1 u2 u3 u4 u5 u6 u7,W.heap[w.heap.size+1]? =some (.cells #[u0,u1,u2,u3,u4,u5,u6,u7] T (0,0))
 fin:b=true->W.heap[w.heap.size+1]? =some (.cells cs T (0,0))
theorem duo.made{w wA wB}{T:TypeId}{cs u0 u1 u2 u3 u4 u5 u6 u7}(hA:wA=w.alloc (.cells cs T))(hB:wB=wA.alloc (.cells #[u0,u1,u2,u3,u4,u5,u6,u7] T)):duo w T cs false wB:=by
 refine' ZXb;refine⟨((aF _ _).alloc (aC _) _).alloc (by rw[hz];exact eL _) _,?_,⟨u0,u1,u2,u3,u4,u5,u6,u7,?_⟩,nofun⟩
 .exact(dL _ _ _ (by rw[hz];exact dW _)).trans (bC w _)
 .have:=bC (w.alloc (.cells cs T)) (.cells #[u0,u1,u2,u3,u4,u5,u6,u7] T)
  rwa [hz]at this
section
variable{w W W':World}{T:TypeId}{cs:Array Value}{b:Bool}
theorem duo.lt(h:duo w T cs b W):w.heap.size+1<W.heap.size:=by obtain⟨_,_,_,_,_,_,_,_,h⟩:=h.res;exact(Array.getElem?_eq_some_iff.1 h).1
theorem duo.drew(h:duo w T cs b W):duo w T cs b W.drew:=⟨h.lay.drew,h.box,h.res,h.fin⟩
theorem duo.below(h:duo w T cs b W)(hb:B_ W W'):duo w T cs b W':=by have hl:=h.lt;have e:=hb.block (w.heap.size+1) hl;exact⟨h.lay.trans (hb.mono h.lay.size),(hb.block w.heap.size (Nat.lt_of_succ_lt hl)).trans h.box,by rw[e];exact h.res,fun hb=>by rw[e];exact h.fin hb⟩
theorem duo.frozenS(h:duo w T cs b W)(k):W.frozen? ⟨w.heap.size,k,none⟩=false:=by simp[World.frozen?,h.box]
theorem duo.put(h:duo w T cs b W)(i u):duo w T (cs.setIfInBounds i u) false (W.setCell ⟨w.heap.size,i,none⟩ u):=
 ⟨h.lay.setCell (aC _) u,Mu h.box i u,by rw[bQ _ _ _ _ (Nat.succ_ne_self _)];exact h.res,nofun⟩
end
theorem Lg{w W}{T:TypeId}{b cs ds}(h:cs=ds)(k:duo w T cs b W):duo w T ds b W:=h▸k
theorem duo.set8{w W}{T:TypeId}{b x0 x1 x2 x3 x4 x5 x6 x7}(h:duo w T #[x0,x1,x2,x3,x4,x5,x6,x7] b W):
 duo w T #[x0,x1,x2,x3,x4,x5,x6,x7] true ((((((((W.setCell ⟨w.heap.size+1,0,none⟩ x0).setCell ⟨w.heap.size+1,1,none⟩ x1).setCell ⟨w.heap.size+1,2,none⟩ x2).setCell ⟨w.heap.size+1,3,none⟩ x3).setCell ⟨w.heap.size+1,4,none⟩ x4).setCell ⟨w.heap.size+1,5,none⟩ x5).setCell ⟨w.heap.size+1,6,none⟩ x6).setCell ⟨w.heap.size+1,7,none⟩ x7):=by refine' ZXc;refine⟨(((((((h.lay.setCell hl x0).setCell hl x1).setCell hl x2).setCell hl x3).setCell hl x4).setCell hl x5).setCell hl x6).setCell hl x7,?_,⟨_,_,_,_,_,_,_,_,h8⟩,fun _=>h8⟩;exact ZXd
theorem duo.set8f{w W}{T:TypeId}{cs b x0 x1 x2 x3 x4 x5 x6 x7}(h:duo w T cs b W):
 duo w T cs false ((((((((W.setCell ⟨w.heap.size+1,0,none⟩ x0).setCell ⟨w.heap.size+1,1,none⟩ x1).setCell ⟨w.heap.size+1,2,none⟩ x2).setCell ⟨w.heap.size+1,3,none⟩ x3).setCell ⟨w.heap.size+1,4,none⟩ x4).setCell ⟨w.heap.size+1,5,none⟩ x5).setCell ⟨w.heap.size+1,6,none⟩ x6).setCell ⟨w.heap.size+1,7,none⟩ x7):=by refine' ZXc;refine⟨(((((((h.lay.setCell hl x0).setCell hl x1).setCell hl x2).setCell hl x3).setCell hl x4).setCell hl x5).setCell hl x6).setCell hl x7,?_,⟨_,_,_,_,_,_,_,_,h8⟩,nofun⟩;exact ZXd
theorem Bs.read{R:Nat->Prop}{vL vO vF vH vN s a w W}(hS:stN R w vL vO vF vH vN s)(hb:B_ w W)(hp:1<=a.size):
 Bs R s a w (.returned (.tuple #[y5 vL vO vF vH vN s,.string (a++⟨#[10]⟩)])) W:=⟨_,_,_,_,_,by rw[Fh hp],hS.plus hb,hb⟩
theorem AsA(R:Nat->Prop)(vL vO vF vH vN s w)(hS:stN R w vL vO vF vH vN s)(hp:1<=(Co s.letters).size)(hz:(Co s.letters).size<=4000000000):
 Calls Tryz.prog 11 #[y5 vL vO vF vH vN s,.string Cf] w (Bs R s (Co s.letters) w):=by
 refine' zM;show Calls Tryz.prog _ #[.agg (y_ s AL cL AO cO AF cF AH cH AN cN),.string Cf] w _;refine' Xs;have HC:Hid (∀W,B_ w W->C_ 23 #[.slice AL s.letters.length cL] W (.string (Co s.letters))):=fun W hW=>D6 _ s.letters W (hS.l.rd.on hW)
 refine' Xr;clear hS;generalize Co s.letters=F at *;refine' YE;refine' ZKk;refine' YF;go_region_law (first|(go_simp;go_at_call 23;refine' Vd)|fail)
 all_goals exact Nz
theorem AzI(R:Nat->Prop)(vL vO vF vH vN s w)(hS:stN R w vL vO vF vH vN s)(hp:1<=(E7 s.day.plan).size)(hz:(E7 s.day.plan).size<=4000000000)(hi:Bj s.day.plan.bins/\Bj s.day.plan.passes):
 Calls Tryz.prog 11 #[y5 vL vO vF vH vN s,.string Df] w (Bs R s (E7 s.day.plan) w):=by
 refine' zM;show Calls Tryz.prog _ #[.agg (y_ s AL cL AO cO AF cF AH cH AN cN),.string Df] w _;refine' Xs;refine' Vc;have HC:Hid (∀W,B_ w W->C_ 26 #[.agg #[.int .i64 s.day.plan.bins,.int .i64 s.day.plan.passes,.slice AO s.day.plan.order.length cO]] W (.string (E7 s.day.plan))):=fun W hW=>Lc _ s.day.plan W (pU.on hW)
 refine' Xr;clear hS hi pU;generalize E7 s.day.plan=F at *;refine' YE;refine' ZWJ;refine' ZGb;refine' YF;go_region_law (first|(go_simp;go_at_call 26;refine' Vd)|fail)
 all_goals exact Nz
theorem ApX(R:Nat->Prop)(vL vO vF vH vN s w)(hS:stN R w vL vO vF vH vN s)(hp:1<=(C5 s.day.fwds).size)(hz:(C5 s.day.fwds).size<=4000000000):
 Calls Tryz.prog 11 #[y5 vL vO vF vH vN s,.string Bg] w (Bs R s (C5 s.day.fwds) w):=by
 refine' zM;show Calls Tryz.prog _ #[.agg (y_ s AL cL AO cO AF cF AH cH AN cN),.string Bg] w _;refine' Xs;have HC:Hid (∀W,B_ w W->C_ 30 #[.slice AF s.day.fwds.length cF] W (.string (C5 s.day.fwds))):=fun W hW=>Et _ s.day.fwds W (hS.f.rd.on hW)
 refine' Xr;clear hS;generalize C5 s.day.fwds=F at *;refine' YE;refine' ZWK;have eu:(Bg.toList==[112,108,97,110])=false:=ZD
 have fw:(Bg.toList==[115,101,113,117,101,110,99,101])=false:=ZD
 have iq:(Bg.toList==[109,111,118,101,100])=false:=ZD
 refine' ZKv;refine' YF;go_region_law (first|(go_simp;go_at_call 30;refine' Vd)|fail)
 all_goals exact Nz
theorem Bc2(R:Nat->Prop)(vL vO vF vH vN s w)(hS:stN R w vL vO vF vH vN s)(hp:1<=(Mx s.net).size)(hz:(Mx s.net).size<=4000000000):
 Calls Tryz.prog 11 #[y5 vL vO vF vH vN s,.string Es] w (Bs R s (Mx s.net) w):=by
 refine' zM;show Calls Tryz.prog _ #[.agg (y_ s AL cL AO cO AF cF AH cH AN cN),.string Es] w _;refine' Xs;have HC:Hid (∀W,B_ w W->C_ 38 #[.slice AN s.net.length cN] W (.string (Mx s.net))):=fun W hW=>AmJ _ s.net W (hS.n.rd.on hW)
 refine' Xr;clear hS;generalize Mx s.net=F at *;refine' YE;refine' ZXe;have eu:(Es.toList==[112,108,97,110])=false:=ZD
 have fw:(Es.toList==[115,101,113,117,101,110,99,101])=false:=ZD
 have iq:(Es.toList==[109,111,118,101,100])=false:=ZD
 have jz:(Es.toList==[102,111,114,119,97,114,100,115])=false:=ZD
 have kB:(Es.toList==[101,110,100,108,101,115,115])=false:=ZD
 have lT:(Es.toList==[100,105,114,101,99,116])=false:=ZD
 have m6:(Es.toList==[104,101,108,100])=false:=ZD
 have pG:(Es.toList==[100,97,121])=false:=ZD
 have lU:(Es.toList==[116,114,97,121,115])=false:=ZD
 refine' ZLO;refine' YF;go_region_law (first|(go_simp;go_at_call 38;refine' Vd)|fail)
 all_goals exact Nz
theorem BaK(R:Nat->Prop)(vL vO vF vH vN s w)(hS:stN R w vL vO vF vH vN s)(hp:1<=(Cb s.day.held).size)(hz:(Cb s.day.held).size<=4000000000)(hq:∀p∈s.day.held,1<=p.size/\p.size<=1000)(hl:s.day.held.length<=1000):
 Calls Tryz.prog 11 #[y5 vL vO vF vH vN s,.string Fm] w (Bs R s (Cb s.day.held) w):=by
 refine' zM;show Calls Tryz.prog _ #[.agg (y_ s AL cL AO cO AF cF AH cH AN cN),.string Fm] w _;refine' Xs;have HC:Hid (∀W,B_ w W->C_ 31 #[.slice AH s.day.held.length cH] W (.string (Cb s.day.held))):=fun W hW=>by refine(Fn _ s.day.held W (hS.h.rd.on hW) hq ZA).mono ?_;refine' ZP;exact zv
 refine' Xr;clear hS hq hl;generalize Cb s.day.held=F at *;refine' YE;refine' ZWL;have eu:(Fm.toList==[112,108,97,110])=false:=ZD
 have fw:(Fm.toList==[115,101,113,117,101,110,99,101])=false:=ZD
 have iq:(Fm.toList==[109,111,118,101,100])=false:=ZD
 have jz:(Fm.toList==[102,111,114,119,97,114,100,115])=false:=ZD
 have kB:(Fm.toList==[101,110,100,108,101,115,115])=false:=ZD
 have lT:(Fm.toList==[100,105,114,101,99,116])=false:=ZD
 refine' ZWM;refine' YF;go_region_law (first|(go_simp;go_at_call 31;refine' Vd)|fail)
 all_goals exact Nz
theorem duo.madeR{w wA wB:World}{T:TypeId}{cs us}(hA:wA=w.alloc (.cells cs T))(hB:wB=wA.alloc (.cells us T)):wB.heap[w.heap.size+1]? =some (.cells us T (0,0)):=by
 refine' ZXb;have:=bC (w.alloc (.cells cs T)) (.cells us T)
 rwa [hz]at this
theorem AaM(R:Nat->Prop)(vL vO vF vH vN vb s w)(hS:stN R w vL vO vF vH vN s):
 Calls Tryz.prog 25 #[y5 vL vO vF vH vN s,vb,.bool false] w (Bs R s ⟨#[]⟩ w):=by
 refine' zM;show Calls Tryz.prog _ #[.agg (y_ s AL cL AO cO AF cF AH cH AN cN),vb,.bool false] w _;refine' ZXh;clear k0 m0 hS;go_enter func25,ntmps25
 refine' Zr;refine Ax rfl rfl M0.out gK rfl Tryz.sizeSt rfl ?_;have h:=Bs.of (m:=w.heap.size+2) (a:=⟨#[]⟩) (HS.out.cut K0.out.lay) ZA (Ct.refl _ _) K0.out.lay;rw[Jw]at h;exact h
theorem AeO(R:Nat->Prop)(vL vO vF vH vN vb s xs w)(hS:stN R w vL vO vF vH vN s)(hb:rdN R w vb xs)(hp:1<=(Co xs).size):
 Calls Tryz.prog 25 #[y5 vL vO vF vH vN s,vb,.bool true] w (Bs R {s with letters:=xs} (Co xs) w):=by
 refine' eP;obtain⟨Ab,nb,cb,rfl, -, -, -, -⟩:=hb.rd;refine' zM;show Calls Tryz.prog _ #[.agg (y_ s AL cL AO cO AF cF AH cH AN cN),.slice Ab nb cb,.bool true] w _;obtain⟨wA,ae⟩:∃u,u=w.alloc (aB #[.slice Ab nb cb,.int .i64 s.day.plan.bins,.int .i64 s.day.plan.passes,.slice AO s.day.plan.order.length cO,.slice AF s.day.fwds.length cF,.slice AH s.day.held.length cH,.int .i64 s.day.size,.slice AN s.net.length cN] 36):=⟨_,rfl⟩;refine' ZLR;refine' Nj;have aq:=k0.drew;have HC:Hid (∀W,B_ w W->C_ 23 #[.slice Ab nb cb] W (.string (Co xs))):=fun W hW=>D6 _ xs W (hb.rd.on hW)
 have hz:=Du xs;refine' YS;have dj:Hid (Em (Co xs)=Co xs++⟨#[10]⟩):=Fh hp;clear m0 hS hb hp;have p0:∀W,duo w 36 #[.slice Ab nb cb,.int .i64 s.day.plan.bins,.int .i64 s.day.plan.passes,.slice AO s.day.plan.order.length cO,.slice AF s.day.fwds.length cF,.slice AH s.day.held.length cH,.int .i64 s.day.size,.slice AN s.net.length cN] false W->W.cell? ⟨w.heap.size,0,none⟩=some (.slice Ab nb cb):=fun W h=>(Ac h.box).1.1
 have p1:∀W,duo w 36 #[.slice Ab nb cb,.int .i64 s.day.plan.bins,.int .i64 s.day.plan.passes,.slice AO s.day.plan.order.length cO,.slice AF s.day.fwds.length cF,.slice AH s.day.held.length cH,.int .i64 s.day.size,.slice AN s.net.length cN] false W->W.cell? ⟨w.heap.size,1,none⟩=some (.int .i64 s.day.plan.bins):=fun W h=>(Ac h.box).1.2.1
 have p2:∀W,duo w 36 #[.slice Ab nb cb,.int .i64 s.day.plan.bins,.int .i64 s.day.plan.passes,.slice AO s.day.plan.order.length cO,.slice AF s.day.fwds.length cF,.slice AH s.day.held.length cH,.int .i64 s.day.size,.slice AN s.net.length cN] false W->W.cell? ⟨w.heap.size,2,none⟩=some (.int .i64 s.day.plan.passes):=fun W h=>(Ac h.box).1.2.2.1
 have p3:∀W,duo w 36 #[.slice Ab nb cb,.int .i64 s.day.plan.bins,.int .i64 s.day.plan.passes,.slice AO s.day.plan.order.length cO,.slice AF s.day.fwds.length cF,.slice AH s.day.held.length cH,.int .i64 s.day.size,.slice AN s.net.length cN] false W->W.cell? ⟨w.heap.size,3,none⟩=some (.slice AO s.day.plan.order.length cO):=fun W h=>(Ac h.box).1.2.2.2.1
 have p4:∀W,duo w 36 #[.slice Ab nb cb,.int .i64 s.day.plan.bins,.int .i64 s.day.plan.passes,.slice AO s.day.plan.order.length cO,.slice AF s.day.fwds.length cF,.slice AH s.day.held.length cH,.int .i64 s.day.size,.slice AN s.net.length cN] false W->W.cell? ⟨w.heap.size,4,none⟩=some (.slice AF s.day.fwds.length cF):=fun W h=>(Ac h.box).1.2.2.2.2.1
 have p5:∀W,duo w 36 #[.slice Ab nb cb,.int .i64 s.day.plan.bins,.int .i64 s.day.plan.passes,.slice AO s.day.plan.order.length cO,.slice AF s.day.fwds.length cF,.slice AH s.day.held.length cH,.int .i64 s.day.size,.slice AN s.net.length cN] false W->W.cell? ⟨w.heap.size,5,none⟩=some (.slice AH s.day.held.length cH):=fun W h=>(Ac h.box).1.2.2.2.2.2.1
 have p6:∀W,duo w 36 #[.slice Ab nb cb,.int .i64 s.day.plan.bins,.int .i64 s.day.plan.passes,.slice AO s.day.plan.order.length cO,.slice AF s.day.fwds.length cF,.slice AH s.day.held.length cH,.int .i64 s.day.size,.slice AN s.net.length cN] false W->W.cell? ⟨w.heap.size,6,none⟩=some (.int .i64 s.day.size):=fun W h=>(Ac h.box).1.2.2.2.2.2.2.1
 have p7:∀W,duo w 36 #[.slice Ab nb cb,.int .i64 s.day.plan.bins,.int .i64 s.day.plan.passes,.slice AO s.day.plan.order.length cO,.slice AF s.day.fwds.length cF,.slice AH s.day.held.length cH,.int .i64 s.day.size,.slice AN s.net.length cN] false W->W.cell? ⟨w.heap.size,7,none⟩=some (.slice AN s.net.length cN):=fun W h=>(Ac h.box).1.2.2.2.2.2.2.2
 obtain⟨F,hF⟩:∃F,Co xs=F:=⟨_,rfl⟩;rw[hF]at HC HP dj hz⊢;refine' YE;clear hF;go_enter func25,ntmps25
 refine' Zr;go_region_law (first|(go_simp;go_at_call 23;refine' Vd)|fail)
 all_goals
  have HF:=aA (duo.set8 k1);clear aq k1
  refine' ZC;refine' ZLS;rw[<-dj.out];exact Bs.of (m:=w.heap.size+2) (vL:=.slice Ab nb cb) (s':={s with letters:=xs}) ((HS.out.cut HF.out.lay).setL (HB.out.cut HF.out.lay)) ZA (Ct.refl _ _) HF.out.lay
open Go.Sort
def Xj(k:Nat)(xs:List Ltr):List Ltr:=(Bm (Lk k) 10 xs).flatten
def Yq(k:Nat)(ts:List (Ltr×Nat)):List (Ltr×Nat):=(List.range 10).flatMap fun(d:Nat)=>ts.filter fun x=>Lk k x.1==(d:Int)
theorem AtX(k ts):(Yq k ts).map Prod.fst=Xj k (ts.map Prod.fst):=by
 unfold Yq Xj Bm;rw[List.map_flatMap,<-List.flatMap_def]
 congr 1
 funext d
 rw[List.filter_map];rfl
def Rk(k:Nat)(x y:Ltr×Nat):Prop:=Lib.compareBytes (x.1.code.data.toList.drop k) (y.1.code.data.toList.drop k)<0\/(x.1.code.data.toList.drop k=y.1.code.data.toList.drop k/\x.2<y.2)
theorem At3{x y k}(hx:Ap x.code=true)(hy:Ap y.code=true)(hk:k<7):
 ∃(a b:UInt8) (_:Lk k x=((a.toNat - 48:Nat):Int)) (_:Lk k y=((b.toNat - 48:Nat):Int)),48<=a.toNat/\a.toNat<=57/\48<=b.toNat/\b.toNat<=57/\x.code.data.toList.drop k=a::x.code.data.toList.drop (k+1)/\y.code.data.toList.drop k=b::y.code.data.toList.drop (k+1):=by
 obtain⟨ar,p1,p2,p3⟩:=ZAl hx hk;obtain⟨ap,q1,q2,q3⟩:=ZAl hy hk;have l1:k<x.code.data.toList.length:=by simpa using ar
 have l2:k<y.code.data.toList.length:=by simpa using ap
 exact⟨x.code[k],y.code[k],p3,q3,p1,p2,q1,q2,cU l1,cU l2⟩
theorem AzX{k x y}(hx:Ap x.1.code=true)(hy:Ap y.1.code=true)(hk:k<7)(he:Lk k x.1=Lk k y.1)(h:Rk (k+1) x y):Rk k x y:=by
 obtain⟨a,b,e1,e2,a1,a2,b1,b2,d1,d2⟩:=At3 hx hy hk;have pX:a=b:=UInt8.toNat_inj.1 (by rw[e1,e2]at he;omega);subst pX;unfold Rk at *;rw[d1,d2];rcases h with h|⟨h,ht⟩
 .left
  rw[Lib.compareBytes,aM ZF,aM ZF];exact h
 .right
  exact⟨eO,ht⟩
theorem Bb9{k x y}(hx:Ap x.1.code=true)(hy:Ap y.1.code=true)(hk:k<7)(he:Lk k x.1<Lk k y.1):Rk k x y:=by
 obtain⟨a,b,e1,e2,a1,a2,b1,b2,d1,d2⟩:=At3 hx hy hk;have pX:a<b:=by rw[fA];rw[e1,e2]at he;omega
 unfold Rk
 left
 rw[d1,d2,Lib.compareBytes,aQ pX];decide
theorem AmU{k ts}(hc:∀x∈ts,Ap x.1.code=true)(hk:k<7)(h:ts.Pairwise (Rk (k+1))):(Yq k ts).Pairwise (Rk k):=by
 unfold Yq;rw[List.pairwise_flatMap];refine⟨fun d _=>?_,?_⟩
 .rw[List.pairwise_filter]
  refine h.imp_of_mem fun{x y} hx hy hr e1 e2=>?_
  rw[dI]at e1 e2;exact AzX (hc x hx) (hc y hy) hk (e1.trans e2.symm) hr
 .have hr:(List.range 10).Pairwise (·<·):=List.pairwise_lt_range
  refine hr.imp fun{d e} hde x hx y hy=>?_
  rw[List.mem_filter,dI]at hx hy;exact Bb9 (hc x hx.1) (hc y hy.1) hk (by rw[hx.2,hy.2];omega)
theorem AnX{k ts}(hc:∀x∈ts,Ap x.1.code=true)(hk:k<7):(Yq k ts).Perm ts:=by
 have jy:∀(n:Nat),((List.range n).flatMap fun(d:Nat)=>ts.filter fun x=>Lk k x.1==(d:Int)).Perm (ts.filter fun x=>decide (0<=Lk k x.1)&&decide (Lk k x.1<(n:Int))):=by
  intro n
  induction n with
  |zero=> rw[List.filter_eq_nil_iff.2 fun x _=>zw];simp
  |succ n ih=>
   rw[fN,List.flatMap_append,List.flatMap_singleton];refine(List.Perm.append_right _ ih).trans ?_;clear ih
   induction ts with
   |nil=>exact gQ _
   |cons t ts iht=>
    have ih:=iht (fun x hx=>hc x (bN _ hx));simp only[gR];by_cases h1:Lk k t.1=(n:Int)
    .rw[h1]
     rw[aM ZF,aQ ZF,aQ ZH];exact(ZB1).trans (List.Perm.cons _ ih)
    .by_cases h2:0<=Lk k t.1/\Lk k t.1<(n:Int)
     .rw[aQ ZH,aM Xu,aQ ZH]
      exact List.Perm.cons _ ih
     .rw[aM ZH,aM Xu,aM ZH]
      exact ih
 unfold Yq;refine(jy 10).trans ?_;rw[List.filter_eq_self.2 fun x hx=>?_];obtain⟨_,p1,p2,p3⟩:=ZAl (hc x hx) hk;rw[p3];exact ZH
def Eb(xs:List Ltr):List Ltr:=Xj 0 (Xj 1 (Xj 2 (Xj 3 (Xj 4 (Xj 5 (Xj 6 xs))))))
theorem BbA{xs}(ag:z_ xs=true):Eb xs=E9 xs:=by
 have wI:∀x∈Nw xs,Ap x.1.code=true:=fun x hx=>by refine' ZEu;rw[ZC2];exact((Ep.1 ag).2 i (by rw[Oz]at hi;exact hi)).2.2.1
 have h7:(Nw xs).Pairwise (Rk 7):=(AbO xs).imp_of_mem fun{x y} hx hy h=>by refine .inr ⟨?_,h⟩;rw[List.drop_of_length_le (by have:=(Cp (wI x hx)).1;exact ZH),List.drop_of_length_le (by have:=(Cp (wI y hy)).1;exact ZH)]
 have step:∀k ts,k<7->ts.Perm (Nw xs)->ts.Pairwise (Rk (k+1))->(Yq k ts).Perm (Nw xs)/\(Yq k ts).Pairwise (Rk k):=fun k ts hk hp hs=>by
  have hc:∀x∈ts,Ap x.1.code=true:=fun x hx=>wI x (hp.mem_iff.1 hx)
  exact⟨(AnX hc hk).trans hp,AmU hc hk hs⟩
 obtain⟨p6,s6⟩:=step 6 _ ZE (gQ _) h7;obtain⟨p5,s5⟩:=step 5 _ ZE p6 s6;obtain⟨p4,s4⟩:=step 4 _ ZE p5 s5;obtain⟨p3,s3⟩:=step 3 _ ZE p4 s4;obtain⟨p2,s2⟩:=step 2 _ ZE p3 s3;obtain⟨p1,s1⟩:=step 1 _ ZE p2 s2;obtain⟨p0,s0⟩:=step 0 _ ZE p1 s1;rw[<-ZBZ p0 (s0.imp fun{x y} h=>?_)]
 .unfold Eb
  simp only[AtX,Ag6]
 .unfold Rk at h
  rw[List.drop_zero,List.drop_zero]at h;rw[ZDA];rcases h with h|⟨h,ht⟩
  .left
   exact aL h
  .right
   refine⟨?_,ht⟩;show decide (Lib.compareBytes y.1.code.data.toList x.1.code.data.toList<0)=false;rw[h,ZBb];rfl
theorem AcU(vb xs)(dd:Nat)(w0)(hb:R_ w0 vb xs)(jb:dd<7)(ag:z_ xs=true):
 Calls Tryz.prog 168 #[vb,.int .i64 (dd:Int)] w0 fun e w'=>∃vB vs,e=.returned vB/\Fi 27 119 w0.heap.size w' vB (Bm (Lk dd) 10 xs) vs/\B_ w0 w':=by
 refine' X7;refine' ZHz;refine' ZRZ;refine' ZRa;rw[<-lN.out]at HF⊢;have NF:=aF w0.heap.size w0;go_enter func168,ntmps168
 refine' ZRb;clear NF
 go_loopw[6] (fun i wr=>∃(k:Nat) (vs:List Value),k<=xs.length/\i=.int .i64 k/\B_ w0 wr/\Fi 27 119 w0.heap.size wr (.slice (P_ G) 10 10) (Bm f 10 (xs.take k)) vs) (fun i _=>xs.length - (intOf i).toNat)
 case atStart=> refine⟨0,pY,aN _,rfl,lz,?_⟩;exact Rv
 case round=>
  refine' ZHh;clear lz lL hB;have ie:=lr.size;by_cases ab:k<xs.length
  .refine' ZRc;have qi:=c1 w1 lr;have pL:=c2 w1 lr;clear c1 c2;have ep:=aA HB.out;obtain⟨fm,df,gy⟩:∃fm:d<vs.length,own 119 w0.heap.size w1 vs[d] (Bm f 10 (xs.take k))[d]/\apart vs[d] (.slice (P_ G) 10 10):=ZJQ
   have kF:w1.cell? ⟨G,d,none⟩=some vs[d]:=Ff ep.out.1 d fm;have tP:w1.frozen? ⟨G,d,none⟩=false:=ep.out.1.freeAt d;refine' ZRd;have ky:G<w1.heap.size:=(ep.out.1.blk G rfl).2;have w1':aD.wrap (bb.toNat:Int)=(bb.toNat:Int):=bG _ ZA;have NG:aD.wrap ((bb.toNat:Int) - 48)=(d:Int):=Z8
   refine' ZRe;go_region_law (go_loud ((refine Ce (α:=Ltr) ZG (.tmp 29) (.tmp 34) 27 ZG w0.heap.size 119 i1 _ 24 aV ji dr du dw rfl ZE (.slice Au zs.length cu) zs x ZG ((jW.out.alloc _).drew) ⟨w1.heap.size,0,none⟩ 1 (Ltr.cells x) ZG ⟨⟨fq,fj⟩,rfl⟩ (Ft w1 _ (Ltr.cells x)) ZN ZA ZH ?_;refine' Rp)))
   all_goals have gi:B_ w1 (w1.alloc (aB #[aH aD x.id,aG x.code] 119)).drew:=Ag (Ae (aF _ _) _);refine' ZRf;have p4:=Ex (G:=G) (d:=d) (g:=g) (m:=zs.length+1) (cap:=cap) (Ag (Ae lr (aB #[aH aD x.id,aG x.code] 119))) a6 (fun j hj=>(jW.out.blk j hj).1) nT;exact ZRg
  .refine' YO;refine' ZI;have hB:=HB.out;refine' ZE3;exact⟨_,vs,rfl,hB,lr⟩
theorem AlR(vb xs dg w)(hb:R_ w vb xs):
 C_ 179 #[vb,.int .i64 dg] w (.bool (Jo xs dg)):=by
 have rR:=aA (C6 vb xs w hb);have rj:=aA (fun W=>D0 dg 0 6 W);have HQ:Hid (Jo xs dg=(z_ xs&&(decide (0<=dg)&&decide (dg<=6)))):=by
  show _=_;unfold Jo
  congr 2
  exact decide_eq_decide.2 ⟨fun h=>ZA,fun h=>ZA⟩
 generalize Jo xs dg=q at *;refine' X7;clear hr hn hc px;generalize(decide (0<=dg)&&decide (dg<=6))=r at *;cases hk:z_ xs
 .rw[hk]at rR HQ
  clear hk;go_enter func179,ntmps179
  go_wp2_with (first|(go_at_call 69;refine' ZGr)|(go_at_call 167;refine(rj.out _).mono ?_;rintro e _ ⟨rfl,rfl⟩))
  go_ret;exact⟨Al HQ.out.symm,b1⟩
 .rw[hk]at rR HQ
  clear hk;go_enter func179,ntmps179
  go_wp2_with (first|(go_at_call 69;refine' ZGr)|(refine' ZGs))
  go_ret;exact⟨Al HQ.out.symm,b1⟩
theorem ZBz(vb xs dg w)(hb:R_ w vb xs):
 Calls Tryz.prog 98 #[vb,.int .i64 dg] w fun e w'=>∃v',e=.returned (.tuple #[v',.bool (Jo xs dg)])/\own 119 w.heap.size w' v' (pg xs dg)/\B_ w w':=by
 have HV:=aA hb;have SA:=aA (AlR vb xs dg w hb);refine' X7;clear hr hn hc px;go_enter func98,ntmps98;cases hk:Jo xs dg
 .have HS:=aA (AxR hk)
  rw[hk]at SA;clear hk
  go_wp2_with (go_at_call 179;refine SA.out.mono ?_;refine' ZU)
  go_ret2;exact⟨_,rfl,by rw[HS.out];exact own.made0 _ _ b1.size,b1.alloc b1.size _⟩
 .have HS:=aA (AmT hk)
  have r8:=AmM hk;obtain⟨dd,rfl⟩:=aK r8.2.1;rw[hk]at SA;have hBN:=aA (fun W (hW:B_ w W)=>AcU _ xs dd W (HV.out.on hW) ZA r8.1);have j7:Hid ((Bm (Lk dd) 10 xs).flatten.length<=60):=by show _<=_;have h1:=Cq (Lq (Lk dd) 10 r8.1);exact h1
  rw[bE]at HS;generalize Bm (Lk dd) 10 xs=xv at *;clear hk r8
  go_wp2_with (go_at_call 179;refine SA.out.mono ?_;refine' ZU)
  refine(hBN.out _ b1).mono ?_;rintro e w2 ⟨vB,vs,rfl,hB,b2⟩;have HC:=aA (Im vB xv w2 (Fu.rd ⟨_,hB⟩) (by have:=j7.out;omega));have ig:=aA (Aa b1 b2);obtain⟨A2,n2,c2,rfl, -, -, -, -⟩:=hB.1.rd;clear hB b1 b2
  refine' ZFy;refine' ZW2;exact⟨_,rfl,by rw[HS.out];exact ez.out,kP.out⟩
def Yp(xs:List Ltr):Nat->List Ltr
 |0=>xs
 |n+1=>Xj (6 - n) (Yp xs n)
theorem AwK(xs):Yp xs 7=Eb xs:=rfl
theorem AsZ{xs}(h:z_ xs=true):∀n,z_ (Yp xs n)=true
 |0=>h
 |n+1=>Lq _ _ (AsZ h n)
theorem AnY{w:World}{g}{T:TypeId}(h:w.heap[g]? =some (.cells #[.int .i64 0,.int .i64 1,.int .i64 2,.int .i64 3,.int .i64 4,.int .i64 5,.int .i64 6] T (0,0))):∀j,j<7->w.cell? ⟨g,j,none⟩=some (.int .i64 (j:Int)):=by
 intro j hj;have hc:j=0\/j=1\/j=2\/j=3\/j=4\/j=5\/j=6:=ZA
 rcases hc with rfl|rfl|rfl|rfl|rfl|rfl|rfl<;>(exact Y5)
theorem AoM(vb xs D w)(hb:R_ w vb xs)(ag:z_ xs=true)(hD:w.heap[D]? =some (.cells #[.int .i64 0,.int .i64 1,.int .i64 2,.int .i64 3,.int .i64 4,.int .i64 5,.int .i64 6] 3 (0,0))):
 Calls Tryz.prog 71 #[vb,.slice (P_ D) 7 7] w fun e w'=>∃v',e=.returned v'/\own 119 w.heap.size w' v' (Eb xs)/\B_ w w':=by
 have HV:=aA hb;have lh:=Cq ag;have qe:=aA (fun n=>AsZ ag n);refine' X7;subst hn;refine' Zl;have BZ:Hid (own (α:=Ltr) 119 w.heap.size (w.alloc (aB #[] 119)) (.slice (P_ w.heap.size) 0 0) []):=own.made0 w _ (aC _);have la:B_ w (w.alloc (aB #[] 119)):=Ae (aF _ _) _;have EE:=aA (HV.out.on la);have hDl:D<w.heap.size:=(Array.getElem?_eq_some_iff.1 hD).1;have vt:=aA hD;clear hr hD ag;go_enter func71,ntmps71
 go_wp2_with (at_builtin;refine Cu (α:=Ltr) rfl (.tmp 7) (.tmp 8) 27 rfl w.heap.size 119 i1 _ 24 aV ji dr du dw rfl ZE (.slice (P_ w.heap.size) 0 0) [] rfl BZ.out (.slice A xs.length cp) xs rfl (w.alloc (aB #[] 119)).heap.size EE.out V5 ZH la.size ?_;intro v' w3 mz er _)
 have b3:B_ w w3:=la.trans (Ay BZ.out er la.size);rw[bT]at mz;obtain⟨A3,n3,c3,rfl,qI, -, -, -⟩:=mz.rd;subst qI;have ez:=aA mz;have ep:=aA b3;clear mz er b3 la
 go_loopw[5,6] (fun t i wr=>∃(j:Nat),j<=7/\i=.int .i64 (6 - (j:Int))/\B_ w wr/\own 119 w.heap.size wr t (Yp xs j)) (fun _ i _=>(intOf i+1).toNat)
 case atStart=>exact⟨0,aN _,rfl,ep.out,ez.out⟩
 case round=>
  obtain⟨j,hj,rfl,lr,hO⟩:=hrel;refine' Sh;refine' Zn;obtain⟨A4,n4,c4,rfl,wG, -, -, -⟩:=hO.rd;subst wG;clear hO ez ep;by_cases ab:j<7
  .have y1:=AnY ((lr.block D hDl).trans vt.out) (6 - j) ZA
   have vC:=aA (AcU _ (Yp xs j) (6 - j) w4 HO.out.rd ZA (qe.out j));have HS:Hid ((Bm (Lk (6 - j)) 10 (Yp xs j)).flatten=Yp xs (j+1)):=rfl;have j7:=aA (Cq (qe.out (j+1)));rw[<-HS.out]at j7;have yC:6 - (j:Int)<7:=ZA
   have hnat:(6 - (j:Int)).toNat=6 - j:=ZA
   have NH:((6 - j:Nat):Int)=6 - (j:Int):=ZA
   rw[NH]at y1 vC;generalize Bm (Lk (6 - j)) 10 (Yp xs j)=xv at *
   refine' ZC;refine vC.out.mono ?_;rintro e w5 ⟨vB,vs,rfl,hB,b5⟩;have HC:=aA (Im vB xv w5 (Fu.rd ⟨_,hB⟩) (by have:=j7.out;omega));have JB:=aA (lr.trans (b5.mono lr.size));obtain⟨A2,n2,c2,rfl, -, -, -, -⟩:=hB.1.rd;clear hB b5
   refine' ZFy;rintro e w6 ⟨v6,rfl,o6,b6⟩;have ot:=aA (o6.base_ JB.out.size);have HL6:=aA (JB.out.trans (b6.mono JB.out.size));obtain⟨A6,n6,c6,rfl, -, -, -, -⟩:=o6.rd;clear o6 b6;have hw:aD.wrap (6 - (j:Int) - 1)=6 - ((j+1:Nat):Int):=Z8
   refine' ZC;go_roundw
   case rel=>exact⟨j+1,ZA,by first|go_num|(congr 1;omega),HL6.out,by rw[<-HS.out];exact ot.out⟩
   case measure=>exact ZK
  .have hj7:j=7:=ZA
   subst hj7;refine' ZI;exact⟨_,rfl,by rw[<-AwK];exact HO.out,lr⟩
theorem AhF(vb xs w)(hb:R_ w vb xs)(ag:z_ xs=true):
 Calls Tryz.prog 24 #[vb] w fun e w'=>∃v',e=.returned (.tuple #[v',.bool true])/\own 119 w.heap.size w' v' (E9 xs)/\B_ w w':=by
 have HV:=aA hb;have rR:=aA (C6 vb xs w hb);rw[ag]at rR;have qg:=aA (BbA ag);refine' gL;refine' X7;clear hr hn hc px ag;go_enter func24,ntmps24
 refine' ZC;refine' ZGr;obtain⟨w2,sq⟩:∃w2:World,w2=w1.alloc (aB #[.int .i64 0,.int .i64 1,.int .i64 2,.int .i64 3,.int .i64 4,.int .i64 5,.int .i64 6] 3):=⟨_,rfl⟩;have hD:w2.heap[w1.heap.size]? =some (.cells #[.int .i64 0,.int .i64 1,.int .i64 2,.int .i64 3,.int .i64 4,.int .i64 5,.int .i64 6] 3 (0,0)):=ZVm
 have l2:B_ w w2:=ZVn
 have HS:=aA (AoM _ xs w1.heap.size w2 (HV.out.on l2) d9.out hD);have ig:=aA l2;have om:=aA sq;clear sq hD l2 b1
 refine' ZC;rw[<-om.out];refine HS.out.mono ?_;refine' ZW2;exact⟨_,rfl,by rw[<-qg.out];exact ez.out,kP.out⟩
def jP(s x:Y_):Prop:=s.data.toList<x.data.toList
instance (s x:ByteArray):Decidable (jP s x):=inferInstanceAs (Decidable (s.data.toList<x.data.toList))
theorem AjU{s}:∀{l:List Y_},(∀x∈l,¬jP s x)->Kk l s=l++[s]
 |[],_=>rfl
 |x::l,h=>by have hx:¬s.data.toList<x.data.toList:=h x ZF;unfold Kk;rw[aM hx,AjU fun y hy=>h y (bN _ hy)];rfl
theorem ApA{s y}(hy:jP s y):∀{l:List Y_},(∀x∈l,¬jP s x)->Kk (l++[y]) s=l++[s]++[y]
 |[],_=>by show Kk [y] s=[s,y];unfold Kk;rw[aQ (show s.data.toList<y.data.toList from hy)]
 |x::l,h=>by have hx:¬s.data.toList<x.data.toList:=h x ZF;rw[cK];unfold Kk;rw[aM hx,ApA hy fun z hz=>h z (bN _ hz)];rfl
theorem AkY{s y}:∀{l:List Y_},(∃x∈l,jP s x)->Kk (l++[y]) s=Kk l s++[y]
 |[],h=>by obtain⟨x,hx,_⟩:=h;exact Wt
 |x::l,h=>by
  rw[cK];by_cases hx:s.data.toList<x.data.toList
  .conv=>lhs;unfold Kk
   conv=>rhs;unfold Kk
   rw[aQ hx,aQ hx];rfl
  .have h':∃z∈l,jP s z:=by
    obtain⟨z,hz,hl⟩:=h;rcases List.mem_cons.1 hz with rfl|hz
    .exact absurd hl hx
    .exact⟨z,hz,hl⟩
   conv=>lhs;unfold Kk
   conv=>rhs;unfold Kk
   rw[aM hx,aM hx,AkY h'];rfl
theorem Ax3(l s):(Kk l s).length=l.length+1:=by rw[(ZDc l s).length_eq];rfl
def fW(cs:List Y_)(k:Nat):List Y_:=(cs.take k).foldl Kk []
theorem AvW(cs):fW cs 0=[]:=rfl
theorem AkV{cs k}(h:k<cs.length):fW cs (k+1)=Kk (fW cs k) cs[k]:=by unfold fW;exact ZEt
theorem Az0{cs k}(h:cs.length<=k):fW cs k=Ir cs:=by unfold fW;rw[bB h,Ac3]
theorem ApB{cs}:∀{k:Nat},k<=cs.length->(fW cs k).length=k
 |0,_=>rfl
 |k+1,h=>by rw[AkV ZA,Ax3,ApB ZA]
def Ym(fs:List Fwd)(k:Nat):List Y_:=(Ru fs k).foldl Kk []
theorem AtS(fs):Ym fs 0=[]:=by unfold Ym Ru;rfl
theorem AyI{fs k}(hk:k<fs.length)(h:(Bc fs fs[k].src).2.2=false):Ym fs (k+1)=Kk (Ym fs k) fs[k].src:=by unfold Ym;rw[AnZ hk h,ZBn];rfl
theorem Aw4{fs k}(hk:k<fs.length)(h:(Bc fs fs[k].src).2.2=true):Ym fs (k+1)=Ym fs k:=by unfold Ym;rw[AkR hk h]
theorem AvS(fs k):(Ym fs k).Perm (Ru fs k):=by unfold Ym;rw[Ac3];exact Pn _
theorem AxI(fs k):(Ym fs k).length<=fs.length:=by rw[(AvS fs k).length_eq];exact AcF fs k
theorem AyR{fs}(h:Be fs=true){k}(hk:k=fs.length):Ym fs k=N2 fs:=by subst hk;unfold Ym;rw[Ac3,M6 h]
def jB(fs:List Fwd)(cs:List Y_):List Fwd:=(cs.filter fun c=>(Bc fs c).2.2).map fun c=>⟨c,(Bc fs c).1⟩
theorem AxP{fs}{cs:List Y_}{k}(hk:k<cs.length)(h:(Bc fs cs[k]).2.2=true):jB fs (cs.take (k+1))=jB fs (cs.take k)++[⟨cs[k],(Bc fs cs[k]).1⟩]:=ZXJ
theorem Au0{fs}{cs:List Y_}{k}(hk:k<cs.length)(h:(Bc fs cs[k]).2.2=false):jB fs (cs.take (k+1))=jB fs (cs.take k):=ZXJ
theorem AyM(fs)(cs:List Y_)(k):(jB fs (cs.take k)).length<=cs.length:=by unfold jB;exact ZVj
theorem AxH{fs}(h:Be fs=true):jB fs (Ir (fs.map Fwd.src))=Q7 fs:=by unfold jB Q7;rw[aQ h]
theorem AbP(v fs c w)(hv:R_ w v fs)(hz:c.size<=maxLen)(hk:Be fs=true):
 C_ 106 #[v,.string c] w (.tuple #[.string (rSv fs c).1,.int .i64 ((rSv fs c).2.1:Nat),.bool (rSv fs c).2.2]):=by
 have sg:=aA (fun W (hW:R_ W v fs)=>D2 v fs W hW);have js:=aA (fun W=>Cm c W hz);have qN:=aA (fun W (hW:R_ W v fs)=>It v fs c W hW hz (aI (Ch.1 hk).1 ZA));have HR:Hid (rSv fs c=if Ap c&&Be fs then Bc fs c else(⟨#[]⟩,0,false)):=rfl;rw[hk]at sg HR;refine' zR;obtain⟨A,n,cp,rfl, -, -, -, -⟩:=hv;rw[HR.out];clear HR hk hz;cases hc:Ap c
 .rw[hc]at js
  clear hc;show Calls Tryz.prog _ _ _ fun e w'=>e=.returned (.tuple #[.string ⟨#[]⟩,.int .i64 0,.bool false])/\B_ w w'
  go_enter func106,ntmps106
  go_wp2_with (first|(go_at_call 77;refine(sg.out _ HV.out).mono ?_;refine' ZP)|(go_at_call 94;refine' iB))
  go_ret3
  exact zv
 .rw[hc]at js
  clear hc;show Calls Tryz.prog _ _ _ fun e w'=>e=.returned (.tuple #[.string (Bc fs c).1,.int .i64 ((Bc fs c).2.1:Nat),.bool (Bc fs c).2.2])/\B_ w w'
  generalize(Bc fs c).1=r1 at *;generalize(Bc fs c).2.1=r2 at *;generalize(Bc fs c).2.2=r3 at *;go_enter func106,ntmps106
  go_wp2_with (first|(go_at_call 77;refine(sg.out _ HV.out).mono ?_;refine' ZP)|(go_at_call 94;refine' iB)|(go_at_call 78;refine(qN.out _ HV.out).mono ?_;refine' ZU))
  go_ret3
  exact⟨rfl,b1⟩
theorem ZB0(v xs s w)(hv:R_ w v xs)(hs:s.size<=maxLen)(hl:xs.length<=1000):
 Calls Tryz.prog 79 #[v,.string s] w fun e w'=>∃v',e=.returned v'/\own 9 w.heap.size w' v' (Kk xs s)/\B_ w w':=by
 refine' Tu;refine' zc;refine' ZLA;refine' ZLB;refine' d_;clear ae;go_enter func79,ntmps79
 refine' Zx;go_loopw[5,6,7] (fun t dn i wr=>∃(k:Nat) (d:Bool) (L:List Y_),k<=xs.length/\i=.int .i64 k/\dn=.bool d/\B_ w wr/\own 9 w.heap.size wr t L/\Hid ((d=false/\L=xs.take k/\∀x∈xs.take k,¬jP s x)\/(d=true/\L=Kk (xs.take k) s/\∃x∈xs.take k,jP s x))/\L.length<=k+d.toNat) (fun _ _ i _=>xs.length - (intOf i).toNat)
 case atStart=>exact⟨0,false,[],aN _,rfl,rfl,lA,oA,.inl ⟨rfl,rfl,fun x hx=>Wt⟩,ZF⟩
 case round=>
  obtain⟨k,d,L,hk,rfl,rfl,lr,ho,qx,JE⟩:=hrel;refine' zO;clear lA oA;refine' zY;refine' Oa;have jd:=lr.size;clear ho;by_cases ab:k<xs.length
  .obtain⟨b,o,rfl,hb,pI,y1⟩:=rdA.strU HR.out k ab
   have y1:=y1 w2 lr;have nt:Hid (xs.take (k+1)=xs.take k++[xs[k]]):=aJ ab;refine' zu;refine' YN;refine' zQ;cases d
   .have JE:L.length<=k:=JE
    have HI:Hid (L=xs.take k/\∀x∈xs.take k,¬jP s x):=by
     rcases qx.out with⟨_,h1,h2⟩|⟨h,_⟩
     .exact⟨h1,h2⟩
     .cases h
    clear qx;by_cases jq:jP s x
    .have nG:Hid (L++[s]++[x]=Kk (xs.take (k+1)) s/\∃z∈xs.take (k+1),jP s z):=⟨by rw[nt.out,ApA jq HI.out.2,HI.out.1],x,by rw[nt.out];simp,jq⟩
     have mK:Op.bytesLess s.toList x.toList=true:=by{rw[bytesLess_eq,bU,bU];exact aL jq};clear jq
     go_wp2_with (first|(at_builtin;refine An (α:=Y_) rfl (.tmp 25) (.tmp 27) 28 rfl w.heap.size 9 i0 _ 16 aW hi ah ar ap rfl ZE (.slice Av L.length cp) L s rfl (HO.out.alloc _) ⟨w2.heap.size,0,none⟩ 1 [.string s] rfl ⟨hs,rfl⟩ (Bz w2 _ [.string s]) ZN ZA ZH ?_;intro g cap w7 lM ce CF yC;refine' ZW8;have kq:=l7.size;clear lM ce CF)|(at_builtin;refine An (α:=Y_) rfl (.tmp 29) (.tmp 34) 28 rfl w.heap.size 9 i0 _ 16 aW hi ah ar ap rfl ZE (.slice (P_ g) (L.length+1) cap) (L++[s]) x rfl (pV.out.alloc _) ⟨w7.heap.size,0,none⟩ 1 [.string x] rfl ⟨pI,rfl⟩ (Bz w7 _ [.string x]) V5 ZH ZH ?_;intro g2 cap2 w8 uE il FC SE))
     have l8:B_ w w8:=(l7.alloc l7.size (aB #[.string x] 9)).grown il ZH fun r e=>(pV.out.blk r e).1
     rw[show(L++[s]).length=L.length+1 by simp]at uE;have iv:=aA uE;clear uE il FC
     go_roundw
     case rel=>exact⟨k+1,true,L++[s]++[x],ZA,ZJ,rfl,l8,iv.out,.inr ⟨rfl,nG.out.1,nG.out.2⟩,ZLC⟩
     case measure=>exact ZK
    .have nG:Hid (L++[x]=xs.take (k+1)/\∀z∈xs.take (k+1),¬jP s z):=⟨by rw[nt.out,HI.out.1],fun z hz=>by
      rw[nt.out]at hz;rcases List.mem_append.1 hz with h|h
      .exact HI.out.2 z h
      .rw[List.mem_singleton.1 h];exact jq⟩
     have mK:Op.bytesLess s.toList x.toList=false:=by{rw[bytesLess_eq,bU,bU];exact aP jq};clear jq
     refine' ZW9;go_roundw
     case rel=>exact⟨k+1,false,L++[x],ZA,ZJ,rfl,l8,iv.out,.inl ⟨rfl,nG.out.1,nG.out.2⟩,ZLC⟩
     case measure=>exact ZK
   .have JE:L.length<=k+1:=JE
    have HI:Hid (L=Kk (xs.take k) s/\∃x∈xs.take k,jP s x):=by
     rcases qx.out with⟨h,_⟩|⟨_,h1,h2⟩
     .cases h
     .exact⟨h1,h2⟩
    have nG:Hid (L++[x]=Kk (xs.take (k+1)) s/\∃z∈xs.take (k+1),jP s z):=⟨by rw[nt.out,AkY HI.out.2,HI.out.1],by obtain⟨z,hz,hl⟩:=HI.out.2;exact⟨z,by rw[nt.out];exact List.mem_append_left _ hz,hl⟩⟩
    clear qx
    refine' ZW9;go_roundw
    case rel=>exact⟨k+1,true,L++[x],ZA,ZJ,rfl,l8,iv.out,.inr ⟨rfl,nG.out.1,nG.out.2⟩,ZLC⟩
    case measure=>exact ZK
  .have HE:Hid (xs.take k=xs):=bB ZA
   have bd:¬(k:Int)<(xs.length:Int):=ZA
   rw[HE.out]at qx;have JE:L.length<=1001:=by{cases d<;>simp[Bool.toNat]at JE<;>omega};cases d
   .have HI:Hid (L++[s]=Kk xs s):=by
     rcases qx.out with⟨_,h1,h2⟩|⟨h,_⟩
     .show _=_;rw[AjU h2,h1]
     .cases h
    clear qx HE
    go_wp2_with (at_builtin;refine An (α:=Y_) rfl (.tmp 38) (.tmp 40) 28 rfl w.heap.size 9 i0 _ 16 aW hi ah ar ap rfl ZE (.slice Av L.length cp) L s rfl (HO.out.alloc _) ⟨w2.heap.size,0,none⟩ 1 [.string s] rfl ⟨hs,rfl⟩ (Bz w2 _ [.string s]) ZN ZA ZH ?_;intro g cap w7 lM ce CF yC)
    refine' ZW8;clear lM ce CF
    go_ret;exact⟨_,rfl,by rw[<-HI.out];exact pV.out,l7⟩
   .have HI:Hid (L=Kk xs s):=by
     rcases qx.out with⟨h,_⟩|⟨_,h1,_⟩
     .cases h
     .exact h1
    clear qx HE
    refine' ZI;exact⟨_,rfl,by rw[<-HI.out];exact HO.out,lr⟩
theorem AmY(v)(fs:List Fwd)(oU w)(hv:R_ w v fs)(hl:fs.length<=1000):
 Calls Tryz.prog 178 #[v,.int .i64 oU] w fun e w'=>∃v',e=.returned v'/\own 128 w.heap.size w' v' (wo fs oU)/\B_ w w':=by
 refine' Tu;refine' Tr;obtain⟨wA,ae⟩:∃u,u=w.alloc (aB #[] 128):=⟨_,rfl⟩;have oA:own (α:=Fwd) 128 w.heap.size wA (.slice (P_ w.heap.size) 0 0) []:=ZLD
 refine' ZLE;refine' d_;clear ae;go_enter func178,ntmps178
 refine' Zx;go_loopw[5,6] (fun t i wr=>∃k:Nat,k<=fs.length/\i=.int .i64 k/\B_ w wr/\own 128 w.heap.size wr t (wo (fs.take k) oU)) (fun _ i _=>fs.length - (intOf i).toNat)
 case atStart=>exact⟨0,aN _,rfl,lA,oA⟩
 case round=>
  refine' Wu;refine' zO;clear lA oA;by_cases ab:k<fs.length
  .obtain⟨b,o,rfl,hb,⟨qD,QT⟩,y1,y2⟩:=HR.out.fwdU k ab
   have y1:=y1 w2 lr;have y2:=y2 w2 lr;have HT:=aA (Z7 ab oU);have jV:=aI (I_ (fs.take k) oU) (zF:(fs.take k).length<=fs.length);refine' YR;generalize wo (fs.take k) oU=L at *;refine' zY;refine' Oa;have jd:=lr.size;clear ho;refine' Zd;refine' zQ;by_cases he:(k:Int)=oU
   .rw[aQ he]at HT
    have XY:((k:Int)==oU)=true:=beq_iff_eq.2 he
    refine' ZC;go_roundw
    case rel=>exact⟨k+1,ZA,ZJ,lr,by rw[HT.out];exact HO.out⟩
    case measure=>exact ZK
   .rw[aM he]at HT
    have XY:((k:Int)==oU)=false:=beq_eq_false_iff_ne.2 he
    go_wp2_with (at_builtin;refine An (α:=Fwd) rfl (.tmp 17) (.tmp 22) 31 rfl w.heap.size 128 i1 _ 32 dY ji dr du dw rfl ZE (.slice Av L.length cp) L x rfl (HO.out.alloc _) ⟨w2.heap.size,0,none⟩ 1 (Fwd.cells x) rfl ⟨⟨qD,QT⟩,rfl⟩ (Bz w2 _ (Fwd.cells x)) ZN ZA ZH ?_;intro g cap w8 uE il FC SE)
    have l8:B_ w w8:=(lr.alloc lr.size (aB #[.string x.src,.string x.dst] 128)).grown il ZH fun r e=>(HO.out.blk r e).1
    have iv:=aA uE;clear uE il FC
    go_roundw
    case rel=>exact⟨k+1,ZA,ZJ,l8,by rw[HT.out];exact iv.out⟩
    case measure=>exact ZK
  .have HE:Hid (fs.take k=fs):=bB ZA
   refine' ZLF;rw[HE.out]at ho;refine' zY;obtain⟨Av,m,cp,rfl, -, -, -, -⟩:=ho.rd;clear ho
   refine' ZI;exact⟨_,rfl,HO.out,lr⟩
theorem ZDX(v fs c w)(hv:R_ w v fs)(hk:Be fs=true):
 Calls Tryz.prog 96 #[v,.string c] w fun e w'=>∃v',e=.returned (.tuple #[v',.bool (Jy fs c)])/\own 128 w.heap.size w' v' (N6 fs c)/\B_ w w':=by
 have SF:=aA (Om v fs c w hv);have sg:=aA (D2 v fs w hv);rw[hk]at sg;have HQ:Hid (Jy fs c=decide (0<=Gg fs c)):=by show _=_;unfold Jy;rw[hk,fF]
 have HF:Hid (N6 fs c=if Jy fs c then wo fs (Gg fs c)else []):=rfl;have na:=aA (AmY v fs (Gg fs c) w hv (aI (Ch.1 hk).1 ZA));obtain⟨A,n,cp,rfl, -, -, -, -⟩:=hv;rw[HF.out,HQ.out];clear HF HQ hk;generalize Gg fs c=q at *;by_cases hq:0<=q
 .rw[aL hq,aQ rfl]
  have sH:¬q<0:=ZA
  refine' ZXA;refine' ZXB;refine' X3;clear o1 b1
  refine' ZQ;exact⟨_,rfl,HO.out,HB.out⟩
 .rw[aP hq]
  have sH:q<0:=ZA
  refine' ZXA;go_ret2;exact⟨_,rfl,own.made0 _ _ (aC _),(aF _ _).alloc (aC _) _⟩
theorem ZBQ(v fs a b w)(hv:R_ w v fs)(hk:Be fs=true)(ha:a.size<=maxLen)(hb:b.size<=maxLen):
 Calls Tryz.prog 95 #[v,.string a,.string b] w fun e w'=>∃v',e=.returned (.tuple #[v',.bool (Ig fs a b)])/\own 128 w.heap.size w' v' (My fs a b)/\B_ w w':=by
 refine' zR;have sR:=(Ch.1 hk).1;have SF:=aA (Om v fs a w hv);have sg:=aA (fun W (hW:B_ w W)=>D2 v fs W (hv.on hW));rw[hk]at sg;have HQ:Hid (Ig fs a b=(Be (Lh fs a b)&&(Bc (Lh fs a b) a).2.2)):=by show _=_;unfold Ig;rw[hk,fF]
 have HF:Hid (My fs a b=if Ig fs a b then Lh fs a b else []):=rfl;have na:=aA (AmY v fs (Gg fs a) w hv ZA);have NO:Hid (Lh fs a b=wo fs (Gg fs a)++[⟨a,b⟩]):=rfl;have de:(wo fs (Gg fs a)).length<=30:=aI (I_ _ _) sR;obtain⟨A,n,cp,rfl, -, -, -, -⟩:=hv;have xU:(Lh fs a b).length<=31:=by rw[NO.out,aT,cE];omega
 rw[HF.out];refine' Tr;clear HF hk;generalize Lh fs a b=ad at *;generalize Ig fs a b=ok at *;generalize Gg fs a=q at *;generalize wo fs q=L at *;go_enter func95,ntmps95
 refine' ZC;refine SF.out.mono ?_;refine' ZP;refine' ZC;refine' ZXB;obtain⟨A1,m,c1,rfl,qq, -, -, -⟩:=o1.rd;subst qq;have ie:=b1.size;clear o1 b1
 go_wp2_with (at_builtin;refine An (α:=Fwd) rfl (.tmp 16) (.tmp 20) 31 rfl w.heap.size 128 i1 _ 32 dY ji dr du dw rfl ZE (.slice A1 L.length c1) L ⟨a,b⟩ rfl (HO.out.alloc _) ⟨w1.heap.size,0,none⟩ 1 (Fwd.cells ⟨a,b⟩) rfl ⟨⟨ha,hb⟩,rfl⟩ (Bz w1 _ (Fwd.cells ⟨a,b⟩)) ZN ZA ZH ?_;intro g cap w2 kn jl qj qF)
 have l2:B_ w w2:=(HB.out.alloc HB.out.size (aB #[.string a,.string b] 128)).grown jl ZH fun r e=>(HO.out.blk r e).1
 have NP:own 128 w.heap.size w2 (.slice (P_ g) (L.length+1) cap) ad:=by rw[NO.out];exact kn
 have im:=aA NP;have ta:=aA (D2 _ ad w2 im.out.rd);have JF:=aA (It _ ad a w2 im.out.rd ha ZA);have FD:=aA (sg.out w2 l2);have ig:=aA l2;clear kn jl qj NP l2 sg;cases hf:Be ad
 .have HK:Hid (ok=false):=by show _=_;rw[HQ.out,hf];rfl
  rw[hf]at ta;have hk:=HK.out;subst hk;clear hf
  go_wp2_with (refine' ZXC)
  go_ret2;exact⟨_,rfl,own.made0 _ _ ig.out.size,ig.out.alloc ig.out.size _⟩
 .have HK:Hid (ok=(Bc ad a).2.2):=by show _=_;rw[HQ.out,hf];rfl
  rw[hf]at ta;clear hf;generalize(Bc ad a).1=r1 at *;generalize(Bc ad a).2.1=r2 at *;cases fy:(Bc ad a).2.2
  .refine' ZXD;go_ret2;exact⟨_,rfl,own.made0 _ _ l3.size,l3.alloc l3.size _⟩
  .refine' ZXD;have o3:=im.out.below b3;go_ret2;exact⟨_,rfl,o3,l3⟩
theorem AaS(v fs w)(hv:R_ w v fs)(ag:Be fs=true):
 Calls Tryz.prog 32 #[v] w fun e w'=>∃v',e=.returned v'/\own 9 w.heap.size w' v' (N2 fs)/\B_ w w':=by
 refine' ZXE;have jZ:=aA (fun k=>AyR (k:=k) ag);refine' ZLA;refine' ZLB;refine' d_;clear ae ag;go_enter func32,ntmps32
 refine' Zx;go_loopw[3,4] (fun t i wr=>∃k:Nat,k<=fs.length/\i=.int .i64 k/\B_ w wr/\own 9 w.heap.size wr t (Ym fs k)) (fun _ i _=>fs.length - (intOf i).toNat)
 case atStart=>exact⟨0,aN _,rfl,lA,by rw[AtS];exact oA⟩
 case round=>
  refine' Wu;refine' zO;clear lA oA;by_cases ab:k<fs.length
  .refine' ZXF;have HY:=aA (AyI ab);have HS:=aA (Aw4 ab);have jV:=AxI fs k;have qN:=aA (fun W (hW:B_ w W)=>It _ fs fs[k].src W (HV.out.on hW) h7 ZA);refine' YR;obtain⟨p,q⟩:=x;simp only at h7 y1 HY HS qN;refine' ZRz;generalize Ym fs k=L at *;refine' zY;refine' Oa;clear ho;refine' Zd;refine' zQ;have y2:=y1 w2 lr;cases f3
   .have rj:=aA (fun W (hW:B_ w W) (o:own 9 w.heap.size W (.slice Av L.length cp) L)=>ZB0 _ L p W o.rd h7 ZA)
    have FE:=aA (HY.out rfl);clear HS HY
    go_wp2_with (first|refine' ZLG|refine' ZXG|(go_at_call 79;refine(rj.out _ l3 o3).mono ?_;refine' Rs))
    have l4:=l3.trans (b4.mono l3.size);have jx:=aA (o4.base_ l3.size);obtain⟨A4,n4,c4,rfl, -, -, -, -⟩:=o4.rd;clear o4 b4
    go_roundw
    case rel=>exact⟨k+1,ZA,ZJ,l4,by rw[FE.out];exact jx.out⟩
    case measure=>exact ZK
   .have FE:=aA (HS.out rfl)
    clear HS HY
    go_wp2_with (first|refine' ZLG|refine' ZXG)
    go_roundw
    case rel=>exact⟨k+1,ZA,ZJ,l3,by rw[FE.out];exact o3⟩
    case measure=>exact ZK
  .have tH:k=fs.length:=ZA
   refine' ZLF;have HQ:=aA (jZ.out k tH);rw[HQ.out]at ho;refine' zY;obtain⟨Av,m,cp,rfl, -, -, -, -⟩:=ho.rd;clear ho tH
   refine' ZI;exact⟨_,rfl,HO.out,lr⟩
theorem ZDY(v fs w)(hv:R_ w v fs)(ag:Be fs=true):
 Calls Tryz.prog 33 #[v] w fun e w'=>∃v',e=.returned v'/\own 128 w.heap.size w' v' (Q7 fs)/\B_ w w':=by
 refine' ZXE;have HCM:Hid (∀x∈Ir (fs.map Fwd.src),x.size<=maxLen):=fun x hx=>by obtain⟨y,hy,rfl⟩:=List.mem_map.1 ((Pn _).mem_iff.1 hx);obtain⟨i,hi,rfl⟩:=bP hy;exact HC.out i hi
 have jZ:=aA (AxH ag);have HH:Hid (∀c:Y_,c.size<=maxLen->(Bc fs c).1.size<=maxLen):=fun c h=>ZCm ag h
 refine' Tr;refine' ZLA;obtain⟨wB,ai⟩:∃u,u=wA.alloc (aB #[] 128):=⟨_,rfl⟩;refine' ZLB;refine' O_;have oB:own (α:=Fwd) 128 w.heap.size wB (.slice (some ⟨w.heap.size+1,0,none⟩) 0 0) []:=ZXH
 have DL:own (α:=Y_) 9 w.heap.size wB (.slice (P_ w.heap.size) 0 0) []:=by rw[ai];exact oA.alloc _
 refine' ZXI;have SG:Hid ((fs.map Fwd.src).length=fs.length):=Y8
 clear ae ai oA lA ag;go_enter func33,ntmps33
 refine' Zr;go_loopw[3,5] (fun t i wr=>∃k:Nat,k<=fs.length/\i=.int .i64 k/\B_ w wr/\own 9 w.heap.size wr t (fW (fs.map Fwd.src) k)/\own (α:=Fwd) 128 w.heap.size wr (.slice (some ⟨w.heap.size+1,0,none⟩) 0 0) []/\Hid (apart t (.slice (some ⟨w.heap.size+1,0,none⟩) 0 0))) (fun _ i _=>fs.length - (intOf i).toNat)
 case atStart=>exact⟨0,aN _,rfl,lB,by rw[AvW];exact DL,oB,lp.out⟩
 case round=>
  obtain⟨k,hk,rfl,lr,ho,NQ,fe⟩:=hrel;refine' zO;clear lB DL oB;by_cases ab:k<fs.length
  .refine' ZXF;have HS:=aA (AkV (cs:=fs.map Fwd.src) (k:=k) (by rw[SG.out];exact ab));rw[fD]at HS;have jV:=ApB (cs:=fs.map Fwd.src) (k:=k) (by rw[SG.out];exact hk);refine' YR;obtain⟨p,q⟩:=x;simp only at h7 y1 HS;have hln':(fW (fs.map Fwd.src) k).length<=30:=ZA
   clear jV;generalize fW (fs.map Fwd.src) k=L at *;refine' zY;have xI:=aA NQ;refine' Oa;have hblt:=(NQ.blk _ rfl).2;clear ho NQ;refine' Zd;refine' zQ;have y2:=y1 w2 lr;have rj:=aA (ZB0 _ L p w2 HO.out.rd h7 ZA)
   go_wp2_with (first|refine' ZLG|(go_at_call 79;refine rj.out.mono ?_;refine' Rs))
   have l4:=lr.trans (b4.mono lr.size);have jx:=aA (o4.base_ lr.size);have XZ:=aA (xI.out.below b4);have HAP4:Hid (apart v4 (.slice (some ⟨w.heap.size+1,0,none⟩) 0 0)):=by
    show apart _ _;rcases t8:v4.ownBlock with _|g4
    .exact .inl t8
    .refine' YQ;rw[t8]at e;have e:some g4=some (w.heap.size+1):=e;refine' YC;have:=(o4.blk g4 t8).1;omega
   obtain⟨A4,n4,c4,rfl, -, -, -, -⟩:=o4.rd;clear o4 b4
   go_roundw
   case rel=>exact⟨k+1,ZA,ZJ,l4,by rw[HS.out];exact jx.out,XZ.out,HAP4.out⟩
   case measure=>exact ZK
  .refine' ZLF;have HQ:=aA (Az0 (cs:=fs.map Fwd.src) (k:=k) (by rw[SG.out];omega));rw[HQ.out]at ho;have uw:(Ir (fs.map Fwd.src)).length=fs.length:=by rw[(Pn _).length_eq,SG.out]
   obtain⟨cs,ax⟩:∃cs,Ir (fs.map Fwd.src)=cs:=⟨_,rfl⟩;rw[ax]at ho uw HCM jZ;have hcl30:cs.length<=30:=ZA
   clear ax uw HQ bd;refine' zY;have xI:=aA NQ;refine' Oa;clear ho NQ
   refine' ZC;go_loopw[4,6] (fun t i wr=>∃j:Nat,j<=cs.length/\i=.int .i64 j/\B_ w wr/\own 128 w.heap.size wr t (jB fs (cs.take j))/\own 9 w.heap.size wr (.slice Av cs.length cp) cs/\Hid (apart (.slice Av cs.length cp) t)) (fun _ i _=>cs.length - (intOf i).toNat)
   case atStart=>exact⟨0,aN _,rfl,lr,xI.out,HO.out,fe.out⟩
   case round=>
    obtain⟨j,hj,rfl,uG,ho,hoC,FF⟩:=hrel;refine' zd;clear HO xI fe lr;by_cases jq:j<cs.length
    .have HOC:=aA hoC
     have HX:=aA (HCM.out _ (aS jq));obtain⟨A',n',c',EF,j9,gp,xw,cj⟩:=hoC.rd;obtain⟨b2,o2,rm,dq,pN,y1⟩:=rdA.strU cj j jq;cases EF;subst rm;have y3:=y1 w3 (aF _ _);have mE:=aA (AxP (fs:=fs) jq);have uk:=aA (Au0 (fs:=fs) jq);have rQ:=AyM fs cs j;generalize cs[j]=x at *;have dj:=aA (HH.out x HX.out);have qN:=aA (fun W (hW:B_ w W)=>It _ fs x W (HV.out.on hW) HX.out ZA);obtain⟨f1,rY⟩:∃f,(Bc fs x).1=f:=⟨_,rfl⟩;obtain⟨f2,xk⟩:∃f,(Bc fs x).2.1=f:=⟨_,rfl⟩;obtain⟨f3,kc⟩:∃f,(Bc fs x).2.2=f:=⟨_,rfl⟩;rw[rY,xk,kc]at qN;rw[kc]at mE uk;rw[rY]at mE dj;have hx:=HX.out;have tS:=dj.out;clear rY xk kc hoC cj;generalize jB fs (cs.take j)=D at *;refine' ZK8;clear ho;have ly:(j:Int)<(cs.length:Int):=ZA
     refine' ZGE;cases f3
     .have FE:=aA (uk.out rfl)
      clear mE uk
      go_wp2_with (go_at_call 78;refine(qN.out _ uG).mono ?_;refine' YP)
      have l4:=uG.trans (b4.mono uG.size);have o4:=HO.out.below b4;have SH:=HOC.out.below b4
      go_roundw
      case rel=>exact⟨j+1,ZA,ZJ,l4,by rw[FE.out];exact o4,SH,FF.out⟩
      case measure=>exact ZK
     .have FE:=aA (mE.out rfl)
      clear mE uk
      go_wp2_with (first|(go_at_call 78;refine(qN.out _ uG).mono ?_;refine' YP;have l4:=uG.trans (b4.mono uG.size);have nl:=l4.size;have o4:=aA (HO.out.below b4);have SH:=aA (HOC.out.below b4);have y4:=y1 w4 b4)|(at_builtin;refine An (α:=Fwd) rfl (.tmp 46) (.tmp 53) 31 rfl w.heap.size 128 i1 _ 32 dY ji dr du dw rfl ZE (.slice Ad D.length cd) D ⟨x,f1⟩ rfl (o4.out.alloc _) ⟨w4.heap.size,0,none⟩ 1 (Fwd.cells ⟨x,f1⟩) rfl ⟨⟨hx,tS⟩,rfl⟩ (Bz w4 _ (Fwd.cells ⟨x,f1⟩)) ZN ZA ZH ?_;refine' zH))
      have l5:B_ w w5:=(l4.alloc l4.size (aB #[.string x,.string f1] 128)).grown aj ZH fun r e=>(o4.out.blk r e).1
      have oc5:=(SH.out.alloc (aB #[.string x,.string f1] 128)).grown aj (by
       rcases FF.out with h|h
       .exact .inl h
       .exact .inr h)
      have hap5:=aA (Br (Dg (n:=D.length+1) (c:=cap) (Br FF.out) cy fun r hr=>by have:=(SH.out.blk r hr).2;exact ZH));refine' Xz;have HOC5:=aA oc5;clear cg aj cy oc5
      go_roundw
      case rel=>exact⟨j+1,ZA,ZJ,l5,by rw[FE.out];exact iu.out,HOC5.out,hap5.out⟩
      case measure=>exact ZK
    .have HE:Hid (cs.take j=cs):=bB ZA
     have ly:¬(j:Int)<(cs.length:Int):=ZA
     rw[HE.out,jZ.out]at ho;refine' zY;refine' ZK9;clear ho
     refine' ZI;exact⟨_,rfl,HO.out,uG⟩
theorem Oo{w:World}{g}{T:TypeId}{x}(h:w.heap[g]? =some (.cells #[x] T (0,0))):∀j u,[x][j]? =some u->w.cell? ((⟨g,0,none⟩:Addr).add j)=some u:=fun j u hu=>by rw[Ii,bV,eG _ _ _ _ _ _ h];simpa using hu
theorem ZDm{p f t}(h:Eg p f t=false):Ei p f t=⟨0,0,[]⟩:=by unfold Ei;rw[h];rfl
theorem Ac6{p f t}(h:Eg p f t=true):Ei p f t=⟨p.bins,p.passes,Ju p.order f.toNat t.toNat⟩:=by unfold Ei;rw[aQ h]
end Go.Proofs.YtfadhdacjpmmeaaGreatDoor

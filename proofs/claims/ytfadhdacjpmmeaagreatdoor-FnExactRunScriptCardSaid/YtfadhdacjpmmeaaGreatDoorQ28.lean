/- Parts. -/
import Derived.Test.YtfadhdacjpmmeaaGreatDoorQ26
set_option linter.unusedVariables false
set_option linter.unusedSimpArgs false
namespace Go.Proofs.YtfadhdacjpmmeaaGreatDoor
set_option maxRecDepth 100000
set_option maxHeartbeats 3200000
open Go.IntKind renaming i64→aI
open Go.Obj renaming cells→aC
open Go.Proofs.Tryz renaming prog→aB
open Go.Value renaming string→aK,int→bC
open Go.RowKit
theorem V0{c}:∀{p:List UInt8},c∉p→spl c p=[p]
 |[],_=>rfl
 |b::p,h=>by refine' ZFi;exact Nk hb (V0 fun m=>h (bK _ m))
theorem AeO{c}(s):∀{p:List UInt8},c∉p→spl c (p++c::s)=p::spl c s
 |[],_=>AcG c s
 |b::p,h=>by refine' ZFi;exact Nk hb (AeO s fun m=>h (bK _ m))
theorem Po{α:Type}(sep a b:List α)(l):sep.intercalate (a::b::l)=a++sep++sep.intercalate (b::l):=ZEk
theorem V4{α:Type}(sep a:List α):sep.intercalate [a]=a:=ZEk
theorem AhR{c}:∀(ps:List (List UInt8)),ps≠[]→(∀p∈ps,c∉p)→spl c ([c].intercalate ps)=ps
 |[],h,_=>absurd rfl h
 |[p],_,h=>by rw[V4];exact V0 (h p ZE)
 |p::q::ps,_,h=>by rw[Po,bY,List.singleton_append,AeO _ (h p ZE),AhR (q::ps) ZE fun x hx=>h x (bK _ hx)]
theorem AhL(c):∀s:List UInt8,[c].intercalate (spl c s)=s
 |[]=>by show [c].intercalate [[]]=[];rw[V4]
 |b::s=>by
  have ih:=AhL c s;obtain⟨p,ps,hp⟩:=fT (AcF c s);by_cases hb:b=c
  ·subst hb
   rw[AcG,hp,Po,←hp,ih];rfl
  ·rw[Nk hb hp]
   rw[hp]at ih;cases ps with
   |nil=>rw[V4]at ih⊢;rw[ih]
   |cons q ps=>rw[Po]at ih⊢;rw[←ih];simp
theorem As2{c}:∀{s:List UInt8} {i:Nat},Lib.indexByte s c=(i:Int)→s=s.take i++c::s.drop (i+1)
 |[],i,h=>by have:(-1:Int)=(i:Int):=h;omega
 |b::s,i,h=>by
  rw[Rw]at h;have hg:=Lib.indexByte_ge s c
  split at h
  ·rename_i hb
   have e:i=0:=ZA
   subst e hb;rfl
  ·refine' ZQQ;have:=As2 h1;show b::s=b::(s.take j++c::s.drop (j+1));rw[←this]
theorem Am0{c}(s):∀{p:List UInt8},c∉p→Lib.indexByte (p++c::s) c=(p.length:Int)
 |[],_=>by rw[bV,Rw,aP rfl];rfl
 |b::p,h=>by
  refine' ZFi;have ih:=Am0 s (p:=p) fun m=>h (bK _ m)
  rw[dB,Rw,aL hb,aL ZA,ih];simp
theorem O8(ps):(Cg ps spT).data.toList=[(32:UInt8)].intercalate (ps.map (·.data.toList)):=by unfold Cg Lib.join;simp[spT]
theorem Si{ps}(bj:ps≠[])(h:∀p∈ps,(32:UInt8)∉p.data.toList):Aj 32 (Cg ps spT)=ps:=by
 unfold Aj;rw[O8,AhR _ (by simpa using bj) zG,gX]
 exact ZQR
theorem Yl(t):Cg (Aj 32 t) spT=t:=by refine Cv ?_;rw[O8];refine' ZQS;exact AhL 32 _
theorem Pj(t):Aj 32 t≠[]:=by unfold Aj;simp[AcF]
theorem Ut(s:ByteArray)(i):(s.extract 0 i).data.toList=s.data.toList.take i:=by refine' ZBr;simp
theorem J3(s:ByteArray)(i):(s.extract i s.size).data.toList=s.data.toList.drop i:=by refine' ZBr;simp;exact bA (by rw[dO];exact eJ (aT (fun z=>z - i) (by rw[gL];rfl)))
theorem AwN{x y}(h:K7 x=some y):Ek y=x:=by
 unfold K7 E5 at h
 split at h
 ·cases h
 ·rename_i hn
  obtain⟨i,hi⟩:∃i:Nat,Lib.indexByte x.data.toList 62=(i:Int):=⟨(Lib.indexByte x.data.toList 62).toNat,ZA⟩;rw[hi]at h;simp only[Option.map_some,jE,bE]at h;rw[←h];refine Cv ?_;unfold Ek;rw[B6,B6,Ut,J3]
  conv=>rhs;rw[As2 hi]
  simp
theorem Av6{p q}(h:(62:UInt8)∉p.data.toList):K7 (Ek ⟨p,q⟩)=some ⟨p,q⟩:=by
 have hd:(Ek ⟨p,q⟩).data.toList=p.data.toList++62::q.data.toList:=by unfold Ek;rw[B6,B6];simp
 have hi:Lib.indexByte (Ek ⟨p,q⟩).data.toList 62=(p.data.toList.length:Int):=by rw[hd];exact Am0 _ h
 unfold K7;rw[Nt hi];simp only[Option.map_some,jE];have e1:(Ek ⟨p,q⟩).extract 0 p.data.toList.length=p:=Cv (by rw[Ut,hd];simp);have e2:(Ek ⟨p,q⟩).extract (p.data.toList.length+1) (Ek ⟨p,q⟩).size=q:=Cv (by rw[J3,hd,show p.data.toList++62::q.data.toList=(p.data.toList++[62])++q.data.toList by simp];exact List.drop_left' ZE)
 rw[e1,e2]
theorem An0:∀{ps:List ByteArray},Ko ps=true→(Fx ps).map Ek=ps
 |[],_=>rfl
 |x::ps,h=>by unfold Ko at h;refine' ZCY;unfold Fx;rw[dV,hy];show Ek y::(Fx ps).map Ek=_;rw[AwN hy,An0 h.2]
theorem AjQ:∀{rs:List Fwd},(∀r∈rs,(62:UInt8)∉r.src.data.toList)→Fx (rs.map Ek)=rs∧Ko (rs.map Ek)=true
 |[],_=>⟨rfl,rfl⟩
 |r::rs,h=>by
  have h1:=Av6 (p:=r.src) (q:=r.dst) (h r ZE);obtain⟨i1,i2⟩:=AjQ (rs:=rs) fun x hx=>h x (bK _ hx)
  unfold Fx Ko at *;exact ZQT
theorem Iw{l}(h:Ea l=true):∀b∈l,48≤b.toNat∧b.toNat≤57:=by unfold Ea at h;intro b hb;have:=List.all_eq_true.1 h b hb;simpa [dig]using this
theorem AgS{l}(h:AaA l=true):∀b∈l,97≤b.toNat∧b.toNat≤122:=by unfold AaA at h;intro b hb;have:=List.all_eq_true.1 h b hb;simpa [low]using this
theorem ArQ{rs}(h:C7 rs=true):∀r∈rs,(62:UInt8)∉r.src.data.toList∧(32:UInt8)∉(Ek r).data.toList∧2≤(Ek r).size:=fun r hr=>by
 refine' ZQU;have a3:=(Kb.1 h2).2.1;refine⟨fun m=>?_,fun m=>?_,?_⟩
 ·have:=a1 _ m
  simp at this
 ·exact ZQV
 ·unfold Ek
  refine' ZEs;show 2≤_+1+_;omega
theorem AuU:C7 []=true:=ZF
theorem AuH{rs}(h:C7 rs=true):Qu (Jj rs)=true∧prR (Jj rs)=rs:=by
 by_cases h0:rs.length=0
 ·have e:rs=[]:=bQ h0
  subst e;rw[Lu h h0];have hs:sEq (⟨#[45]⟩:ByteArray) ⟨#[45]⟩=true:=Mq _;unfold Qu prR;rw[hs];exact ZV
 ·have hb:=ArQ h
  have bj:rs.map Ek≠[]:=fun e=>h0 (by rw[←bF (f:=Ek),e];rfl)
  rw[M8 h h0];have hp:=Si bj (fun p hp=>by obtain⟨r,hr,rfl⟩:=List.mem_map.1 hp;exact(hb r hr).2.1)
  obtain⟨g1,g2⟩:=AjQ (rs:=rs) fun r hr=>(hb r hr).1
  have hs:sEq (Cg (rs.map Ek) spT) ⟨#[45]⟩=false:=F6.2 fun e=>by
   rw[e]at hp;have hd:Aj 32 (⟨#[45]⟩:ByteArray)=[⟨#[45]⟩]:=ZS
   rw[hd]at hp;have hm:(⟨#[45]⟩:ByteArray)∈rs.map Ek:=by rw[←hp];simp
   obtain⟨r,hr,e2⟩:=List.mem_map.1 hm;have:=(hb r hr).2.2;rw[e2]at this;exact absurd this ZF
  have hS:Kc (Cg (rs.map Ek) spT)=true:=by unfold Kc;rw[hp,g1,g2,h,aJ (by refine' za;exact(Ev.1 h).1)];rfl
  unfold Qu prR;rw[hs,hS,hp,g1];exact⟨rfl,ZE⟩
theorem Al9{t}(h:Qu t=true):Jj (prR t)=t:=by
 unfold Qu at h;unfold prR;cases hs:sEq t ⟨#[45]⟩
 ·rw[hs,Bool.false_or]at h
  rw[aL ZE,aP h];unfold Kc at h;refine' YS;obtain⟨⟨h1,h2⟩,h3⟩:=h;have hl:=L9 _ h1;have pO:(Aj 32 t).length≠0:=fun e=>Pj t (bQ e)
  rw[M8 h3 ZA,An0 h1,Yl]
 ·rw[aP rfl,Lu AuU rfl]
  exact(Ec.1 hs).symm
def Ua(t:ByteArray):Bool:=Ko ((Aj 32 t).take 21)&&sEq (Jj (Fx ((Aj 32 t).take 21))) t
theorem BcP{t}(ci:sEq t ⟨#[45]⟩=false):Ua t=Kc t∧(Kc t=true→Fx ((Aj 32 t).take 21)=Fx (Aj 32 t)):=by
 have h1:Kc t=true→(Aj 32 t).take 21=Aj 32 t:=fun h=>by unfold Kc at h;exact ZIZ
 refine⟨?_,fun h=>by rw[h1 h]⟩;refine' ZAU;constructor
 ·intro h
  unfold Ua at h;refine' ZFj;have hg:=L9 _ ha;cases hr:C7 (Fx ((Aj 32 t).take 21))
  ·rw[Vi hr]at he
   subst he;have hd:Aj 32 (⟨#[]⟩:ByteArray)=[⟨#[]⟩]:=ZS
   rw[hd]at ha;exact absurd ha ZS
  ·have hl:=(Ev.1 hr).1
   have pI:(Aj 32 t).length≤20:=by rw[hg,bH]at hl;omega
   have ht:(Aj 32 t).take 21=Aj 32 t:=bA ZA;rw[ht]at ha hr;unfold Kc;rw[ha,hr,aJ pI];rfl
 ·intro h
  have ht:=h1 h;have hf:=Al9 (t:=t) (by unfold Qu;rw[h];simp);unfold prR at hf;rw[aL (by rw[ci];simp),aP h]at hf;unfold Ua;rw[ht,hf,Mq];unfold Kc at h;refine' ZBR;rw[h.1.1];rfl
theorem Xo(s c):Lib.indexB s ⟨#[c]⟩=Lib.indexByte s.data.toList c:=by show Lib.index s.data.toList [c]=_;exact Lib.index_one _ _
theorem Ar3{c s}(h:Lib.indexByte s.data.toList c<0):Aj c s=[s]:=by unfold Aj;rw[AhH h];rfl
theorem ArJ{c s}{i:Nat}(hi:Lib.indexByte s.data.toList c=(i:Int)):Aj c s=s.extract 0 i::Aj c (s.extract (i+1) s.size):=by
 obtain⟨gh,iu⟩:=Mr hi;unfold Aj;rw[gh,cD];have e1:(⟨(s.data.toList.take i).toArray⟩:ByteArray)=s.extract 0 i:=Cv (by rw[Ut]);have e2:s.data.toList.drop (i+1)=(s.extract (i+1) s.size).data.toList:=by rw[J3]
 rw[e1,e2]
theorem Tc(c):∀(k:Nat) (s:ByteArray),Lib.countB s ⟨#[c]⟩=k→Lib.splitB ⟨#[c]⟩ 0 k s=Aj c s
 |0,s,hk=>by
  rcases Lib.indexB_cases s ⟨#[c]⟩with jt|⟨i,jt,_⟩
  ·rw[Lib.splitB_zero,Ar3 (by rw[←Xo,jt];decide)]
  ·have:=Lib.countB_hit s ⟨#[c]⟩ i (aD 1) jt
   omega
 |k+1,s,hk=>by
  rcases Lib.indexB_cases s ⟨#[c]⟩with jt|⟨i,jt,_⟩
  ·rw[Lib.countB_miss s _ jt]at hk;omega
  ·have h1:=Lib.countB_hit s ⟨#[c]⟩ i (aD 1) jt
   rw[Lib.splitB_hit ⟨#[c]⟩ 0 k s i jt,ArJ (by rw[←Xo];exact jt)];rw[show i+(⟨#[c]⟩:ByteArray).size=i+1 from rfl]at h1⊢;rw[Tc c k _ ZA];rfl
theorem Ad7(c s):(Aj c s).length=Lib.countB s ⟨#[c]⟩+1:=by rw[←Tc c _ s rfl];exact Lib.splitB_all ⟨#[c]⟩ (aD 1) 0 _ s rfl
theorem Lg(c s):(Aj c s).length≤s.size+1:=by rw[Ad7];have:=Lib.countB_le ⟨#[c]⟩ (aD 1) s.size s (aD _);omega
theorem Zs{c}:∀{l p:List UInt8},p∈spl c l→p.length≤l.length
 |[],p,h=>by simp[spl]at h;subst h;exact YV
 |b::l,p,h=>by
  by_cases hb:b=c
  ·subst hb
   rw[AcG]at h;rcases List.mem_cons.1 h with h|h
   ·subst h;exact ZZ
   ·exact jD (Zs h)
  ·obtain⟨q,qs,hq⟩:=fT (AcF c l)
   rw[Nk hb hq]at h;rcases List.mem_cons.1 h with h|h
   ·subst h
    exact Nat.succ_le_succ (Zs (c:=c) (l:=l) (by rw[hq];simp))
   ·exact jD (Zs (c:=c) (l:=l) (by rw[hq];exact bK _ h))
theorem Hi{c t p}(h:p∈Aj c t):p.size≤t.size:=by unfold Aj at h;obtain⟨l,hl,rfl⟩:=List.mem_map.1 h;have:=Zs hl;show l.toArray.size≤t.data.size;exact zT
theorem AjC{c}(p)(hp:c∉p.data.toList)(s):Aj c (p++⟨#[c]⟩++s)=p::Aj c s:=by
 unfold Aj;have e:(p++⟨#[c]⟩++s).data.toList=p.data.toList++c::s.data.toList:=by rw[B6,B6];simp
 rw[e,AeO _ hp,cD]
theorem AdO(c ps):(Cg ps ⟨#[c]⟩).data.toList=[c].intercalate (ps.map (·.data.toList)):=by unfold Cg Lib.join;simp
theorem An2{c ps}(bj:ps≠[])(h:∀p∈ps,c∉p.data.toList):Aj c (Cg ps ⟨#[c]⟩)=ps:=by
 unfold Aj;rw[AdO,AhR _ (by simpa using bj) zG,gX]
 exact ZQR
theorem AnC(c t):Cg (Aj c t) ⟨#[c]⟩=t:=by refine Cv ?_;rw[AdO];refine' ZQS;exact AhL c _
theorem AkK(c t):Aj c t≠[]:=by unfold Aj;simp[AcF]
theorem Ax8{c x a b}(h:E5 c x=some (a,b)):a++⟨#[c]⟩++b=x:=by
 unfold E5 at h
 split at h
 ·cases h
 ·rename_i hn
  obtain⟨i,hi⟩:∃i:Nat,Lib.indexByte x.data.toList c=(i:Int):=⟨(Lib.indexByte x.data.toList c).toNat,ZA⟩;rw[hi]at h;simp only[jE,bE,Prod.mk.injEq]at h;rw[←h.1,←h.2];refine Cv ?_;rw[B6,B6,Ut,J3]
  conv=>rhs;rw[As2 hi]
  simp
theorem At1{c p q}(h:c∉p.data.toList):E5 c (p++⟨#[c]⟩++q)=some (p,q):=by
 have hd:(p++⟨#[c]⟩++q).data.toList=p.data.toList++c::q.data.toList:=by rw[B6,B6];simp
 have hi:Lib.indexByte (p++⟨#[c]⟩++q).data.toList c=(p.data.toList.length:Int):=by rw[hd];exact Am0 _ h
 rw[Nt hi];have e1:(p++⟨#[c]⟩++q).extract 0 p.data.toList.length=p:=Cv (by rw[Ut,hd];simp);have e2:(p++⟨#[c]⟩++q).extract (p.data.toList.length+1) (p++⟨#[c]⟩++q).size=q:=Cv (by rw[J3,hd,show p.data.toList++c::q.data.toList=(p.data.toList++[c])++q.data.toList by simp];exact List.drop_left' ZE)
 rw[e1,e2]
section
variable{α:Type}(f:ByteArray→Option α)
def Ik(ps:List ByteArray):Bool:=ps.all fun x=>(f x).isSome
def Gl(ps:List ByteArray):List α:=ps.filterMap f
variable{f}
theorem Un:∀ps:List ByteArray,Ik f ps=true→(Gl f ps).length=ps.length
 |[],_=>rfl
 |x::ps,h=>by unfold Ik at h;refine' ZCY;unfold Gl;rw[dV,hy];show(Gl f ps).length+1=_;rw[Un ps h.2];rfl
theorem AbL{ps x}{y:α}(h:f x=some y):Gl f (ps++[x])=Gl f ps++[y]:=by unfold Gl;rw[List.filterMap_append];simp[h]
theorem V9(ps x):Ik f (ps++[x])=(Ik f ps&&(f x).isSome):=by unfold Ik;rw[dS];simp
theorem Vl{ps qs}(h:ps<+:qs)(hf:Ik f ps=false):Ik f qs=false:=by obtain⟨r,rfl⟩:=h;unfold Ik at *;rw[dS,hf];rfl
theorem AnB{g:α→ByteArray}(hg:∀x y,f x=some y→g y=x):∀{ps:List ByteArray},Ik f ps=true→(Gl f ps).map g=ps
 |[],_=>rfl
 |x::ps,h=>by unfold Ik at h;refine' ZCY;unfold Gl;rw[dV,hy];show g y::(Gl f ps).map g=_;rw[hg x y hy,AnB hg h.2]
theorem At8{g:α→ByteArray}:∀{rs:List α},(∀r∈rs,f (g r)=some r)→Gl f (rs.map g)=rs∧Ik f (rs.map g)=true
 |[],_=>⟨rfl,rfl⟩
 |r::rs,h=>by
  have h1:=h r ZE;obtain⟨i1,i2⟩:=At8 (rs:=rs) fun x hx=>h x (bK _ hx)
  unfold Gl Ik at *;exact ZQT
theorem Ab4{g:ByteArray→Option α}(hg:∀x y,f x=some y→g x=some y):∀{ps:List ByteArray},Ik f ps=true→Gl g ps=Gl f ps∧Ik g ps=true
 |[],_=>⟨rfl,rfl⟩
 |x::ps,h=>by unfold Ik at h;refine' ZCY;obtain⟨i1,i2⟩:=Ab4 hg (ps:=ps) h.2;unfold Gl Ik at *;rw[dV,dV,hy,hg x y hy,List.all_cons,hg x y hy,i2];exact⟨by rw[i1],rfl⟩
end
def Ia(o:Ofc):ByteArray:=o.name++⟨#[32]⟩++Jj o.rules
def Mx(net:List Ofc):ByteArray:=if Di net then Cg (net.map Ia) ⟨#[59]⟩else⟨#[]⟩
theorem AeI{net}(h:Di net=false):Mx net=⟨#[]⟩:=by unfold Mx;rw[h];rfl
theorem Vh{net}(h:Di net=true):Mx net=Cg (net.map Ia) ⟨#[59]⟩:=by unfold Mx;rw[aP h]
def Ib(x:ByteArray):Option Ofc:=(E5 32 x).bind fun p=>if Qu p.2 then some ⟨p.1,prR p.2⟩else none
def Jl(x:ByteArray):Option Ofc:=(E5 32 x).map fun p=>⟨p.1,prR p.2⟩
def Kx(t:ByteArray):Bool:=Ik Ib (Aj 59 t)&&decide ((Aj 59 t).length≤8)&&Di (Gl Ib (Aj 59 t))
def pnN(t:ByteArray):List Ofc:=if Kx t then Gl Ib (Aj 59 t)else []
theorem AvO{x o}(h:Ib x=some o):Ia o=x:=by
 refine' ZQa;split at h
 ·rename_i hb
  injection h with h;rw[←h];unfold Ia;rw[Al9 hb];exact Ax8 hc
 ·cases h
theorem Bb0{x o}(h:Ib x=some o):Jl x=some o:=by
 refine' ZQa;split at h
 ·injection h with h
  unfold Jl;rw[hc,←h];rfl
 ·cases h
theorem AtE{l}(h:AaA l=true){c}(hc:c.toNat<97):c∉l:=fun m=>by have:=AgS h c m;omega
theorem Al7{c b}:∀{ls:List (List UInt8)},b∈[c].intercalate ls→b=c∨∃l∈ls,b∈l
 |[],h=>by simp[List.intercalate]at h
 |[a],h=>by rw[V4]at h;exact .inr ⟨a,ZE,h⟩
 |a::d::ls,h=>by
  rw[Po,eC,eC]at h;rcases h with(h|h)|h
  ·exact .inr ⟨a,ZE,h⟩
  ·exact .inl zG
  ·rcases Al7 (ls:=d::ls) h with h|⟨l,hl,h⟩
   ·exact .inl h
   ·exact .inr ⟨l,bK _ hl,h⟩
theorem Bb6{rs}(h:C7 rs=true):∀r∈rs,(59:UInt8)∉(Ek r).data.toList:=fun r hr m=>by refine' ZQU;exact ZQV
theorem AxM(rs):(59:UInt8)∉(Jj rs).data.toList:=fun m=>by
 cases h:C7 rs
 ·rw[Vi h]at m;simp at m
 ·by_cases h0:rs.length=0
  ·rw[Lu h h0]at m;simp at m
  ·rw[M8 h h0,O8]at m
   rcases Al7 m with m|⟨l,hl,m⟩
   ·simp at m
   ·simp only[gX,List.mem_map]at hl
    obtain⟨r,hr,rfl⟩:=hl;exact Bb6 h r hr m
theorem AtA{net}(h:Di net=true){o}(ho:o∈net):AaA o.name.data.toList=true∧C7 o.rules=true:=by obtain⟨k,hk,rfl⟩:=bO ho;obtain⟨h1,_,_,h4,_⟩:=(D1.1 h).2 k hk;exact⟨(Kb.1 h1).1,h4⟩
theorem AzO{net}(h:Di net=true):∀o∈net,(59:UInt8)∉(Ia o).data.toList:=fun o ho m=>by
 unfold Ia at m;rw[B6,B6,eC,eC]at m;rcases m with(m|m)|m
 ·exact AtE (AtA h ho).1 ZF m
 ·simp at m
 ·exact AxM _ m
theorem AwY{net}(h:Di net=true):∀o∈net,Ib (Ia o)=some o:=fun o ho=>by obtain⟨h1,h2⟩:=AtA h ho;obtain⟨p1,p2⟩:=AuH h2;unfold Ib Ia;rw[At1 (AtE h1 ZF)];simp[p1,p2]
theorem Bc0{net}(h:Di net=true):net.map Ia≠[]:=fun e=>by
 have:=(D1.1 h).1.1;have h2:(net.map Ia).length=0:=by rw[e];rfl
 rw[bF]at h2;omega
theorem X4{net}(h:Di net=true):Aj 59 (Mx net)=net.map Ia:=by rw[Vh h];exact An2 (Bc0 h) fun p hp=>by obtain⟨o,ho,rfl⟩:=List.mem_map.1 hp;exact AzO h o ho
theorem BbO{net}(h:Di net=true):Kx (Mx net)=true∧pnN (Mx net)=net:=by
 obtain⟨g1,g2⟩:=At8 (AwY h);have hp:Kx (Mx net)=true:=by unfold Kx;rw[X4 h,g1,g2,h,aJ (by refine' za;exact(D1.1 h).1.2)];rfl
 refine⟨hp,?_⟩;unfold pnN;rw[aP hp,X4 h,g1]
theorem BcH{t}(h:Kx t=true):Mx (pnN t)=t:=by unfold pnN;rw[aP h];unfold Kx at h;refine' YS;obtain⟨⟨h1,h2⟩,h3⟩:=h;rw[Vh h3,AnB (fun x y=>AvO) h1,AnC]
def AqF(t:ByteArray):Bool:=Ik Jl ((Aj 59 t).take 9)&&sEq (Mx (Gl Jl ((Aj 59 t).take 9))) t
theorem BbI(t):AqF t=Kx t∧(Kx t=true→Gl Jl ((Aj 59 t).take 9)=Gl Ib (Aj 59 t)):=by
 have h1:Kx t=true→(Aj 59 t).take 9=Aj 59 t:=fun h=>by unfold Kx at h;exact ZIZ
 have h2:Kx t=true→Gl Jl (Aj 59 t)=Gl Ib (Aj 59 t)∧Ik Jl (Aj 59 t)=true:=fun h=>by unfold Kx at h;refine' ZBR;exact Ab4 (fun x y=>Bb0) h.1.1
 refine⟨?_,fun h=>by rw[h1 h,(h2 h).1]⟩;refine' ZAU;constructor
 ·intro h
  unfold AqF at h;refine' ZFj;have hg:=Un _ ha;obtain⟨out,UE⟩:∃out,Gl Jl ((Aj 59 t).take 9)=out:=⟨_,rfl⟩;rw[UE]at he hg;cases hr:Di out
  ·rw[AeI hr]at he
   subst he;have hd:Aj 59 (⟨#[]⟩:ByteArray)=[⟨#[]⟩]:=ZS
   rw[hd]at ha;exact absurd ha ZS
  ·rw[←he]
   exact(BbO hr).1
 ·intro h
  unfold AqF;rw[h1 h,(h2 h).1,(h2 h).2];have hf:=BcH h;unfold pnN at hf;rw[aP h]at hf;rw[hf,Mq];rfl
theorem V8{net}(h:Di net=true):∀p∈net.map Ia,p.size≤349∧1≤p.size:=fun p hp=>by obtain⟨o,ho,rfl⟩:=List.mem_map.1 hp;obtain⟨k,hk,rfl⟩:=bO ho;obtain⟨h1,_⟩:=(D1.1 h).2 k hk;have:=(Kb.1 h1).2;have:=Yp net[k].rules;unfold Ia;refine' ZEs;show _+1+_≤_∧1≤_+1+_;omega
theorem AnI(ps:List ByteArray)(sep):Cg (ps.take 0) sep=⟨#[]⟩:=Km _
theorem BbD{ps:List ByteArray}{sep}(h:0<ps.length):Cg (ps.take 1) sep=ps[0]:=by rw[aH h,dD,bV,Kp]
theorem AxW{ps:List ByteArray}{sep k}(h:k<ps.length)(h0:0<k):Cg (ps.take (k+1)) sep=Cg (ps.take k) sep++sep++ps[k]:=by rw[aH h,G5];intro e;exact ZIm
theorem AyQ{ps:List ByteArray}{sep b}(h:∀p∈ps,p.size≤b)(k):(Cg (ps.take k) sep).size≤ps.length*(b+sep.size):=by
 have h1:=Dw (ps.take k) sep b fun p hp=>h p (dY hp)
 exact aG h1 (cC zF (aD _))
theorem AyK{net}(h:Di net=true):1≤(Mx net).size:=by
 rcases Nat.eq_zero_or_pos (Mx net).size with h0|h0
 ·exfalso
  have e:Mx net=⟨#[]⟩:=ByteArray.ext (Array.eq_empty_of_size_eq_zero h0);have hp:=X4 h;rw[e]at hp;have hd:Aj 59 (⟨#[]⟩:ByteArray)=[⟨#[]⟩]:=ZS
  rw[hd]at hp;have:=(V8 h ⟨#[]⟩ (by rw[←hp];simp)).2;exact absurd this ZF
 ·exact h0
theorem Ak4{net}(h:Di net=true)(k):(Cg ((net.map Ia).take k) ⟨#[59]⟩).size≤2800:=by have h1:=AyQ (sep:=⟨#[59]⟩) (fun p hp=>(V8 h p hp).1) k;have h2:=(D1.1 h).1.2;have h3:(net.map Ia).length*(349+(⟨#[59]⟩:ByteArray).size)≤8*350:=cC ZCd ZF;omega
theorem AvJ(net):(Mx net).size≤2800:=by
 cases h:Di net
 ·rw[AeI h];exact ZZ
 ·rw[Vh h]
  have:=Ak4 h (net.map Ia).length
  rwa [aY]at this
theorem Ph(v net w)(hv:rd w w.heap.size v net):
 Calls aB 38 #[v] w fun e w'=>e=.returned (.string (Mx net))∧Below w.heap.size w w':=by
 refine' ZAc;go_enter Tryz.func38,Tryz.ntmps38
 refine' ZC;refine(Mm _ net _ HV.out).mono ?_;refine' ZW;have l1:=aF w.heap.size w;refine' ZQb;have HF:Hid (Mx net=Cg ((net.map Ia).take net.length) ⟨#[59]⟩):=by show _=_;rw[Vh ag,bA ZE]
 have cg:Hid ((net.map Ia).length=net.length):=ZBD
 clear ag
 refine' ZC;go_loopw[3,4] (fun t i wr=>∃k:Nat,k≤net.length∧i=.int .i64 k∧t=.string (Cg ((net.map Ia).take k) ⟨#[59]⟩)∧Below w.heap.size w wr) (fun _ i _=>net.length - (intOf i).toNat)
 case atStart=>exact⟨0,aM _,rfl,by rw[AnI],l1⟩
 case round=>
  refine' ZDZ;have d9:=Ak4 ee.out k;by_cases ab:k<net.length
  ·obtain⟨b,o,A2,k2,rfl,hb,ag,hu,y1,y2⟩:=HR.out.ofcU k ab
   have uI:k<(net.map Ia).length:=zY
   have ti:Hid (k=0→Cg ((net.map Ia).take (k+1)) ⟨#[59]⟩=Ia net[k]):=fun h=>by subst h;rw[BbD uI];simp
   have oJ:Hid (0<k→Cg ((net.map Ia).take (k+1)) ⟨#[59]⟩=Cg ((net.map Ia).take k) ⟨#[59]⟩++⟨#[59]⟩++Ia net[k]):=fun h=>by rw[AxW uI h];simp
   have hZ:Hid (k=0→Cg ((net.map Ia).take k) ⟨#[59]⟩=⟨#[]⟩):=fun h=>by subst h;exact AnI _ _
   have xw:=(V2 ((D1.1 ee.out).2 k ab).1).2;obtain⟨PN,qG⟩:∃P,Cg ((net.map Ia).take (k+1)) ⟨#[59]⟩=P:=⟨_,rfl⟩;obtain⟨P,hP⟩:∃P,Cg ((net.map Ia).take k) ⟨#[59]⟩=P:=⟨_,rfl⟩;rw[qG]at oJ ti;rw[hP]at oJ d9 hZ⊢;have pN:=aA qG;have HU:=aA hu;clear qG hP hu uI;generalize net[k]=x at *;obtain⟨nm,rs⟩:=x;simp only at xw y1 y2 ag;obtain⟨rv,hrv⟩:∃rv,rv=Value.slice A2 rs.length k2:=⟨_,rfl⟩;have HC:Hid (∀W,Below w.heap.size w W→Calls aB 88 #[.slice A2 rs.length k2] W fun e W'=>e=.returned (.string (Jj rs))∧Below w.heap.size w W'):=fun W hW=>
    (R7 _ rs W (HU.out.on hW)).mono fun e W' h=>⟨h.1,hW.trans (h.2.mono hW.size)⟩
   refine' ZQc;rw[hF]at HC ib;clear hF hrv HU;refine' ZCi;refine' zO;have gh:=lr.size;have ld:=Ag lr;by_cases gx:k=0
   ·subst gx
    simp only[fD,bW,dA]at y1 y2;have lv:Hid (aK (P++nm++⟨#[32]⟩++F)=.string (Cg ((net.map Ia).take (0+1)) ⟨#[59]⟩)):=by
     show _=_;rw[pN.out,ti.out rfl,hZ.out rfl,jY.out]
     all_goals congr 1
     all_goals refine Cv ?_
     all_goals simp
    clear bc ei;have bc:(0:Int)<(net.length:Int):=ZA
    refine' ZQd;refine' ZC;refine' ZQe;all_goals
     refine' ZC;go_roundw
     case rel=>exact⟨0+1,ZA,ZJ,lv.out,l3⟩
     case measure=>exact ZK
   ·refine' ZEp;have lv:Hid (aK (P++⟨#[59]⟩++nm++⟨#[32]⟩++F)=.string (Cg ((net.map Ia).take (k+1)) ⟨#[59]⟩)):=by
     show _=_;rw[pN.out,oJ.out ZA,jY.out]
     congr 1
     refine Cv ?_;simp
    have KT:(P++(⟨#[59]⟩:ByteArray)).size≤2801:=ZCN
    refine' ZC;generalize P++(⟨#[59]⟩:ByteArray)=P at *;refine' ZQd;refine' ZQe;all_goals
     refine' ZC;go_roundw
     case rel=>exact⟨k+1,ZA,ZJ,lv.out,l3⟩
     case measure=>exact ZK
  ·refine' ZDy;have sI:Hid (Cg ((net.map Ia).take k) ⟨#[59]⟩=Mx net):=by show _=_;rw[HF.out,HE.out]
   generalize Cg ((net.map Ia).take k) ⟨#[59]⟩=P at *
   refine' ZI;exact⟨B8 sI.out,lr⟩
theorem Yd(v net w)(hv:rd w w.heap.size v net):
 Calls aB 133 #[v] w fun e w'=>e=.returned (.string (Mx net))∧Below w.heap.size w w':=by
 refine' ZAc;refine' zh;refine' YF;go_enter Tryz.func133,Tryz.ntmps133
 refine' ZC;refine(Js _ net _ HV.out).mono ?_;refine' ZEl;refine' ZQb;have HF:=aA (Vh ag);clear ag;have ez:=Ed (P:=aB) 28 9 i0 _ aW hi ah net.length zf ZA
 refine' ZC;have kF:Ck 9 (w1.alloc (aC (madeCells #[.string ⟨#[]⟩] net.length) 9)) w1.heap.size net.length 0 (net.map Ia):=Ck.made w1 _ _ _ ZAK _;have bg:Below w1.heap.size w1 (w1.alloc (aC (madeCells #[.string ⟨#[]⟩] net.length) 9)):=(aF _ _).alloc (aD _) _;generalize w1.alloc (aC (madeCells #[.string ⟨#[]⟩] net.length) 9)=w0 at *;clear ez;have cg:Hid ((net.map Ia).length=net.length):=ZBD
 go_loopw[14] (fun i wr=>∃k:Nat,k≤net.length∧i=.int .i64 k∧Below w1.heap.size w1 wr∧Ck 9 wr w1.heap.size net.length k (net.map Ia)) (fun i _=>net.length - (intOf i).toNat)
 case atStart=>exact ZBE
 case round=>
  refine' ZBm;by_cases ab:k<net.length
  ·obtain⟨b,o,A2,k2,rfl,hb,ag,hu,y1,y2⟩:=HR.out.ofcU k ab
   refine' ZEm;have lN:(net.map Ia)[k]' zY=Ia net[k]:=ZE
   have kT:=aA (V8 ee.out (Ia net[k]) (List.mem_map.2 ⟨_,aU ab,rfl⟩));have fe:=aA (fun(W:World) (hF:Ck 9 W w1.heap.size net.length k (net.map Ia))=>hF.step zY ZAs (ecs:=[.string (Ia net[k])]) ZEn);have xw:=(V2 ((D1.1 ee.out).2 k ab).1).2;have HU:=aA hu;clear lN hu;generalize net[k]=x at *;obtain⟨nm,rs⟩:=x;simp only at xw y1 y2 ag;have HCR:Hid (∀W,Below w.heap.size w W→Calls aB 217 #[.slice A2 rs.length k2] W fun e W'=>e=.returned (.string (Jj rs))∧Below W.heap.size W W'):=fun W hW=>AcB _ rs W (HU.out.on hW)
   refine' ZQc;rw[hF]at HCR ib;clear hF HU;refine' ZCi;refine' zO;have iu:=au.size;obtain⟨wb,lx⟩:∃u,u=w2.alloc (aC #[.string nm,.slice A2 rs.length k2] 45):=⟨_,rfl⟩;have q0:=Af lx 0 (.string nm) rfl;have q1:=Af lx 1 (.slice A2 rs.length k2) rfl;refine' ZNA;have xC:=aA (Aa (Aa l1 au) lb);have bp:=aA lx;clear lx hf;have vI:Hid (∀W,Below wb.heap.size wb W→Calls aB 217 #[.slice A2 rs.length k2] W fun e W'=>e=.returned (.string F)∧Below W.heap.size W W'):=fun W hW=>HCR.out W (Aa xC.out hW)
   refine' ZNB;have vn:¬9223372036854775807<nm.size+1+F.size:=ZA
   have vp:¬9223372036854775807<nm.size+1:=ZA
   go_region_held3 (fun W=>W.cell? ⟨w2.heap.size,0,none⟩=some (.string nm)∧W.cell? ⟨w2.heap.size,1,none⟩=some (.slice A2 rs.length k2)) (first|exact⟨e0,e1⟩|exact⟨yJ,yK⟩|exact⟨EW _,EX _⟩|fail) (first|(go_at_call 217;refine' ZND)|fail)
   all_goals exact ZNE
  ·refine' ZDy;have HO:=aA ((HE.out▸hf:Ck _ _ _ _ net.length _).own cg.out.symm (aD _) ZN);clear hf;have l2:=Aa l1 au;have lU:=Dw (net.map Ia) (⟨#[59]⟩:ByteArray) 349 fun p hp=>(V8 ee.out p hp).1
   rw[cg.out]at lU;have mG:net.length*(349+(⟨#[59]⟩:ByteArray).size)≤8*350:=cC kl ZF;have HJ:=aA (Ro (sep:=(⟨#[59]⟩:ByteArray)) HO.out cg.out.symm ZCQ ZA);refine' ZHV;exact⟨rfl,l3⟩
open Go.RowKit Go.Shelf
theorem Aw6{P}{ρ:Ren}(L:Go.Proofs.Lays.n146 P ρ)(hi9:(P.info? (ρ.t 9)).map (fun i=>(i.zero,i.size,i.bytes))=some (some (.string ByteArray.empty),1,16))(s c w)(hs:s.size<4294967281):
 Calls P (ρ.f 146) #[.string s,.string ⟨#[c]⟩] w fun e w'=>
  e=.returned (.slice (some ⟨w.heap.size,0,none⟩) (Aj c s).length (Aj c s).length)∧w'=w.alloc (.cells ((Aj c s).map aK).toArray (ρ.t 9)):=by
 have h1:1≤(⟨#[c]⟩:ByteArray).size:=aD 1;have pI:=Lib.countB_le ⟨#[c]⟩ h1 s.size s (aD _);have bn:=Lib.splitB_all ⟨#[c]⟩ h1 0 _ s rfl;have c0:=Any.strings_genSplit_core (P:=P) (ρ:=ρ) {L with} hi9 s ⟨#[c]⟩ 0 (-1) (Lib.countB s ⟨#[c]⟩+1) w hs h1 (aM _)
  (fun x cc _=>(Any.strings_Index_one {L with} x c _).mono fun e w' h=>⟨by rw[h.1,Xo],h.2⟩)
  ((Any.strings_Count_one {L with} s c w).mono fun e w' h=>⟨by rw[h.1];show _=Ending.returned (bC .i64 ((Lib.count s.data.toList [c]:Nat):Int));rw[Lib.count_one];rfl,h.2⟩) ZF ZF (by rw[aP ZF];omega)
 rw[Nat.add_sub_cancel,bn]at c0;have e2:Lib.cellsOf (Lib.splitB ⟨#[c]⟩ 0 (Lib.countB s ⟨#[c]⟩) s) (Lib.countB s ⟨#[c]⟩+1)=((Lib.splitB ⟨#[c]⟩ 0 (Lib.countB s ⟨#[c]⟩) s).map aK).toArray:=by rw[←bn];exact Lib.cellsOf_full _
 rw[e2,Tc c _ s rfl,←Ad7 c s]at c0;have e221:∀args w,(callFunc (ρ.f 221) args).run P w=.ok (.enter (ρ.f 221) args) w:=iC L.f221 ZB rfl;clear pI bn e2;go_enter L.f146,Body.n146_ntmps ρ
 go_wp2_with (go_at_fn (ρ.f 221);refine c0.mono ?_;rintro e w' ⟨rfl,hw⟩;rw[hw])
 go_ret;exact ZV
theorem Ij(s c w)(hs:s.size≤1000000000):
 Calls aB 13 #[.string s,.string ⟨#[c]⟩] w fun e w'=>e=.returned (.slice (some ⟨w.heap.size,0,none⟩) (Aj c s).length (Aj c s).length)∧own 9 w.heap.size w' (.slice (some ⟨w.heap.size,0,none⟩) (Aj c s).length (Aj c s).length) (Aj c s)∧Below w.heap.size w w'∧w'.heap.size=w.heap.size+1:=
 (Aw6 Tryz.lays146 ZB s c w ZA).mono fun e w' h=>by obtain⟨h1,h2⟩:=h;subst h2;exact⟨h1,AwD 9 w.heap.size w (Aj c s) (fun x hx=>by have:=Hi hx;exact ZN) (by have:=Lg c s;exact ZN) (aD _),(aF _ _).alloc (aD _) _,ZE⟩
attribute [local go_sem] Oper.semAt_some
theorem ApJ{c}:∀{s:List UInt8},c∉s→Lib.indexByte s c= -1
 |[],_=>rfl
 |b::s,h=>by refine' ZFi;rw[Rw,aL hb,ApJ (fun m=>h (bK _ m))];rfl
theorem BbK{a b:UInt8}:((a.toNat:Int)=(b.toNat:Int))↔a=b:=by
 constructor
 ·intro h
  exact UInt8.toNat_inj.1 ZA
 ·intro h;rw[h]
theorem AhM{c}{s:List UInt8}{k}(hk:k<s.length)(h:c∉s.take k)(bj:s[k]≠c):c∉s.take (k+1):=by
 rw[aH hk,eC];rintro(m|m)
 ·exact h m
 ·simp at m;exact bj m.symm
theorem AxB{c s}{k:Nat}(hk:k<s.length)(h:c∉s.take k)(he:s[k]=c):Lib.indexByte s c=(k:Int):=by
 have h1:s=s.take k++c::s.drop (k+1):=by
  conv=>lhs;rw[←dW k s]
  rw[cZ hk,he]
 have h2:=Am0 (s.drop (k+1)) h;rw[←h1,bH]at h2;rw[h2];congr 1;omega
theorem Nq(s c w)(hs:s.size≤maxLen):
 Calls aB 10 #[.string s,.int .u8 c.toNat] w fun e w'=>e=.returned (.int .i64 (Lib.indexByte s.data.toList c))∧w=w':=by
 unfold maxLen at hs;go_enter Tryz.func10,Tryz.ntmps10;go_wp2
 go_loop[5] (fun i=>∃k:Nat,k≤s.size∧i=.int .i64 k∧c∉s.data.toList.take k) (fun i=>s.size - (intOf i).toNat)
 case atStart=>exact⟨0,aM _,rfl,ZE⟩
 case round=>
  refine' ZC5;by_cases ab:k<s.size
  ·have d7:k<s.data.toList.length:=by simpa using ab
   have HN:=aA (AhM d7 hd);have HH:=aA (AxB d7 hd);clear hd;go_wp2
   ·rename_i h1 _
    have he:=aA (HH.out (BbK.1 (beq_iff_eq.1 h1)));clear h1;go_ret;exact⟨Bo he.out.symm,rfl⟩
   ·rename_i h1
    have hN:=aA (HN.out (fun e=>by have h2:s[k]=c:=e;rw[h2]at h1;simp at h1))
    clear h1
    go_round
    case rel=>exact⟨k+1,ZA,ZJ,hN.out⟩
    case measure=>exact ZK
  ·rw[bA ZH]at hd
   have HD:=aA (ApJ hd);clear hd;refine' ZO;exact⟨Bo HD.out.symm,rfl⟩
def tl(c:UInt8)(s:ByteArray)(f k:Nat):List ByteArray:=if k≤s.size then Aj c (s.extract f s.size)else []
theorem Ar7(s:ByteArray)(f k):(s.extract f k).data.toList=(s.data.toList.drop f).take (k - f):=by refine' ZBr;simp[List.extract]
theorem BcJ{c s f k}(hf:f≤k)(hk:k<s.size)(hn:c∉(s.data.toList.drop f).take (k - f))(he:s[k]=c):tl c s f k=s.extract f k::tl c s (k+1) (k+1):=by
 have fu:k<s.data.toList.length:=zM
 unfold tl;rw[aP ZA,aP ZA];unfold Aj;have h1:s.data.toList.drop f=(s.data.toList.drop f).take (k - f)++c::s.data.toList.drop (k+1):=by
  conv=>lhs;rw[←dW (k - f) (s.data.toList.drop f)]
  rw[List.drop_drop,show f+(k - f)=k by omega,cZ fu,show s.data.toList[k]=c from he]
 rw[J3,J3,h1,AeO _ hn,cD]
 congr 1
 refine Cv ?_;rw[Ar7]
theorem Bc5{c s f}(hn:c∉(s.data.toList.drop f).take (s.size - f)):tl c s f s.size=s.extract f s.size::tl c s (s.size+1) (s.size+1):=by
 have h0:(s.data.toList.drop f).take (s.size - f)=s.data.toList.drop f:=bA ZE;rw[h0]at hn;unfold tl;rw[aP (aD _),aL ZA];unfold Aj;rw[J3,V0 hn,cD,gC]
 congr 1
 refine Cv ?_;rw[J3]
theorem BaO(c s):tl c s 0 0=Aj c s:=by
 unfold tl;rw[aP (aM _)]
 congr 1
 exact Cv (by rw[J3];rfl)
theorem BaC{c s f k}(hk:k<s.size):tl c s f k=tl c s f (k+1):=by unfold tl;rw[aP ZA,aP ZA]
theorem AqW{c}{s:ByteArray}{f k}(hf:f≤k)(hk:k<s.size)(hn:c∉(s.data.toList.drop f).take (k - f))(he:s[k]≠c):c∉(s.data.toList.drop f).take (k+1 - f):=by
 have fu:k<s.data.toList.length:=zM
 rw[show k+1 - f=k - f+1 by omega];refine AhM (by rw[dO];omega) hn ?_;rw[iG];simp only[show f+(k - f)=k by omega];exact he
theorem Rj(c s):(Aj c s).length≤s.size+1:=by
 have h:∀l:List UInt8,(spl c l).length≤l.length+1:=by
  intro l
  induction l with
  |nil=>exact YV
  |cons b l ih=>
   by_cases hb:b=c
   ·subst hb
    rw[AcG,bZ,bZ];omega
   ·obtain⟨p,ps,hp⟩:=fT (AcF c l)
    rw[Nk hb hp];rw[hp]at ih;simp only[bZ]at ih⊢;omega
 unfold Aj;refine' za;exact h _
theorem I9(s c w)(hs:s.size≤1000000000000):
 Calls aB 9 #[.string s,.int .u8 c.toNat] w fun e w'=>∃v,e=.returned v∧own (α:=ByteArray) 9 w.heap.size w' v (Aj c s)∧Below w.heap.size w w':=by
 refine' zh;have kV:=aA (Rj c s);go_enter Tryz.func9,Tryz.ntmps9;go_wp2;have rL:own (α:=ByteArray) 9 w.heap.size (w.alloc (aC #[] 9)) (.slice (some ⟨w.heap.size,0,none⟩) 0 0) []:=own.made0 w _ (aD _);have lA:Below w.heap.size w (w.alloc (aC #[] 9)):=(aF _ _).alloc (aD _) _;generalize w.alloc (aC #[] 9)=wA at *
 go_loopw[5,6,7] (fun v f i wr=>∃(k fr:Nat) (xs:List ByteArray),k≤s.size+1∧fr≤k∧i=.int .i64 k∧f=.int .i64 fr∧own 9 w.heap.size wr v xs∧xs++tl c s fr k=Aj c s∧(k≤s.size→c∉(s.data.toList.drop fr).take (k - fr))∧Below w.heap.size w wr) (fun _ _ i _=>s.size+1 - (intOf i).toNat)
 case atStart=>exact⟨0,0,[],aM _,aD _,rfl,rfl,rL,by rw[BaO];rfl,fun _=>ZE,lA⟩
 case round=>
  obtain⟨k,fr,xs,hk,uX,rfl,rfl,ho,uq,qo,lr⟩:=hrel;refine' zl;clear rL lA;have lG:xs.length≤s.size+1:=by have:=aT List.length uq;rw[aS]at this;have:=kV.out;omega
  refine' zZ;have HC:=aA uq;have hz:=lr.size;obtain⟨A,m,cp,rfl,hm,_,_,_⟩:=ho.rd;subst hm;have BQ:(s.extract fr k).size≤maxLen:=by rw[eE];exact ZN
  by_cases pC:k=s.size+1
  ·have HE:Hid (xs=Aj c s):=by show _=_;rw[←uq,pC];unfold tl;rw[aL ZA];simp
   clear qo uq ho;have pI:¬((k:Int)≤(s.size:Int)):=ZA
   refine' ZO;exact⟨_,rfl,HE.out▸HO.out,lr⟩
  ·have hks:k≤s.size:=ZA
   have pI:(k:Int)≤(s.size:Int):=ZA
   have HN:=aA (qo hks);clear pC qo uq ho;have hfi:(fr:Int)≤(k:Int):=ZA
   have kF:(0:Int)≤(fr:Int):=ZA
   by_cases fy:k=s.size
   ·have HT:Hid ((xs++[s.extract fr k])++tl c s (k+1) (k+1)=Aj c s):=by show _=_;have hN:=HN.out;rw[fy]at hN;have:=Bc5 hN;rw[bY,←HC.out,fy,this];rfl
    have hkb:((k:Int)==(s.size:Int))=true:=beq_iff_eq.2 ZA;have mD:=aA fy;clear fy
    refine' ZQW;go_roundw
    case rel=>exact⟨k+1,k+1,_,ZA,aD _,ZJ,ZJ,jq.out,HT.out,fun h=>by have:=mD.out;omega,lr.trans kB⟩
    case measure=>exact ZK
   ·have hkb:((k:Int)==(s.size:Int))=false:=beq_eq_false_iff_ne.2 ZA
    have ab:k<s.size:=ZA
    by_cases hc:s[k]=c
    ·have hcb:((s[k].toNat:Int)==(c.toNat:Int))=true:=by rw[hc];simp
     have HT:Hid ((xs++[s.extract fr k])++tl c s (k+1) (k+1)=Aj c s):=by show _=_;rw[bY,←HC.out,BcJ uX ab HN.out hc];rfl
     have HD:=aA hc;clear hc
     refine' ZQW;go_roundw
     case rel=>exact⟨k+1,k+1,_,ZA,aD _,ZJ,ZJ,jq.out,HT.out,fun _=>ZE,lr.trans kB⟩
     case measure=>exact ZK
    ·have hcb:((s[k].toNat:Int)==(c.toNat:Int))=false:=beq_eq_false_iff_ne.2 fun e=>hc (BbK.1 e)
     have HD:=aA (AqW uX ab HN.out hc);have HT:Hid (xs++tl c s fr (k+1)=Aj c s):=by show _=_;rw[←BaC ab];exact HC.out
     clear hc;go_wp2
     go_roundw
     case rel=>exact⟨k+1,fr,xs,ZA,ZA,ZJ,rfl,HO.out,HT.out,fun _=>HD.out,lr⟩
     case measure=>exact ZK
attribute [local go_sem] Oper.semAt_some
theorem AjP{ps:List ByteArray}{k}(hk:k<ps.length)(h:Ko (ps.take k)=true):Ko (ps.take (k+1))=(K7 ps[k]).isSome:=by rw[aH hk,Rc,h,fC]
theorem BbQ{ps:List ByteArray}{k}(hk:k≤ps.length)(jl:k≤21)(ge:k=ps.length∨20<k):ps.take 21=ps.take k:=by
 refine' ZFk
 ·rw[show k=21 by omega]
theorem AzB{ps:List ByteArray}{k}(hk:k<ps.length)(jl:k≤20)(h:Ko (ps.take (k+1))=false):Ko (ps.take 21)=false:=
 P8 (fW ZA) h
theorem G9{v b b'}(h:b'=b):Ending.returned (.tuple #[v,.bool b])=.returned (.tuple #[v,.bool b']):=ZAb
theorem AeD(t w)(ht:t.size≤1000000000000):
 Calls aB 175 #[.string t] w fun e w'=>∃v',e=.returned (.tuple #[v',.bool (Qu t)])∧own 181 w.heap.size w' v' (prR t)∧Below w.heap.size w w':=by
 obtain⟨i0,ji,dp,dq,dr⟩:=eA Tryz.infoRul;have lA:Below w.heap.size w (w.alloc (aC #[] 181)):=(aF _ _).alloc (aD _) _;have rL:own (α:=Fwd) 181 w.heap.size (w.alloc (aC #[] 181)) (.slice (some ⟨w.heap.size,0,none⟩) 0 0) []:=own.made0 w _ (aD _);refine' ZIa;go_enter Tryz.func175,Tryz.ntmps175;by_cases ci:sEq t ⟨#[45]⟩=true
 ·refine' ZQM;exact ZIb
 ·refine' ZIc;have kj:=aA (BcP ob);have HO:Hid (Qu t=Ua t):=by show _=_;rw[kj.out.1];unfold Qu;rw[ob];rfl
  have HR:Hid (prR t=if Ua t then Fx ((Aj 32 t).take 21)else []):=by show _=_;rw[kj.out.1];unfold prR;exact ZId
  refine' ZIe;obtain⟨wA,ug⟩:∃W,w.alloc (aC #[] 181)=W:=⟨_,rfl⟩;refine' ZIf;have dw:Hid (Ua t=(Ko (ps.take 21)&&sEq (Jj (Fx (ps.take 21))) t)):=by show _=_;unfold Ua;rw[d9]
  clear d9;subst hn
  refine' ZC;go_loopw[4,6,7] (fun v i _ wr=>∃k:Nat,k≤ps.length∧k≤21∧i=.int .i64 k∧Ko (ps.take k)=true∧own 181 w.heap.size wr v (Fx (ps.take k))∧own 9 wA.heap.size wr (.slice A ps.length c) ps∧apart v (.slice A ps.length c)∧Below w.heap.size w wr) (fun _ i _ _=>21 - (intOf i).toNat)
  case atStart=>exact ZIg
  case round=>
   obtain⟨k,hk,SL,rfl,cw,ho,hop,m7,lw⟩:=hrel;refine' ZFl;by_cases ge:k=ps.length∨20<k
   ·have HT:=aA (BbQ hk SL ge)
    refine' ZFm;have HF:=R7 _ _ w2 j8.out.rd;clear ho hm;by_cases fy:k=ps.length
    ·refine' ZFn;refine' ZCl;obtain⟨F,hF⟩:∃F,Jj (Fx (ps.take k))=F:=⟨_,rfl⟩;exact ZDz
    ·refine' ZAw;have rf:¬((k:Int)≤20):=ZA
     refine' ZCl;obtain⟨F,hF⟩:∃F,Jj (Fx (ps.take k))=F:=⟨_,rfl⟩;exact ZDz
   ·have fy:k<ps.length:=ZA
    have ui:k≤20:=ZA
    refine' ZAw;have rf:(k:Int)≤20:=ZA
    refine' ZIh;have rK:=aA (AjP fy jg.out);have ma:=aA (AzB fy ui);refine' ZIi;have kZ:=fun W=>Nq x 62 W oa
    by_cases az:Lib.indexByte x.data.toList 62<0
    ·have nz:=aA (Ri az)
     have HB:Hid (Ua t=false):=ZQX
     clear ho
     refine' ZBz;generalize Lib.indexByte x.data.toList 62=j at *
     exact ZIj
    ·refine' ZQY;go_region_law (go_loud (refine Ce (α:=Fwd) ZG (.tmp 32) (.tmp 47) 43 ZG w.heap.size 181 i0 _ 32 Tryz.underlying43 ji dp dq dr rfl ZF (.slice Av m cp) gs ⟨x.extract 0 i,x.extract (i+1) x.size⟩ ZG ((j8.out.alloc _).drew) ⟨w2.heap.size,0,none⟩ 1 (Fwd.cells ⟨x.extract 0 i,x.extract (i+1) x.size⟩) ZG ⟨HY.out,rfl⟩ (Ft w2 _ (Fwd.cells ⟨x.extract 0 i,x.extract (i+1) x.size⟩)) ZN ZA ZH ?_;refine' ZAi))
     all_goals
      have fq:Below w2.heap.size w2 (w2.alloc (aC #[aK (x.extract 0 i),aK (x.extract (i+1) x.size)] 181)).drew:=Ag (Ae (aF _ _) _);refine' ZQZ;have ul:=((uZ.out.alloc (aC #[aK (x.extract 0 i),aK (x.extract (i+1) x.size)] 181)).drew).grown ep (Br et.out);have cn:=Dg (n:=m+1) (c:=cap) et.out kR (fun j hj=>((uZ.out.alloc (aC #[aK (x.extract 0 i),aK (x.extract (i+1) x.size)] 181)).drew.blk j hj).2);refine' ZIk;go_wp2
      exact ZIl
end Go.Proofs.YtfadhdacjpmmeaaGreatDoor

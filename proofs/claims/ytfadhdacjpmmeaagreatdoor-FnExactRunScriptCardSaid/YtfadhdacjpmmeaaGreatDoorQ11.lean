/- Parts. -/
import Derived.Test.YtfadhdacjpmmeaaGreatDoorQ6
import Derived.ShutString
import Derived.Deep.Fields
set_option linter.unusedVariables false
set_option linter.unusedSimpArgs false
namespace Go.Proofs.YtfadhdacjpmmeaaGreatDoor
set_option maxHeartbeats 400000
open Go.IntKind renaming i64→aI
open Go.Obj renaming cells→aC
open Go.Proofs.Tryz renaming prog→aB
open Go.Value renaming string→aK,int→bC
open Go.RowKit
def Pg(n:Nat):List UInt8:=if n=0 then [48]else J1 n
def Cl(n:Nat):ByteArray:=⟨(Pg n).toArray⟩
theorem Nr{m}(h0:0<m)(h:m≤9):J1 m=[b8 (48+m)]:=by rw[I2 h0,show m/10=0 by omega,show m%10=m by omega,show J1 0=[] by rw[J1]];unfold b8;rw[show(48+(m:Int)).toNat=48+m by omega];rfl
theorem Hy(n:Nat)(w)(hn:n≤9223372036854775807):
 Calls aB 28 #[.int .i64 n] w fun e w'=>e=.returned (.string (Cl n))∧Below w.heap.size w w':=by
 have kO:=AfW;have h0:(0:Int)≤(n:Int):=ZA
 go_enter Tryz.func28,Tryz.ntmps28;go_wp2
 go_loopw[0,3] (fun t s wr=>∃(m:Nat) (u:ByteArray),m≤n∧t=.int .i64 m∧s=.string u∧u.size≤20∧Hid (n=0∧m=0∧u=⟨#[]⟩∨0<m∧J1 n=J1 m++u.data.toList)∧Hid (m*10^u.size≤n)∧Below w.heap.size w wr) (fun t _ _=>(intOf t).toNat)
 case atStart=>
  refine⟨n,_,aD _,rfl,rfl,aM _,?_,(by show n*10^0≤n;omega),aF _ _⟩;by_cases h:n=0
  ·exact .inl ⟨h,h,rfl⟩
  ·exact .inr ⟨ZA,ZE⟩
 case round=>
  obtain⟨m,u,hm,rfl,rfl,hu,HD,HP,au⟩:=hrel;refine' zR;by_cases h9:9<m
  ·have hu19:u.size≤19:=by apply Classical.byContradiction;intro hc;have h1:=HP.out;have h2:10^20≤10^u.size:=eM ZA ZA;have h3:10*10^20≤m*10^u.size:=cC ZA h2;omega
   go_wp2
   go_roundw
   case rel=>
    refine⟨m/10,_,ZA,ZJ,rfl,by refine' ZAk;show 1+_≤20;omega,.inr ⟨ZA,?_⟩,?_,au.alloc au.size _⟩
    ·rcases HD.out with⟨_,h,_⟩|⟨_,h⟩
     ·omega
     ·rw[h,B6,I2 (n:=m) ZA,bY]
      show _=J1 (m/10)++([b8 (48+(m:Int)%10)]++_);unfold b8;rw[show(48+(m:Int)%10).toNat=48+m%10 by omega]
    ·show _≤_
     have h1:=HP.out;have h2:(m/10)*10≤m:=Nat.div_mul_le_self _ _;rw[bG,show(ByteArray.mk #[b8 (48+(m:Int)%10)]).size=1 from rfl,Nat.pow_add,Nat.pow_one,←Nat.mul_assoc];exact aG (iK _ h2) h1
   case measure=>exact ZK
  ·refine' ZO;refine⟨B8 ?_,au.alloc au.size _⟩;apply Cv;rw[B6];rcases HD.out with⟨h1,h2,h3⟩|⟨h1,h2⟩
   ·subst h1 h2 h3
    rfl
   ·show _=Pg n
    unfold Pg;rw[aL ZA,h2,Nr h1 ZA]
def Gm:Nat→Nat→List UInt8
 |_,0=>[]
 |n,k+1=>Gm (n/10) k++[b8 (48+(n:Int)%10)]
def Iy(n k:Nat):ByteArray:=⟨(Gm n k).toArray⟩
theorem Ab6:∀(k n:Nat),(Gm n k).length=k
 |0,_=>rfl
 |k+1,n=>by rw[Gm,aS,Ab6 k];rfl
theorem Jd(n k):(Iy n k).size=k:=by show(Gm n k).toArray.size=k;rw[dP,Ab6]
theorem T6(n k:Nat)(w)(hn:n≤9223372036854775807)(hk:k≤60):
 Calls aB 158 #[.int .i64 n,.int .i64 k] w fun e w'=>e=.returned (.string (Iy n k))∧Below w.heap.size w w':=by
 go_enter Tryz.func158,Tryz.ntmps158
 refine' ZC;go_loopw[0,5,6] (fun t s i wr=>∃(m j:Nat) (u:ByteArray),m≤n∧j≤k∧t=.int .i64 m∧s=.string u∧i=.int .i64 j∧u.size≤j∧Hid (Gm n k=Gm m (k - j)++u.data.toList)∧Below w.heap.size w wr) (fun _ _ i _=>k - (intOf i).toNat)
 case atStart=>exact⟨n,0,_,aD _,aM _,rfl,rfl,rfl,aD _,ZDN,aF _ _⟩
 case round=>
  obtain⟨m,j,u,hm,hj,rfl,rfl,rfl,hu,HD,au⟩:=hrel;refine' zR;by_cases ab:j<k
  ·refine' ZC;refine(Hy (m%10) _ ZA).mono ?_;rintro e w2 ⟨rfl,hb⟩;have tt:(Cl (m%10)).size=1:=by
    show(Pg _).toArray.size=1;unfold Pg
    split
    ·rfl
    ·rw[Nr ZA ZA];rfl
   have tL:Hid ((Cl (m%10)).data.toList=[b8 (48+(m:Int)%10)]):=by
    show Pg _=_;unfold Pg
    split
    ·rename_i h
     rw[show(m:Int)%10=0 by omega];rfl
    ·rw[Nr ZA ZA];rfl
   generalize Cl (m%10)=d at *
   refine' ZC;go_roundw
   case rel=> refine⟨m/10,j+1,_,ZA,ZA,ZJ,rfl,ZJ,by refine' ZAk;omega,?_,au.trans (hb.mono au.size)⟩;show _=_;rw[HD.out,B6,tL.out,show k - j=(k - (j+1))+1 by omega,Gm,bY]
   case measure=>exact ZK
  ·have HE:=aA (show k - j=0 by omega)
   refine' ZI;refine⟨B8 ?_,au⟩;apply Cv;show _=Gm n k;rw[HD.out,HE.out,Gm];rfl
structure kept2 (g b:Nat) (w w':World):Prop where
 os:w'.os=w.os
 tape:w'.tape=w.tape
 output:w'.output=w.output
 size:w.heap.size≤w'.heap.size
 block:∀k,k<b→k≠g→w'.heap[k]? =w.heap[k]?
structure keptS (S:Nat→Prop) (w w':World):Prop where
 os:w'.os=w.os
 tape:w'.tape=w.tape
 output:w'.output=w.output
 size:w.heap.size≤w'.heap.size
 block:∀k,k<w.heap.size→¬S k→w'.heap[k]? =w.heap[k]?
theorem AtM{T base g n c:Nat}{w}{xs:List Ltr}(h:own T base w (.slice (some ⟨g,0,none⟩) n c) xs)(k)(hk:k<xs.length):
 (xs[k]).ok∧w.cell? ⟨g,k*2,none⟩=some (.int .i64 (xs[k]).id)∧w.cell? ⟨g,k*2+1,none⟩=some (.string (xs[k]).code):=by refine' ZDO;obtain⟨b,o,hA,_,ag,c1,c2⟩:=pB.ltr k hk;refine' ZDP;rw[bW]at c1 c2;exact⟨ag,c1,c2⟩
theorem Bp{w:World}{g}{T:TypeId}{u0 u1 u2 a b d}(h:w.heap[g]? =some (.cells #[u0,u1,u2] T (0,0))):
 (((w.setCell ⟨g,0,none⟩ a).setCell ⟨g,1,none⟩ b).setCell ⟨g,2,none⟩ d).heap[g]? =some (.cells #[a,b,d] T (0,0)):=
 cG _ _ _ _ _ _ (cG _ _ _ _ _ _ (cG _ _ _ _ _ _ h))
section
variable{P:Program}{fn:Func}{R:Ending→World→Prop}{a:Act}{w:World}{p u v r:Tmp}{ty:TypeId}{g:Nat}{t:TypeId}{cs:Array Value}{d:TypeDesc}
theorem BaL(hg:w.heap[g]? =some (.cells cs t (0,0)))(hu:P.underlying ty=some d)(hd:(match d with|.struct _|.array _ _=>true|_=>false)=true)(hi:(P.info? ty).map (·.size)=some cs.size):
 (loadVar ty ⟨g,0,none⟩).run P w=.ok (.agg cs) w:=run_loadVar_row w g t ty cs (0,0) d hg hu hd hi
theorem AzM(h:fn.results=#[.cell p ty])(hp:a.tmps.getD p undef=.pointer (some ⟨g,0,none⟩))(hg:w.heap[g]? =some (.cells cs t (0,0)))
 (hu:P.underlying ty=some d) (hd:(match d with|.struct _|.array _ _=>true|_=>false)=true) (hi:(P.info? ty).map (·.size)=some cs.size) (hf:a.defers=[])
 (hR:R (.returned (.agg cs)) w):bodyPost P fn R .ret a w:=
 bodyPost_ret (results_cell_row h a.tmps w g t cs (0,0) d hp hg hu hd hi) hf hR
theorem Ax(h:fn.results=#[.cell p ty,.tmp u])(hp:a.tmps.getD p undef=.pointer (some ⟨g,0,none⟩))(hg:w.heap[g]? =some (.cells cs t (0,0)))
 (hu:P.underlying ty=some d) (hd:(match d with|.struct _|.array _ _=>true|_=>false)=true) (hi:(P.info? ty).map (·.size)=some cs.size) (hf:a.defers=[])
 (hR:R (.returned (.tuple #[.agg cs,a.tmps.getD u undef])) w):bodyPost P fn R .ret a w:=by refine' ZMF;simp[results,h,xJ,asAddr,BaL hg hu hd hi,Sem.run_bind,Result.andThen]
end
def low(c:UInt8):Bool:=97≤c.toNat&&c.toNat≤122
def AaA(l:List UInt8):Bool:=l.all low
theorem Us(s:ByteArray)(k)(h:k<s.size):AaA (s.data.toList.take (k+1))=(AaA (s.data.toList.take k)&&low s[k]):=by unfold AaA;rw[aH zG,dS];simp;rfl
theorem AoO(s:ByteArray)(k)(h:k<s.size)(hd:low s[k]=false):AaA s.data.toList=false:=by unfold AaA;exact ZKT
def Gi(s:ByteArray):Bool:=AaA s.data.toList&&(decide (1≤(s.size:Int))&&decide ((s.size:Int)≤8))
def Jr(s:ByteArray):Bool:=Ea s.data.toList&&decide (s.size≤7)
theorem AbX{s}:Jr s=true↔Ea s.data.toList=true∧s.size≤7:=by unfold Jr;rw[aN,bB]
theorem Kb{s}:Gi s=true↔AaA s.data.toList=true∧1≤s.size∧s.size≤8:=by unfold Gi;rw[aN,aN,bB,bB];refine and_congr Iff.rfl ?_;omega
def L8:ByteArray:=⟨#[104,101,114,101]⟩
def pre(c p:ByteArray):Bool:=decide (p.size≤c.size)&&sEq (c.extract 0 p.size) p
theorem AlZ{c p}:pre c p=true↔p.data.toList<+:c.data.toList:=by
 unfold pre;rw[aN,bB,Ec,List.prefix_iff_eq_take];have hl:∀s:ByteArray,s.data.toList.length=s.size:=fun s=>ZE
 constructor
 ·rintro⟨h1,h2⟩
  rw[hl]
  conv=>lhs;rw[←h2]
  simp[gT,Array.toList_extract,List.extract_eq_take_drop]
 ·intro h
  have hs:p.size≤c.size:=by have:=aT List.length h;rw[bH,hl,hl]at this;omega
  refine⟨hs,?_⟩;rw[hl]at h;have:(c.extract 0 p.size).data.toList=p.data.toList:=by rw[h];simp[gT,Array.toList_extract,List.extract_eq_take_drop]
  exact ByteArray.ext (Array.toList_inj.1 this)
def AfL(rs:List Fwd)(k:Nat):Bool:=
 match rs[k]? with
 |none=>false
 |some x=>Jr x.src&&Gi x.dst&&(rs.take k).all (fun y=> !sEq y.src x.src)
def C7(rs:List Fwd):Bool:=decide (rs.length≤20)&&(List.range rs.length).all (AfL rs)
theorem Aa4{fs k}(hk:k<fs.length):AfL fs k=(Jr fs[k].src&&Gi fs[k].dst&&(fs.take k).all (fun y=> !sEq y.src fs[k].src)):=by unfold AfL;exact ZCK
theorem AcN{fs k}(hk:k<fs.length)(h:AfL fs k=false):C7 fs=false:=by unfold C7;exact ZDV
theorem Zu{fs}(pH:fs.length≤20)(h:∀j,j<fs.length→AfL fs j=true):C7 fs=true:=by unfold C7;rw[aJ pH];exact ZHF
theorem AdB{fs}(h:¬fs.length≤20):C7 fs=false:=by unfold C7;rw[aO h];rfl
theorem Ev{fs:List Fwd}:C7 fs=true↔fs.length≤20∧∀k (h:k<fs.length),Jr fs[k].src=true∧Gi fs[k].dst=true∧∀j (hj:j<k),fs[j].src≠fs[k].src:=by
 unfold C7;refine' ZHG;refine and_congr Iff.rfl ⟨fun h k hk=>?_,fun h k hk=>?_⟩
 ·have:=h k zM
  rw[Aa4 hk]at this;exact ZMi
 ·have fu:k<fs.length:=zM
  obtain⟨h1,h2,h3⟩:=h k fu;rw[Aa4 fu];exact ZMj
def Bb8(rs:List Fwd)(b:Int):Nat:=((rs[b.toNat]?).map fun x=>x.src.size).getD 0
def J0(rs:List Fwd)(c:ByteArray)(b:Int)(k:Nat):Int:=
 match rs[k]? with
 |none=>b
 |some x=>if pre c x.src=true∧(b<0∨Bb8 rs b<x.src.size)then(k:Int)else b
def Ie(rs:List Fwd)(c:ByteArray):Nat→Int
 |0=> -1
 |k+1=>J0 rs c (Ie rs c k) k
def Iv(rs:List Fwd)(c:ByteArray):Int:=Ie rs c rs.length
theorem Hm(rs c):∀k, -1≤Ie rs c k∧Ie rs c k<k
 |0=>⟨by simp[Ie],by simp[Ie]⟩
 |k+1=>by
  have h:=Hm rs c k;unfold Ie J0
  split
  ·omega
  ·split<;>omega
theorem AeU{rs c k b}(hk:k<rs.length)(hb:Ie rs c k=b)(h:pre c rs[k].src=false):Ie rs c (k+1)=b:=by show J0 _ _ _ _=_;unfold J0;rw[aR hk];simp[h,hb]
theorem AeX{rs:List Fwd}{c k q}(hk:k<rs.length)(hq:q<rs.length)(hb:Ie rs c k=q)(h:¬rs[q].src.size<rs[k].src.size):Ie rs c (k+1)=q:=by
 show J0 _ _ _ _=_;unfold J0;rw[aR hk,hb];have:Bb8 rs (q:Int)=rs[q].src.size:=by unfold Bb8;rw[bE,aR hq];rfl
 simp only[this];rw[aL];rintro⟨_,h1|h1⟩
 ·omega
 ·exact h h1
theorem AfP{rs c k}(hk:k<rs.length)(hp:pre c rs[k].src=true)(h:Ie rs c k<0∨∃q:Nat,∃hq:q<rs.length,Ie rs c k=q∧rs[q].src.size<rs[k].src.size):Ie rs c (k+1)=k:=by
 show J0 _ _ _ _=_;unfold J0;rw[aR hk]
 dsimp only
 rw[aP];refine⟨hp,?_⟩;rcases h with h|⟨q,hq,h1,h2⟩
 ·exact .inl h
 ·refine .inr ?_
  rw[h1];unfold Bb8;rw[bE,aR hq];exact h2
def Gw(rs:List Fwd)(c:ByteArray):ByteArray:=if Iv rs c<0 then⟨#[]⟩else((rs[(Iv rs c).toNat]?).map Fwd.dst).getD ⟨#[]⟩
theorem Th{rs c}(h:Iv rs c<0):Gw rs c=⟨#[]⟩:=by unfold Gw;rw[aP h]
theorem Rx{rs c}{k:Nat}(h:Iv rs c=k)(hk:k<rs.length):Gw rs c=rs[k].dst:=by unfold Gw;rw[aL ZA,h,bE,aR hk];rfl
theorem ArN{rs c M}(h:∀x∈rs,x.dst.size≤M):(Gw rs c).size≤M:=by
 by_cases hb:Iv rs c<0
 ·rw[Th hb];exact ZZ
 ·obtain⟨k,hk⟩:=aQ (Int.not_lt.1 hb)
  have hr:=(Hm rs c rs.length).2;have fu:Ie rs c rs.length=k:=hk;rw[Rx hk ZA];exact h _ (aU _)
structure Ofc where
 name:ByteArray
 rules:List Fwd
def Gq(net:List Ofc)(s:ByteArray):Int:=fiI (fun o=>sEq o.name s) net
def I0(net:List Ofc)(r:Fwd):Bool:=sEq r.dst L8||decide (0≤Gq net r.dst)
def AaH(net:List Ofc)(k:Nat):Bool:=
 match net[k]? with
 |none=>false
 |some o=>(Gi o.name&& !sEq o.name L8&&(net.take k).all (fun y=> !sEq y.name o.name)&&C7 o.rules)&&o.rules.all (I0 net)
def Di(net:List Ofc):Bool:=(decide (1≤(net.length:Int))&&decide ((net.length:Int)≤8))&&(List.range net.length).all (AaH net)
theorem Zl{net k}(hk:k<net.length):AaH net k=((Gi net[k].name&& !sEq net[k].name L8&&(net.take k).all (fun y=> !sEq y.name net[k].name)&&C7 net[k].rules)&&net[k].rules.all (I0 net)):=by unfold AaH;exact ZCK
theorem Aj9{net k}(hk:k<net.length)(h:AaH net k=false):Di net=false:=by unfold Di;exact ZDV
theorem AhY{net}(h:∀j,j<net.length→AaH net j=true):Di net=(decide (1≤(net.length:Int))&&decide ((net.length:Int)≤8)):=by unfold Di;rw[List.all_eq_true.2 fun k hk=>h k zM,Bool.and_true]
theorem AjA{net}(h:¬(1≤net.length∧net.length≤8)):Di net=false:=by
 unfold Di;rw[eH,eH,eO,eO]
 left;omega
theorem D1{net:List Ofc}:Di net=true↔(1≤net.length∧net.length≤8)∧∀k (h:k<net.length),Gi net[k].name=true∧net[k].name≠L8∧(∀j (hj:j<k),net[j].name≠net[k].name)∧C7 net[k].rules=true∧∀r∈net[k].rules,r.dst=L8∨0≤Gq net r.dst:=by
 unfold Di;rw[aN,aN,bB,bB,dN];refine and_congr ZA ⟨fun h k hk=>?_,fun h k hk=>?_⟩
 ·have:=h k zM
  rw[Zl hk]at this;simp only[aN,fI,F6]at this;obtain⟨⟨⟨⟨a,b⟩,c⟩,d⟩,e⟩:=this;refine⟨a,b,fun j hj=>?_,d,fun r hr=>?_⟩
  ·have hh:=List.all_eq_true.1 c net[j] ZCF
   simp only[fI]at hh;exact F6.1 hh
  ·have hh:=List.all_eq_true.1 e r hr
   unfold I0 at hh;rw[iV,Ec,bB]at hh;exact hh
 ·have fu:k<net.length:=zM
  obtain⟨h1,h2,h3,h4,h5⟩:=h k fu;rw[Zl fu];simp only[aN,fI,F6];refine⟨⟨⟨⟨h1,h2⟩,List.all_eq_true.2 fun y hy=>?_⟩,h4⟩,List.all_eq_true.2 fun r hr=>?_⟩
  ·exact ZQK
  ·unfold I0
   rw[iV,Ec,bB];exact h5 r hr
theorem Ak1{net}(h:Di net=true){i j}(hi:i<net.length)(hj:j<net.length)(e:net[i].name=net[j].name):i=j:=by
 obtain⟨_,h⟩:=D1.1 h;rcases eP i j with ab|qi|FM
 ·exact absurd e ((h j hj).2.2.1 i ab)
 ·exact qi
 ·exact absurd e.symm ((h i hi).2.2.1 j FM)
theorem AuD{net}(h:Di net=true){i}(hi:i<net.length):Gq net net[i].name=i:=
 Sk hi (fun j hj ko=>F6.2 fun e=>by have:=Ak1 h hj hi e;omega) (Mq _)
theorem Sf{net s}{k:Nat}(h:Gq net s=k):∃hk:k<net.length,net[k].name=s:=by obtain⟨hk,h1,_⟩:=AeP h;exact⟨hk,Ec.1 h1⟩
def hop(net:List Ofc)(c:ByteArray)(i:Nat):Int:=
 match net[i]? with
 |none=> -2
 |some o=>if Iv o.rules c<0 then -2 else if sEq (Gw o.rules c) L8=true then -1 else Gq net (Gw o.rules c)
def Fc(net:List Ofc)(c:ByteArray):Nat→List Nat→Nat→List Nat×Int
 |0,p,_=>(p,3)
 |f+1,p,i=>if i∈p then(p++[i],2)else if hop net c i= -2 then(p++[i],1)else if hop net c i= -1 then(p++[i],0)else Fc net c f (p++[i]) (hop net c i).toNat
def Ht(net:List Ofc)(c:ByteArray)(i:Nat):List Nat×Int:=Fc net c (net.length+1) [] i
theorem AsP{net}(h:Di net=true){c i}(hi:i<net.length)(h1:hop net c i≠ -2)(h2:hop net c i≠ -1):∃j:Nat,j<net.length∧hop net c i=j∧0≤Iv net[i].rules c∧Gw net[i].rules c≠L8∧Gq net (Gw net[i].rules c)=j∧net[j]?.map Ofc.name=some (Gw net[i].rules c):=by
 have hh:hop net c i=if Iv net[i].rules c<0 then -2 else if sEq (Gw net[i].rules c) L8=true then -1 else Gq net (Gw net[i].rules c):=by unfold hop;rw[aR hi]
 rw[hh]at h1 h2⊢;by_cases hb:Iv net[i].rules c<0
 ·rw[aP hb]at h1;exact absurd rfl h1
 rw[aL hb]at h1 h2⊢;by_cases hs:sEq (Gw net[i].rules c) L8=true
 ·rw[aP hs]at h2;exact absurd rfl h2
 rw[aL hs];obtain⟨k,hk⟩:=aQ (Int.not_lt.1 hb);have hr:=(Hm net[i].rules c net[i].rules.length).2;have fu:Ie net[i].rules c net[i].rules.length=k:=hk;have fy:k<net[i].rules.length:=ZA
 have hn:Gw net[i].rules c=(net[i].rules[k]).dst:=Rx hk fy;have ho:=((D1.1 h).2 i hi).2.2.2.2 (net[i].rules[k]) (aU _);rw[←hn]at ho;have bj:Gw net[i].rules c≠L8:=fun e=>hs (Ec.2 e)
 rcases ho with ho|ho
 ·exact absurd ho bj
 ·obtain⟨j,hj⟩:=aQ ho
  obtain⟨tI,EA⟩:=Sf hj;exact⟨j,tI,hj,ZA,bj,hj,by rw[aR tI,Option.map_some,EA]⟩
theorem Rz:∀(n:Nat) (l:List Nat),l.Nodup→(∀x∈l,x<n)→l.length≤n
 |0,l,_,h=>by
  cases l with
  |nil=>exact ZZ
  |cons x l=>exact absurd (h x fU) (aX x)
 |n+1,l,hn,h=>by
  have:=Rz n (l.erase n) (hn.erase n) fun x hx=>by have h1:=(hn.mem_erase_iff).1 hx;have:=h x h1.2;omega
  have hl:=List.length_erase (a:=n) (l:=l)
  split at hl<;>omega
def Uj(net:List Ofc)(f:Nat)(p:List Nat)(i:Nat):Prop:=p.Nodup∧(∀x∈p,x<net.length)∧i<net.length∧f+p.length=net.length+1
theorem Ml{net i}(hi:i<net.length):Uj net (net.length+1) [] i:=⟨ZE,ZE,hi,ZE⟩
theorem Qg{net f p i}(h:Uj net f p i):∃g,f=g+1:=by refine' ZCk;have:=Rz _ _ h1 h2;exact⟨f - 1,ZA⟩
theorem Py{net f p i j}(h:Uj net (f+1) p i)(hi:i∉p)(hj:j<net.length):Uj net f (p++[i]) j:=by
 refine' ZCk;refine⟨?_,?_,hj,ZH⟩
 ·rw[List.nodup_append]
  refine⟨h1,ZE,?_⟩;intro a ha b hb e;simp at hb;subst hb e;exact hi ha
 ·intro x hx
  rcases List.mem_append.1 hx with hx|hx
  ·exact h2 x hx
  ·simp at hx;omega
theorem AbM{net}(h:Di net=true){c}:∀(f:Nat) (p:List Nat) (i:Nat),Uj net f p i→p.length+1≤(Fc net c f p i).1.length∧(Fc net c f p i).1.length≤net.length+1∧∀x∈(Fc net c f p i).1,x<net.length
 |0,p,i,ho=>by obtain⟨g,hg⟩:=Qg ho;omega
 |f+1,p,i,ho=>by
  have h1:=Rz _ _ ho.1 ho.2.1;have hi:=ho.2.2.1;have CH:∀x∈p++[i],x<net.length:=fun x hx=>by
   rcases List.mem_append.1 hx with hx|hx
   ·exact ho.2.1 x hx
   ·simp at hx;omega
  unfold Fc;by_cases hm:i∈p
  ·rw[aP hm];exact⟨ZE,ZH,CH⟩
  rw[aL hm]
  split
  ·exact⟨ZE,ZH,CH⟩
  ·split
   ·exact⟨ZE,ZH,CH⟩
   ·rename_i h1 h2
    obtain⟨j,hj,e,_⟩:=AsP h hi h1 h2;rw[e,bE];have:=AbM h (c:=c) f (p++[i]) j (Py ho hm hj);simp only[aS,cE]at this;exact⟨ZA,this.2⟩
def S8(p:List Nat):List Int:=p.map fun(n:Nat)=>(n:Int)
def Bw(net:List Ofc)(i:Nat):ByteArray:=((net[i]?).map Ofc.name).getD ⟨#[]⟩
theorem Kl{net i}(h:i<net.length):Bw net i=net[i].name:=by unfold Bw;rw[aR h];rfl
theorem AkZ(p)(i:Nat):S8 (p++[i])=S8 p++[(i:Int)]:=by simp[S8]
theorem Jm(p):(S8 p).length=p.length:=by simp[S8]
theorem AyX(p)(j:Nat):decide (0≤fiI (fun y:Int=>y==(j:Int)) (S8 p))=decide (j∈p):=by
 rw[ArO];by_cases h:j∈p
 ·rw[aJ h]
  simp only[fI,List.all_eq_false];exact⟨(j:Int),List.mem_map.2 ⟨j,h,rfl⟩,ZE⟩
 ·rw[aO h]
  simp only[Bool.not_eq_false',dN];intro y hy;obtain⟨n,hn,rfl⟩:=List.mem_map.1 hy;have:¬n=j:=fun e=>h (e▸hn)
  exact ZH
theorem BbY{cs c}:0≤rkI cs c↔c∈cs:=by
 by_cases h:rk cs c<cs.length
 ·rw[Yx h]
  have:=Ec.1 (AsU cs c h);refine⟨fun _=>?_,fun _=>ZA⟩;rw[←this];exact aU _
 ·rw[AaV h]
  refine⟨fun h=>ZA,fun hm=>?_⟩;obtain⟨k,hk,e⟩:=bO hm;have h1:=Ay1 cs c;have:=V1 cs c k hk ZA;rw[e,Mq]at this;cases this
theorem Av5{net}(h:Di net=true){p:List Nat}{i}(hp:∀x∈p,x<net.length)(hi:i<net.length):decide (0≤rkI (p.map (Bw net)) (Bw net i))=decide (i∈p):=by refine decide_eq_decide.2 (BbY.trans ⟨fun hm=>?_,fun hm=>List.mem_map.2 ⟨i,hm,rfl⟩⟩);obtain⟨j,hj,e⟩:=List.mem_map.1 hm;rw[Kl (hp j hj),Kl hi]at e;exact Ak1 h (hp j hj) hi e▸hj
theorem Ao7{net c i}(hi:i<net.length)(h:Iv net[i].rules c<0):hop net c i= -2:=by refine' ZIY;rw[aP h]
theorem ApK{net c i}(hi:i<net.length)(h:0≤Iv net[i].rules c)(h2:sEq (Gw net[i].rules c) L8=true):hop net c i= -1:=by refine' ZIY;rw[aL ZA,aP h2]
theorem AyW{net}(hk:Di net=true){c i}(hi:i<net.length)(h:0≤Iv net[i].rules c)(h2:sEq (Gw net[i].rules c) L8=false):∃j:Nat,j<net.length∧hop net c i=j∧Gq net (Gw net[i].rules c)=j∧Bw net j=Gw net[i].rules c:=by
 have e:hop net c i=Gq net (Gw net[i].rules c):=by refine' ZIY;rw[aL ZA,h2];rfl
 obtain⟨k,su⟩:=aQ h;have hr:=(Hm net[i].rules c net[i].rules.length).2;have fu:Ie net[i].rules c net[i].rules.length=k:=su;have fy:k<net[i].rules.length:=ZA
 have hn:Gw net[i].rules c=(net[i].rules[k]).dst:=Rx su fy;have ho:=((D1.1 hk).2 i hi).2.2.2.2 (net[i].rules[k]) (aU _);rw[←hn]at ho;rcases ho with ho|ho
 ·exact absurd ho (F6.1 h2)
 ·obtain⟨j,hj⟩:=aQ ho
  obtain⟨tI,EA⟩:=Sf hj;exact⟨j,tI,by rw[e,hj],hj,by rw[Kl tI,EA]⟩
theorem Ao5{rs}(h:C7 rs=true)(c):sEq (Gw rs c) ⟨#[]⟩=decide (Iv rs c<0):=by
 by_cases hb:Iv rs c<0
 ·rw[aJ hb,Th hb];exact Mq _
 ·rw[aO hb]
  obtain⟨k,su⟩:=aQ (Int.not_lt.1 hb);have hr:=(Hm rs c rs.length).2;have fu:Ie rs c rs.length=k:=su;have fy:k<rs.length:=ZA
  rw[Rx su fy];have:=(Kb.1 ((Ev.1 h).2 k fy).2.1).2.1;refine F6.2 fun e=>?_
  rw[e]at this;exact absurd this ZF
theorem AoH{rs}(h:C7 rs=true)(c):(Gw rs c).size≤8:=ArN fun x hx=>by refine' ZAZ;exact(Kb.1 ((Ev.1 h).2 k hk).2.1).2.2
theorem Ad5{net c f p i}(h:i∈p):Fc net c (f+1) p i=(p++[i],2):=by unfold Fc;rw[aP h]
theorem Af1{net c f p i}(h:¬i∈p)(h1:hop net c i= -2):Fc net c (f+1) p i=(p++[i],1):=by unfold Fc;rw[aL h,aP h1]
theorem AeW{net c f p i}(h:¬i∈p)(h1:hop net c i= -1):Fc net c (f+1) p i=(p++[i],0):=by unfold Fc;rw[aL h,aL ZA,aP h1]
theorem AoN{net c f p}{i j:Nat}(h:¬i∈p)(h1:hop net c i=j):Fc net c (f+1) p i=Fc net c f (p++[i]) j:=by rw[Fc,aL h,aL ZA,aL ZA,h1,bE]
def BaY:Value→Nat
 |.slice _ n _=>n
 |_=>0
def BcT:ByteArray:=⟨#[48,48,48,48,48,48,48]⟩
def Hu(p:ByteArray):ByteArray:=p++BcT.extract p.size 7
def Iz(p:ByteArray)(r:Fwd):Bool:=decide (p.size<r.src.size)&&pre r.src p
def Pi(p:ByteArray)(o:Ofc):Bool:=o.rules.any (Iz p)
def Nl(net:List Ofc)(p:ByteArray):Bool:=net.any (Pi p)
def dgB(d:Nat):ByteArray:=⟨#[UInt8.ofNat (48+d)]⟩
def dgt(p:ByteArray)(d:Nat):ByteArray:=p++dgB d
theorem AhN(p d):(dgt p d).size=p.size+1:=by unfold dgt;refine' ZAk;rfl
def Rl(p:ByteArray):List ByteArray→Bool
 |[q]=>sEq q p
 |_=>false
theorem AkL{p l}(h:l.length≠1):Rl p l=false:=by
 match l,h with
 |[],_=>rfl
 |[_],h=>exact absurd rfl h
 |_::_::_,_=>rfl
theorem AvK{p:ByteArray}{l:List ByteArray}(h:l.length=1):Rl p l=sEq (l[0]' ZA) p:=by
 match l,h with
 |[q],_=>rfl
mutual
def Dt(net:List Ofc)(i:Nat):Nat→ByteArray→List ByteArray
 |0,_=>[]
 |f+1,p=>if Nl net p=true then(if((List.range 10).all fun d=>Rl (dgt p d) (Dt net i f (dgt p d)))=true then [p]else((List.range 10).map fun d=>Dt net i f (dgt p d)).flatten)else if(Ht net (Hu p) i).2=0 then []else [p]
end
def AbI(net:List Ofc)(i f:Nat)(p:ByteArray)(k:Nat):List ByteArray:=((List.range k).map fun d=>Dt net i f (dgt p d)).flatten
def AqV(net:List Ofc)(i f:Nat)(p:ByteArray)(k:Nat):Nat:=(List.range k).countP fun d=>Rl (dgt p d) (Dt net i f (dgt p d))
def Ab1(net:List Ofc)(i f:Nat)(p:ByteArray)(k:Nat):Bool:=(List.range k).all fun d=>Rl (dgt p d) (Dt net i f (dgt p d))
theorem P9{net i f p}(h:Nl net p=true):Dt net i (f+1) p=if Ab1 net i f p 10=true then [p]else AbI net i f p 10:=by rw[Dt,aP h];rfl
theorem Qh{net i f p}(h:Nl net p=false)(h2:(Ht net (Hu p) i).2=0):Dt net i (f+1) p=[]:=by rw[Dt,aL (by rw[h];simp),aP h2]
theorem S7{net i f p}(h:Nl net p=false)(h2:(Ht net (Hu p) i).2≠0):Dt net i (f+1) p=[p]:=by rw[Dt,aL (by rw[h];simp),aL h2]
theorem Vv(net i f p k):AbI net i f p (k+1)=AbI net i f p k++Dt net i f (dgt p k):=by unfold AbI;rw[fK,cQ,bT];simp
theorem AjV(net i f p k):AqV net i f p (k+1)=AqV net i f p k+(if Rl (dgt p k) (Dt net i f (dgt p k))=true then 1 else 0):=by unfold AqV;rw[fK,List.countP_append];simp[List.countP_cons]
theorem AkU(net i f p k):Ab1 net i f p (k+1)=(Ab1 net i f p k&&Rl (dgt p k) (Dt net i f (dgt p k))):=by unfold Ab1;rw[fK,dS];simp
theorem Af4(net i f p):∀k,AqV net i f p k≤k∧(Ab1 net i f p k=true↔AqV net i f p k=k)
 |0=>by simp[AqV,Ab1]
 |k+1=>by
  have ih:=Af4 net i f p k;rw[AjV,AkU,aN];by_cases h:Rl (dgt p k) (Dt net i f (dgt p k))=true
  ·rw[aP h]
   refine⟨ZA,⟨fun⟨h1,_⟩=>by have:=ih.2.1 h1;omega,fun h1=>⟨ih.2.2 ZA,h⟩⟩⟩
  ·rw[aL h]
   refine⟨ZA,⟨fun⟨_,h2⟩=>absurd h2 h,fun h1=>ZA⟩⟩
theorem BcY(f):10^(f+1)=10*10^f:=by rw[Nat.pow_succ];omega
theorem O0(net i):∀(f:Nat) (p:ByteArray),(Dt net i f p).length≤10^f
 |0,p=>by simp[Dt]
 |f+1,p=>by
  have ih:=O0 net i f;have hp:1≤10^f:=Nat.one_le_pow _ _ ZA;have hc:∀k,(AbI net i f p k).length≤k*10^f:=fun k=>by
   induction k with
   |zero=>simp[AbI]
   |succ k ihk=> rw[Vv,aS,eU,iL];have:=ih (dgt p k);omega
  have h10:=hc 10;rw[BcY];cases hl:Nl net p
  ·by_cases h2:(Ht net (Hu p) i).2=0
   ·rw[Qh hl h2];simp
   ·rw[S7 hl h2];exact ZH
  ·rw[P9 hl]
   split
   ·exact ZH
   ·exact h10
theorem AgY(net i f p):∀k,(AbI net i f p k).length≤k*10^f
 |0=>by simp[AbI]
 |k+1=>by have:=AgY net i f p k;have h2:=O0 net i f (dgt p k);rw[Vv,aS,eU,iL];omega
theorem AaQ(net i):∀(f:Nat) (p q:ByteArray),q∈Dt net i f p→q.size≤p.size+f
 |0,p,q,h=>by simp[Dt]at h
 |f+1,p,q,h=>by
  have ih:=AaQ net i f;cases hl:Nl net p
  ·by_cases h2:(Ht net (Hu p) i).2=0
   ·rw[Qh hl h2]at h;simp at h
   ·rw[S7 hl h2]at h;simp at h;subst h;omega
  ·rw[P9 hl]at h
   split at h
   ·simp at h;subst h;omega
   ·unfold AbI at h
    obtain⟨l,hl,hq⟩:=List.mem_flatten.1 h;obtain⟨d,_,rfl⟩:=List.mem_map.1 hl;have:=ih _ _ hq;rw[AhN]at this;omega
theorem Ak2{net}(hk:Di net=true){p}(h:Nl net p=true):p.size≤6:=by unfold Nl at h;obtain⟨o,ho,h⟩:=List.any_eq_true.1 h;obtain⟨k,fy,rfl⟩:=bO ho;unfold Pi at h;obtain⟨r,hr,h⟩:=List.any_eq_true.1 h;obtain⟨m,qS,rfl⟩:=bO hr;have h1:=((D1.1 hk).2 k fy).2.2.2.1;have h2:=(AbX.1 ((Ev.1 h1).2 m qS).1).2;unfold Iz at h;rw[aN,bB]at h;omega
theorem AoA(p):∃z,(Hu p).data.toList=p.data.toList++z:=⟨_,by unfold Hu;rw[ByteArray.data_append,Array.toList_append]⟩
theorem AvT{p s}(h:(decide (p.size<s.size)&&pre s p)=false):pre (Hu p) s=pre p s:=by
 obtain⟨z,hz⟩:=AoA p;rw[iU,AlZ,AlZ,hz];have hl:∀s:ByteArray,s.data.toList.length=s.size:=fun s=>ZE
 constructor
 ·intro h1
  by_cases ab:p.size<s.size
  ·have h2:p.data.toList<+:s.data.toList:=List.prefix_of_prefix_length_le (List.prefix_append _ z) h1 (by rw[hl,hl];omega)
   rw[aJ ab,AlZ.2 h2]at h;cases h
  ·exact List.prefix_of_prefix_length_le h1 (List.prefix_append _ z) (by rw[hl,hl];omega)
 ·intro h1
  exact h1.trans (List.prefix_append _ z)
theorem AhD{rs p}(h:rs.any (Iz p)=false):∀k,Ie rs (Hu p) k=Ie rs p k
 |0=>rfl
 |k+1=>by
  show J0 _ _ _ _=J0 _ _ _ _;rw[AhD h k];unfold J0;cases hx:rs[k]? with
  |none=>rfl
  |some x=>
   have hm:=List.mem_of_getElem? hx;have h1:Iz p x=false:=by simpa using List.any_eq_false.1 h x hm
   dsimp only
   rw[AvT h1]
theorem ArS{rs p}(h:rs.any (Iz p)=false):Iv rs (Hu p)=Iv rs p∧Gw rs (Hu p)=Gw rs p:=by have h1:Iv rs (Hu p)=Iv rs p:=AhD h _;refine⟨h1,?_⟩;unfold Gw;rw[h1]
theorem AvB{net p}(h:Nl net p=false)(i):hop net (Hu p) i=hop net p i:=by
 unfold hop;cases hx:net[i]? with
 |none=>rfl
 |some o=>
  have hm:=List.mem_of_getElem? hx;have h1:o.rules.any (Iz p)=false:=by have:=List.any_eq_false.1 h o hm;simpa [Pi]using this
  obtain⟨e1,e2⟩:=ArS h1
  dsimp only
  rw[e1,e2]
theorem AaJ{net p}(h:Nl net p=false):∀(f:Nat) (q:List Nat) (i:Nat),Fc net (Hu p) f q i=Fc net p f q i
 |0,_,_=>rfl
 |f+1,q,i=>by rw[Fc,Fc,AvB h,AaJ h f]
theorem AnM{net p}(h:Nl net p=false)(i):Ht net (Hu p) i=Ht net p i:=AaJ h _ _ _
def fpS(net:List Ofc)(s:ByteArray):List ByteArray:=if(Di net&&decide (0≤Gq net s))=true then Dt net (Gq net s).toNat 8 ⟨#[]⟩else []
theorem AsS(net s):(fpS net s).length≤100000000:=by
 unfold fpS
 split
 ·exact O0 net _ 8 _
 ·simp
theorem AgF{a b}:Ea (a++b)=(Ea a&&Ea b):=by unfold Ea;exact dS
def bl(s:ByteArray):List UInt8:=s.data.toList
def Qn(n:Int)(x:Ltr):Int:=(31*n+x.id)%9973
def Aa2(n:Int)(x:Ltr):Int:=(n+x.id*x.id)%9973
def osL(xs:List Ltr):Int:=xs.foldl Qn 0
def sL(xs:List Ltr):Int:=xs.foldl Aa2 0
theorem Wd{α β:Type}(f:β→α→β)(b:β)(xs:List α)(k)(h:k<xs.length):(xs.take (k+1)).foldl f b=f ((xs.take k).foldl f b) xs[k]:=ZEZ
theorem AlN{xs}(h:okB xs=true)(k)(hk:k<xs.length):1≤xs[k].id∧xs[k].id≤9999:=by have:=(Ep.1 h).2 k hk;exact⟨this.1,this.2.1⟩
theorem Aq9{a:Int}(h1:1≤a)(h2:a≤9999):0≤a*a∧a*a≤99980001:=
 ⟨Int.mul_nonneg ZA ZA,by have:=Int.mul_le_mul h2 h2 ZA ZA;omega⟩
def Gy(b:Bool)(n:Int):Int:=if b then n else -1
theorem AgW(v xs w)(hv:rd w w.heap.size v xs):
 Calls aB 122 #[v] w fun e w'=>e=.returned (.int .i64 (Gy (okB xs) (osL xs)))∧Below w.heap.size w w':=by
 have ev:=hv;refine' ZA3;go_enter Tryz.func122,Tryz.ntmps122
 refine' ZC;refine(Cn _ _ _ ev).mono ?_;refine' ZFT
 ·refine' ZAN;clear ag
  go_wp2
  go_loopw[3,11] (fun t i wr=>∃(k:Nat) (m:Int),k≤xs.length∧i=.int .i64 k∧t=.int .i64 m∧0≤m∧m<9973∧Hid (m=(xs.take k).foldl Qn 0)∧Below w.heap.size w wr) (fun _ i _=>xs.length - (intOf i).toNat)
  case atStart=>exact ZFU
  case round=>
   refine' ZFV;by_cases ab:k<xs.length
   ·refine' ZIK;have HS:=aA (Wd Qn 0 xs k ab);refine' zp;refine' ZEJ;clear c1 c2;go_wp2
    go_roundw
    case rel=>exact⟨k+1,(31*m+x.id)%9973,ZA,ZJ,rfl,ZA,ZA,ZIL,au.alloc sr _⟩
    case measure=>exact ZK
   exact ZFW
theorem AqE(v xs w)(hv:rd w w.heap.size v xs):
 Calls aB 121 #[v] w fun e w'=>e=.returned (.int .i64 (Gy (okB xs) (sL xs)))∧Below w.heap.size w w':=by
 have ev:=hv;refine' ZA3;go_enter Tryz.func121,Tryz.ntmps121
 refine' ZC;refine(Cn _ _ _ ev).mono ?_;refine' ZFT
 ·refine' ZAN;clear ag
  go_wp2
  go_loopw[3,11] (fun t i wr=>∃(k:Nat) (m:Int),k≤xs.length∧i=.int .i64 k∧t=.int .i64 m∧0≤m∧m<9973∧Hid (m=(xs.take k).foldl Aa2 0)∧Below w.heap.size w wr) (fun _ i _=>xs.length - (intOf i).toNat)
  case atStart=>exact ZFU
  case round=>
   refine' ZFV;by_cases ab:k<xs.length
   ·refine' ZO8;refine' ZEJ;clear c1 c2;go_wp2
    go_roundw
    case rel=>exact⟨k+1,(m+x.id*x.id)%9973,ZA,ZJ,rfl,ZA,ZA,ZIL,au.alloc sr _⟩
    case measure=>exact ZK
   exact ZFW
theorem AfJ(v xs w)(hv:rd w w.heap.size v xs):
 Calls aB 40 #[v] w fun e w'=>e=.returned (.int .i64 (Gy (okB xs) (osL xs)))∧Below w.heap.size w w':=by
 have ev:=hv;refine' ZA3;go_enter Tryz.func40,Tryz.ntmps40
 refine' ZC;refine(C6 _ _ _ ev).mono ?_;refine' ZFT
 ·refine' ZAN;clear ag
  go_wp2
  go_loopw[3,4] (fun t i wr=>∃(k:Nat) (m:Int),k≤xs.length∧i=.int .i64 k∧t=.int .i64 m∧0≤m∧m<9973∧Hid (m=(xs.take k).foldl Qn 0)∧Below w.heap.size w wr) (fun _ i _=>xs.length - (intOf i).toNat)
  case atStart=>exact ZFU
  case round=>
   refine' ZFV;by_cases ab:k<xs.length
   ·refine' ZIK;have HS:=aA (Wd Qn 0 xs k ab);refine' zp;refine' ZFX;clear c1 c2;go_wp2
    go_roundw
    case rel=>exact⟨k+1,(m*31+x.id)%9973,ZA,ZJ,rfl,ZA,ZA,by show _=_;rw[HS.out,←HM.out];unfold Qn;omega,au⟩
    case measure=>exact ZK
   exact ZFW
theorem ApI(v xs w)(hv:rd w w.heap.size v xs):
 Calls aB 39 #[v] w fun e w'=>e=.returned (.int .i64 (Gy (okB xs) (sL xs)))∧Below w.heap.size w w':=by
 have ev:=hv;refine' ZA3;go_enter Tryz.func39,Tryz.ntmps39
 refine' ZC;refine(C6 _ _ _ ev).mono ?_;refine' ZFT
 ·refine' ZAN;clear ag
  go_wp2
  go_loopw[3,4] (fun t i wr=>∃(k:Nat) (m:Int),k≤xs.length∧i=.int .i64 k∧t=.int .i64 m∧0≤m∧m<9973∧Hid (m=(xs.take k).foldl Aa2 0)∧Below w.heap.size w wr) (fun _ i _=>xs.length - (intOf i).toNat)
  case atStart=>exact ZFU
  case round=>
   refine' ZFV;by_cases ab:k<xs.length
   ·refine' ZO8;refine' ZFX;clear c1 c2;have BS:(k:Int)<(xs.length:Int):=ZA
    have EC:aI.wrap (x.id*x.id)=x.id*x.id:=bI _ ZA;have qE:aI.wrap (m+x.id*x.id)=m+x.id*x.id:=bI _ ZA;have TK:(m+x.id*x.id).tmod 9973=(m+x.id*x.id)%9973:=Int.tmod_eq_emod_of_nonneg ZA;refine' YP;clear EC qE TK;go_wp2
    go_roundw
    case rel=>exact⟨k+1,(m+x.id*x.id)%9973,ZA,ZJ,rfl,ZA,ZA,ZIL,Ba au _⟩
    case measure=>exact ZK
   exact ZFW
def BbL(k:Nat):List Ltr→Nat→List Ltr
 |[],_=>[]
 |x::xs,0=>x::BbL k xs k
 |_::xs,n+1=>BbL k xs n
open Go.RowKit Go.ChangeShapes Go.WideShapes Go.Deep
open Go.ChangeShapes Go.WideShapes Go.ChangeAt Go.RowKit
end Go.Proofs.YtfadhdacjpmmeaaGreatDoor

/- Parts. -/
import Derived.Test.YtfadhdacjpmmeaaGreatDoorQ32
set_option linter.unusedVariables false
set_option linter.unusedSimpArgs false
namespace Go.Proofs.YtfadhdacjpmmeaaGreatDoor
set_option maxRecDepth 100000
set_option maxHeartbeats 3200000
open Go.IntKind renaming i64→aI
open Go.Obj renaming cells→aC
open Go.Proofs.Tryz renaming prog→aB
open Go.Value renaming string→aK,int→bC
open Go.RowKit
def Hg:ByteArray:=⟨#[119,104,97,116]⟩
def Dx:ByteArray:=⟨#[100,105,114,101,99,116]⟩
def Fm:ByteArray:=⟨#[104,101,108,100]⟩
def Eo:ByteArray:=⟨#[99,111,117,110,116]⟩
def Fj:ByteArray:=⟨#[114,97,110,107]⟩
def Ds:ByteArray:=⟨#[108,111,97,100,115]⟩
def C4:ByteArray:=⟨#[115,116,97,121]⟩
def Cc:ByteArray:=⟨#[114,101,115,111,108,118,101]⟩
def Dl:ByteArray:=⟨#[102,97,116,101]⟩
def C0:ByteArray:=⟨#[115,119,97,112]⟩
def Bt:ByteArray:=⟨#[102,111,114,119,97,114,100]⟩
def Cz:ByteArray:=⟨#[102,97,117,108,116]⟩
theorem own.madeCap{α:Type}[El α](w:World)(T:TypeId){base}(hb:base≤w.heap.size)(bu cap)(hm:cap≤maxLen)(hs:bu.size=cap*El.size α):own T base (w.alloc (.cells bu T)) (.slice (some ⟨w.heap.size,0,none⟩) 0 cap) ([]:List α):=
 ⟨[],World.ownsRow_made w bu cap hb hm hs,rfl,fun k h=>absurd h (aX k)⟩
def Fw(xs:List Ltr)(f:ByteArray):Int:=if okB xs&&Jr f then((xs.filter fun x=>pre x.code f).length:Nat)else -1
def Gs(p:Pln)(xs:List Ltr)(k:Int):List Nat:=(Fz p xs k).map List.length
def wo{α:Type}(xs:List α)(k:Int):List α:=(xs.zipIdx.filter fun x=>decide ((x.2:Int)≠k)).map Prod.fst
theorem Z7{α:Type}{xs:List α}{i}(h:i<xs.length)(k):wo (xs.take (i+1)) k=if(i:Int)=k then wo (xs.take i) k else wo (xs.take i) k++[xs[i]]:=by
 unfold wo;rw[aH h,List.zipIdx_append,gU,cQ];have e:(xs.take i).length=i:=zF
 rw[e];by_cases hk:(i:Int)=k
 ·rw[aP hk]
  simp[hk]
 ·rw[aL hk]
  simp[hk]
theorem AmL{α:Type}(xs:List α)(k):(wo xs k).length≤xs.length:=by unfold wo;refine' za;exact aG (bJ _ _) ZE
def Jy(fs:List Fwd)(c:ByteArray):Bool:=Be fs&&decide (0≤Gg fs c)
def N6(fs:List Fwd)(c:ByteArray):List Fwd:=if Jy fs c then wo fs (Gg fs c)else []
def Lh(fs:List Fwd)(a b:ByteArray):List Fwd:=wo fs (Gg fs a)++[⟨a,b⟩]
def Ig(fs:List Fwd)(a b:ByteArray):Bool:=Be fs&&(Be (Lh fs a b)&&(Bc (Lh fs a b) a).2.2)
def My(fs:List Fwd)(a b:ByteArray):List Fwd:=if Ig fs a b then Lh fs a b else []
def Eg(p:Pln)(f t:Int):Bool:=Bq p&&((decide (0≤f)&&decide (f<p.order.length))&&(decide (0≤t)&&decide (t<p.order.length)))
def Ju(os:List ByteArray)(f t:Nat):List ByteArray:=(wo os (f:Int)).take t++(os.getD f ⟨#[]⟩::(wo os (f:Int)).drop t)
def Ei(p:Pln)(f t:Int):Pln:=if Eg p f t then⟨p.bins,p.passes,Ju p.order f.toNat t.toNat⟩else⟨0,0,[]⟩
def Q7(fs:List Fwd):List Fwd:=if Be fs then((Ir (fs.map Fwd.src)).filter fun c=>(Bc fs c).2.2).map fun c=>⟨c,(Bc fs c).1⟩else []
def c3(f:ByteArray):ByteArray:=f.extract 0 3++f.extract 4 6++f.extract 7 9
def Fk(f:ByteArray):Bool:=(f.size==9)&&((f.data.toList[3]? ==some 45)&&((f.data.toList[6]? ==some 45)&&Ap (c3 f)))
def Ad3(f:ByteArray):ByteArray:=if Fk f then c3 f else⟨#[]⟩
def Kz(f:ByteArray):ByteArray:=if Ap f then Sj f.data.toList else⟨#[]⟩
def Up(g:ByteArray):Nat:=if J6.findIdx (fun x=>sEq x g)<10 then J6.findIdx (fun x=>sEq x g)else 10
def Gk(b:ByteArray)(k:Nat):Nat:=Up (b.extract (1+5*k) (6+5*k))
def Dn(b:ByteArray):Nat→Nat
 |0=>0
 |k+1=>Dn b k+if Gk b k=10 then 1 else 0
def N1(b:ByteArray):Nat→Nat
 |0=>0
 |k+1=>N1 b k+if Gk b k=10 then 0 else Gk b k
def Y3(b:ByteArray)(k:Nat):Nat:=if Gk b k=10 then(10 - N1 b 8%10)%10 else Gk b k
def Fb(b:ByteArray):Bool:=(b.size==42)&&(decide (Dn b 8=1)||(decide (Dn b 8=0)&&decide (N1 b 8%10=0)))
def Hr(b:ByteArray):ByteArray:=if Fb b then AiY (Y3 b)else⟨#[]⟩
def Nv(fs:List Fwd)(c:ByteArray):ByteArray:=if(resolve fs c).2.2 then(resolve fs c).1++⟨#[32]⟩++Cl (resolve fs c).2.1 else⟨#[]⟩
def Ad4(d:Dy)(c:ByteArray):ByteArray:=if(Nh d c).2.size=0 then⟨#[]⟩else(Nh d c).1++⟨#[32]⟩++(Nh d c).2
def Xe(net:List Ofc)(s c:ByteArray):ByteArray:=if Na net s c then Cb ((Cs net s c).1.map (Bw net))++⟨#[32]⟩++Ar9 (Cs net s c).2 else⟨#[]⟩
def Wh(net:List Ofc)(s:ByteArray):ByteArray:=if Gq net s<0 then⟨#[]⟩else Cb ((fpS net s).map (·++⟨#[42]⟩))
def Vs(p:Pln)(xs:List Ltr)(k:Int):ByteArray:=if(Gs p xs k).length=0 then⟨#[]⟩else Cb ((Gs p xs k).map Cl)
def Jp(p:Pln)(xs:List Ltr)(a b c:Int):ByteArray:=if Lo p xs a [⟨b,c⟩]then Co (Fr p xs a [⟨b,c⟩])else⟨#[]⟩
def setL(s:Dsk)(ok:Bool)(xs:List Ltr):Dsk×ByteArray:=if ok then({s with letters:=xs},Co xs)else(s,⟨#[]⟩)
def setF(s:Dsk)(ok:Bool)(fs:List Fwd):Dsk×ByteArray:=if ok then({s with day:={s.day with fwds:=fs}},C5 fs)else(s,⟨#[]⟩)
def Rh(s:Dsk)(wd:ByteArray):Dsk×ByteArray:=
 if wd=Cf then(s,Co s.letters)
 else if wd=Mf then({s with letters:=E9 s.letters},Co (E9 s.letters))
 else if wd=Ef then({s with letters:=Dr s.day.plan s.letters},Co (Dr s.day.plan s.letters)++⟨#[47]⟩++Co (Ha s.day.plan s.letters))
 else if wd=F4 then(s,G1 (Gy (okB s.letters) (sL s.letters))++⟨#[32]⟩++G1 (Gy (okB s.letters) (osL s.letters)))
 else if wd=Df then(s,E7 s.day.plan)
 else if wd=Gd then(s,G1 (F5 s.day.plan s.letters))
 else if wd=Bg then(s,C5 s.day.fwds)
 else if wd=Dx then({s with day:={s.day with fwds:=Q7 s.day.fwds}},C5 (Q7 s.day.fwds))
 else if wd=Db then(s,Cb (N2 s.day.fwds))
 else if wd=Fm then(s,Cb s.day.held)
 else if wd=G3 then(s,Sx (Dh s.day s.letters))
 else if wd=Dq then(s,Qq (Eu s.day s.letters))
 else if wd=Es then(s,Mx s.net)
 else(s,Hg)
def Af0(s:Dsk)(wd f:ByteArray):Dsk×ByteArray:=
 if wd=C8 then setL s (Jo s.letters (Am f)) (spL s.letters (Am f))
 else if wd=Eo then(s,G1 (Fw s.letters f))
 else if wd=Fj then(s,G1 (Hl s.day.plan f))
 else if wd=Ds then(s,Vs s.day.plan s.letters (Am f))
 else if wd=C4 then setF s (Jy s.day.fwds f) (N6 s.day.fwds f)
 else if wd=Cc then(s,Nv s.day.fwds f)
 else if wd=Cy then(if Ap f&&decide (s.day.held.length<30)then({s with day:={s.day with held:=s.day.held++[f]}},Cb (s.day.held++[f]))else(s,⟨#[]⟩))
 else if wd=Dk then(if Fp (Am f)then({s with day:={s.day with size:=Am f}},okW)else(s,⟨#[]⟩))
 else if wd=Dl then(s,Ad4 s.day f)
 else if wd=B5 then(s,Wh s.net f)
 else if wd=He then(s,Ad3 f)
 else if wd=Gn then(s,Kz f)
 else if wd=Ga then(s,Hr f)
 else(s,Hg)
def AgX(s:Dsk)(wd f g:ByteArray):Dsk×ByteArray:=
 if wd=C0 then(if Eg s.day.plan (Am f) (Am g)then({s with day:={s.day with plan:=Ei s.day.plan (Am f) (Am g)}},E7 (Ei s.day.plan (Am f) (Am g)))else(s,⟨#[]⟩))
 else if wd=Bt then setF s (Ig s.day.fwds f g) (My s.day.fwds f g)
 else if wd=Fl then(s,Xe s.net f g)
 else(s,Hg)
def U0(s:Dsk)(wd r:ByteArray):Dsk×ByteArray:=
 if wd=Cf then setL s (Mv r) (pbL r)
 else if wd=Df then(if Ge r then({s with day:={s.day with plan:=Ey r}},okW)else(s,⟨#[]⟩))
 else if wd=Bg then(if Tf r then({s with day:={s.day with fwds:=pfF r}},okW)else(s,⟨#[]⟩))
 else if wd=Es then(if Kx r then({s with net:=pnN r},okW)else(s,⟨#[]⟩))
 else match Aj 32 r with
  |[f]=>Af0 s wd f
  |[f,g]=>AgX s wd f g
  |[f,g,h]=>if wd=Cz then(s,Jp s.day.plan s.letters (Am f) (Am g) (Am h))else(s,Hg)
  |_=>(s,Hg)
def Qk(s:Dsk)(ak:ByteArray):Dsk×ByteArray:=match E5 32 ak with
 |none=>Rh s ak
 |some (wd,r)=>U0 s wd r
def Xw(ls:List ByteArray):Nat→Dsk
 |0=>I5
 |k+1=>if sEq (ls.getD k ⟨#[]⟩) ⟨#[]⟩then Xw ls k else(Qk (Xw ls k) (ls.getD k ⟨#[]⟩)).1
def AxF(ls:List ByteArray)(k:Nat):ByteArray:=(Qk (Xw ls k) (ls.getD k ⟨#[]⟩)).2
def AwB(t:ByteArray):ByteArray:=if 20000<t.size then⟨#[108,111,110,103,10]⟩else Qr (AxF (Aj 10 t)) 0 ⟨#[]⟩ (Aj 10 t)
structure Inv (s:Dsk):Prop where
 bs:okB s.letters=true
 plan:Bq s.day.plan=true
 fwds:Be s.day.fwds=true
 held:Ee s.day.held=true
 size:Fp s.day.size=true
 net:Di s.net=true
theorem Inv.day{s}(h:Inv s):Mi s.day=true:=by unfold Mi;rw[h.plan,h.fwds,h.held,h.size];rfl
theorem Inv.rd{s}(h:Inv s):Ka s.day s.letters=true:=by unfold Ka;rw[h.day,h.bs];rfl
theorem Inv.rp{s}(h:Inv s):M4 s.day.plan s.letters=true:=by unfold M4;rw[h.plan,h.bs];rfl
theorem AuX:Inv I5:=⟨ZS,ZS,ZS,ZS,ZS,ZS⟩
def Em(a:ByteArray):ByteArray:=AeC a++⟨#[10]⟩
theorem Jw:Em ⟨#[]⟩=⟨#[110,111,10]⟩:=ZS
theorem Fh{a}(h:1≤a.size):Em a=a++⟨#[10]⟩:=by unfold Em;rw[AnK h]
theorem AbG{α:Type}{R:α→α→Prop}:∀{l1 l2:List α},l1.Perm l2→l1.Pairwise R→l2.Pairwise R→(∀x y,x∈l1→y∈l1→R x y→R y x→x=y)→l1=l2
 |[],l2,hp,_,_,_=>by rw[hp.symm.eq_nil]
 |x::l1,[],hp,_,_,_=>by simpa using hp.length_eq
 |x::l1,y::l2,hp,h1,h2,ha=>by
  rw[fV]at h1 h2;have vz:x=y:=by
   refine' ZRN;rcases List.mem_cons.1 m1 with e|m1'
   ·exact e
   rcases List.mem_cons.1 m2 with e|m2'
   ·exact e.symm
   exact ha x y ZE m2 (h1.1 y m2') (h2.1 x m1')
  subst vz;rw[AbG (List.perm_cons x |>.1 hp) h1.2 h2.2 fun u v hu hv=>ha u v (bK _ hu) (bK _ hv)]
def leB(a b:ByteArray):Prop:=a.data.toList≤b.data.toList
theorem AnN{a b}(h1:leB a b)(h2:leB b a):a=b:=Cv (List.le_antisymm h1 h2)
theorem AuW{a b c}(h1:leB a b)(h2:leB b c):leB a c:=List.le_trans h1 h2
theorem Pn(ps):(Ir ps).Perm ps:=by
 unfold Ir;have h:=(List.mergeSort_perm (ps.map (·.data.toList)) fun x y=>decide (x≤y)).map fun l:List UInt8=>(⟨l.toArray⟩:ByteArray)
 rw[gX]at h;have e:(fun l:List UInt8=>(⟨l.toArray⟩:ByteArray)) ∘ (fun x:ByteArray=>x.data.toList)=id:=by funext x;rfl
 rw[e,List.map_id]at h;exact h
theorem Zv(ps):(Ir ps).Pairwise leB:=by
 unfold Ir;rw[gD];have h:=List.pairwise_mergeSort (le:=fun x y:List UInt8=>decide (x≤y)) (fun a b c h1 h2=>by rw[dQ]at *;exact List.le_trans h1 h2) (fun a b=>by rw[iV,dQ,dQ];exact List.le_total a b) (ps.map (·.data.toList))
 exact h.imp fun{a b} h=>by rw[dQ]at h;exact h
theorem AsH{ps xs}(hp:xs.Perm ps)(hs:xs.Pairwise leB):xs=Ir ps:=
 AbG (hp.trans (Pn ps).symm) hs (Zv ps) fun _ _ _ _ h1 h2=>AnN h1 h2
def Kk:List ByteArray→ByteArray→List ByteArray
 |[],s=>[s]
 |x::l,s=>if s.data.toList<x.data.toList then s::x::l else x::Kk l s
theorem Vy:∀(l:List ByteArray) (s:ByteArray),(Kk l s).Perm (s::l)
 |[],s=>gN _
 |x::l,s=>by
  unfold Kk
  split
  ·exact gN _
  ·exact((Vy l s).cons x).trans (List.Perm.swap s x l)
theorem AdM:∀{l:List ByteArray} (s:ByteArray),l.Pairwise leB→(Kk l s).Pairwise leB
 |[],s,_=>by unfold Kk;simp
 |x::l,s,h=>by
  rw[fV]at h;unfold Kk
  split
  ·rename_i hl
   rw[fV,fV];have BQ:leB s x:=List.le_of_lt hl;exact⟨fun y hy=>by
    rcases List.mem_cons.1 hy with rfl|hy
    ·exact BQ
    ·exact AuW BQ (h.1 y hy),h⟩
  ·rename_i hl
   rw[fV];refine⟨fun y hy=>?_,AdM s h.2⟩;rcases List.mem_cons.1 ((Vy l s).mem_iff.1 hy)with rfl|hy
   ·exact List.not_lt.1 hl
   ·exact h.1 y hy
theorem Ac3(xs):xs.foldl Kk []=Ir xs:=by
 have jm:∀(xs yc:List ByteArray),yc.Pairwise leB→(xs.foldl Kk yc).Pairwise leB∧(xs.foldl Kk yc).Perm (yc++xs):=by
  intro xs
  induction xs with
  |nil=>intro yc h;exact⟨h,ZE⟩
  |cons x xs ih=> intro yc h;rw[List.foldl_cons];obtain⟨h1,h2⟩:=ih (Kk yc x) (AdM x h);refine⟨h1,h2.trans ?_⟩;refine((Vy yc x).append_right xs).trans ?_;rw[dB];exact jF.symm
 obtain⟨h1,h2⟩:=jm xs [] List.Pairwise.nil;exact AsH ZCG h1
theorem Aj7{fs}(h:Be fs=true):(Q7 fs).Perm (AmJ fs):=by
 unfold Q7 AmJ;rw[aP h];have h1:=((Pn (fs.map Fwd.src)).filter fun c=>(Bc fs c).2.2).map fun c=>(⟨c,(Bc fs c).1⟩:Fwd)
 refine h1.trans ?_;rw[List.filter_map,gX];exact gN _
theorem AnS(fs):(Q7 fs).Pairwise fun x y=>leB x.src y.src:=by
 unfold Q7
 split
 ·rw[gD]
  exact(Zv _).filter _
 ·exact List.Pairwise.nil
theorem Au4{fs gs}(h:Be fs=true)(hp:gs.Perm (AmJ fs))(hs:gs.Pairwise fun x y=>leB x.src y.src):gs=Q7 fs:=by
 refine AbG (hp.trans (Aj7 h).symm) hs (AnS fs) fun x y hx hy h1 h2=>?_
 have e:=AnN h1 h2;have mx:=hp.mem_iff.1 hx;have my:=hp.mem_iff.1 hy;unfold AmJ at mx my;obtain⟨a,_,rfl⟩:=List.mem_map.1 mx;obtain⟨b,_,rfl⟩:=List.mem_map.1 my;have e':a.src=b.src:=e;rw[e']
theorem AjN{x}(h:Ap x=true):x.size=7:=(Cp h).1
theorem X5{hs}(h:Ee hs=true):hs.length≤30∧∀x∈hs,Ap x=true:=by unfold Ee at h;rw[aN,dQ,dN]at h;exact h
theorem AlQ(B d s vH w)(hD:Bv B w d s vH)(hT:I4 w):
 Calls aB 52 #[.pointer (some ⟨d,0,none⟩),.string Cf] w (Bb B d s vH (Co s.letters) w):=by refine' ZI7;have HF:=aA (F7 vL s.letters w hL.rd hT);clear hD hL hT;refine' ZFw;exact ZD3
theorem Au7(B d s vH w)(hD:Bv B w d s vH)(hT:I4 w)(hi:Bj s.day.plan.bins∧Bj s.day.plan.passes):
 Calls aB 52 #[.pointer (some ⟨d,0,none⟩),.string Df] w (Bb B d s vH (E7 s.day.plan) w):=by
 refine' zC;obtain⟨_,vO,_,_,_,⟨_,c1,c2,c3,_,_,_,_⟩,_,_,hO,_⟩:=Ca hD;have HF:=aA (N0 (.agg #[.int .i64 s.day.plan.bins,.int .i64 s.day.plan.passes,vO]) s.day.plan w ⟨_,rfl,hi.1,hi.2,hO.rd⟩ hT);clear hD hO hT hi;refine' ZFt;have db:(Df.toList==[115,111,114,116])=false:=ZD
 have d8:(Df.toList==[115,101,113,117,101,110,99,101])=false:=ZD
 have fd:(Df.toList==[115,101,97,108])=false:=ZD
 refine' ZFu;exact ZD3
theorem Ai2(B d s vH w)(hD:Bv B w d s vH):
 Calls aB 52 #[.pointer (some ⟨d,0,none⟩),.string Bg] w (Bb B d s vH (C5 s.day.fwds) w):=by
 refine' ZCe;have HF:=aA (Kt vF s.day.fwds w hF.rd);clear hD hF;refine' ZJH;have db:(Bg.toList==[115,111,114,116])=false:=ZD
 have d8:(Bg.toList==[115,101,113,117,101,110,99,101])=false:=ZD
 have fd:(Bg.toList==[115,101,97,108])=false:=ZD
 have gq:(Bg.toList==[112,108,97,110])=false:=ZD
 have i8:(Bg.toList==[109,111,118,101,100])=false:=ZD
 refine' ZJI;exact ZD3
theorem Aw3(B d s vH w)(hD:Bv B w d s vH)(hk:Ee s.day.held=true):
 Calls aB 52 #[.pointer (some ⟨d,0,none⟩),.string Fm] w (Bb B d s vH (Cb s.day.held) w):=by
 refine' zC;obtain⟨_,_,_,_,_,⟨_,_,_,_,_,c5,_,_⟩,_,_,_,_,hH,_⟩:=Ca hD;have HF:=aA (Hw vH s.day.held w hH.rd (by have:=(X5 hk).1;omega) fun p hp=>by have:=AjN ((X5 hk).2 p hp);omega);clear hD hH hk;refine' ZR9;have d8:(Fm.toList==[115,101,113,117,101,110,99,101])=false:=ZD
 have fd:(Fm.toList==[115,101,97,108])=false:=ZD
 have gq:(Fm.toList==[112,108,97,110])=false:=ZD
 have i8:(Fm.toList==[109,111,118,101,100])=false:=ZD
 have jQ:(Fm.toList==[102,111,114,119,97,114,100,115])=false:=ZD
 have kJ:(Fm.toList==[100,105,114,101,99,116])=false:=ZD
 have lP:(Fm.toList==[101,110,100,108,101,115,115])=false:=ZD
 have cm:(Fm.toList==[104,101,108,100])=true:=ZD
 generalize Fm=wd at *;exact ZD3
theorem AvI(B d s vH wd w)(hD:Bv B w d s vH)(hn:∀x∈([[108,101,116,116,101,114,115],[115,111,114,116],[115,101,113,117,101,110,99,101],[115,101,97,108],[112,108,97,110],[109,111,118,101,100],[102,111,114,119,97,114,100,115],[100,105,114,101,99,116],[101,110,100,108,101,115,115],[104,101,108,100],[100,97,121],[116,114,97,121,115],[110,101,116]]:List (List UInt8)),(wd.toList==x)=false):
 Calls aB 52 #[.pointer (some ⟨d,0,none⟩),.string wd] w (Bb B d s vH Hg w):=by
 refine' zC;have ca:(wd.toList==[108,101,116,116,101,114,115])=false:=hn _ ZE;have db:(wd.toList==[115,111,114,116])=false:=hn _ ZE;have d8:(wd.toList==[115,101,113,117,101,110,99,101])=false:=hn _ ZE;have fd:(wd.toList==[115,101,97,108])=false:=hn _ ZE;have gq:(wd.toList==[112,108,97,110])=false:=hn _ ZE;have i8:(wd.toList==[109,111,118,101,100])=false:=hn _ ZE;have jQ:(wd.toList==[102,111,114,119,97,114,100,115])=false:=hn _ ZE;have kJ:(wd.toList==[100,105,114,101,99,116])=false:=hn _ ZE;have lP:(wd.toList==[101,110,100,108,101,115,115])=false:=hn _ ZE;have nK:(wd.toList==[104,101,108,100])=false:=hn _ ZE;have kK:(wd.toList==[100,97,121])=false:=hn _ ZE;have mX:(wd.toList==[116,114,97,121,115])=false:=hn _ ZE;have qX:(wd.toList==[110,101,116])=false:=hn _ ZE;clear hn hD;go_enter Tryz.func52,Tryz.ntmps52
 exact ZCb
theorem AzA(B d s vH wd f w)(hD:Bv B w d s vH)(hn:∀x∈([[112,97,115,115],[99,111,117,110,116],[114,97,110,107],[108,111,97,100,115],[115,116,97,121],[114,101,115,111,108,118,101],[104,111,108,100],[115,105,122,101],[102,97,116,101],[102,97,117,108,116,115],[99,111,100,101],[98,97,114,115],[114,101,97,100]]:List (List UInt8)),(wd.toList==x)=false):
 Calls aB 58 #[.pointer (some ⟨d,0,none⟩),.string wd,.string f] w (Bb B d s vH Hg w):=by refine' zC;have ca:(wd.toList==[112,97,115,115])=false:=hn _ ZE;have db:(wd.toList==[99,111,117,110,116])=false:=hn _ ZE;have d8:(wd.toList==[114,97,110,107])=false:=hn _ ZE;have fd:(wd.toList==[108,111,97,100,115])=false:=hn _ ZE;have gq:(wd.toList==[115,116,97,121])=false:=hn _ ZE;have i8:(wd.toList==[114,101,115,111,108,118,101])=false:=hn _ ZE;have jQ:(wd.toList==[104,111,108,100])=false:=hn _ ZE;have kJ:(wd.toList==[115,105,122,101])=false:=hn _ ZE;have lP:(wd.toList==[102,97,116,101])=false:=hn _ ZE;have nK:(wd.toList==[102,97,117,108,116,115])=false:=hn _ ZE;have kK:(wd.toList==[99,111,100,101])=false:=hn _ ZE;have mX:(wd.toList==[98,97,114,115])=false:=hn _ ZE;have qX:(wd.toList==[114,101,97,100])=false:=hn _ ZE;clear hn hD;refine' YZ;exact ZCb
theorem AwS(B d s vH wd f g w)(hD:Bv B w d s vH)(hn:∀x∈([[115,119,97,112],[102,111,114,119,97,114,100],[112,97,116,104]]:List (List UInt8)),(wd.toList==x)=false):
 Calls aB 59 #[.pointer (some ⟨d,0,none⟩),.string wd,.string f,.string g] w (Bb B d s vH Hg w):=by
 refine' zC;have ca:(wd.toList==[115,119,97,112])=false:=hn _ ZE;have db:(wd.toList==[102,111,114,119,97,114,100])=false:=hn _ ZE;have d8:(wd.toList==[112,97,116,104])=false:=hn _ ZE;clear hn hD;go_enter Tryz.func59,Tryz.ntmps59
 exact ZCb
theorem ApZ(B d s' vH f a w)(HC:Calls aB 146 #[.pointer (some ⟨d,0,none⟩),.string f] w (Bb B d s' vH a w)):
 Calls aB 58 #[.pointer (some ⟨d,0,none⟩),.string Cc,.string f] w (Bb B d s' vH a w):=by
 refine' ZAL;have ca:(Cc.toList==[112,97,115,115])=false:=ZD
 have db:(Cc.toList==[99,111,117,110,116])=false:=ZD
 have d8:(Cc.toList==[114,97,110,107])=false:=ZD
 have fd:(Cc.toList==[108,111,97,100,115])=false:=ZD
 have gq:(Cc.toList==[115,116,97,121])=false:=ZD
 refine' ZSA;refine' YZ;exact ZBO
theorem Ax2(B d s' vH f a w)(HC:Calls aB 149 #[.pointer (some ⟨d,0,none⟩),.string f] w (Bb B d s' vH a w)):
 Calls aB 58 #[.pointer (some ⟨d,0,none⟩),.string Dl,.string f] w (Bb B d s' vH a w):=by
 refine' ZAL;have ca:(Dl.toList==[112,97,115,115])=false:=ZD
 have db:(Dl.toList==[99,111,117,110,116])=false:=ZD
 have d8:(Dl.toList==[114,97,110,107])=false:=ZD
 have fd:(Dl.toList==[108,111,97,100,115])=false:=ZD
 have gq:(Dl.toList==[115,116,97,121])=false:=ZD
 have i8:(Dl.toList==[114,101,115,111,108,118,101])=false:=ZD
 have jQ:(Dl.toList==[104,111,108,100])=false:=ZD
 have kJ:(Dl.toList==[115,105,122,101])=false:=ZD
 have cm:(Dl.toList==[102,97,116,101])=true:=ZD
 generalize Dl=wd at *;refine' YZ;exact ZBO
theorem AsE(B d s' vH f a w)(hz:f.size≤maxLen)(HC:Calls aB 143 #[.pointer (some ⟨d,0,none⟩),.int .i64 (Am f)] w (Bb B d s' vH a w)):
 Calls aB 58 #[.pointer (some ⟨d,0,none⟩),.string Ds,.string f] w (Bb B d s' vH a w):=by
 refine' ZAL;have HN:=aA (fun W=>Fg f W hz);clear hz;generalize Am f=nv at *;have ca:(Ds.toList==[112,97,115,115])=false:=ZD
 have db:(Ds.toList==[99,111,117,110,116])=false:=ZD
 have d8:(Ds.toList==[114,97,110,107])=false:=ZD
 refine' ZSB;refine' YZ;refine' ZDh;exact ZBO
theorem Av7(B d s' vH f a w)(hz:f.size≤maxLen)(HC:Calls aB 148 #[.pointer (some ⟨d,0,none⟩),.int .i64 (Am f)] w (Bb B d s' vH a w)):
 Calls aB 58 #[.pointer (some ⟨d,0,none⟩),.string Dk,.string f] w (Bb B d s' vH a w):=by
 refine' ZAL;have HN:=aA (fun W=>Fg f W hz);clear hz;generalize Am f=nv at *;have ca:(Dk.toList==[112,97,115,115])=false:=ZD
 have db:(Dk.toList==[99,111,117,110,116])=false:=ZD
 have d8:(Dk.toList==[114,97,110,107])=false:=ZD
 have fd:(Dk.toList==[108,111,97,100,115])=false:=ZD
 have gq:(Dk.toList==[115,116,97,121])=false:=ZD
 have i8:(Dk.toList==[114,101,115,111,108,118,101])=false:=ZD
 have jQ:(Dk.toList==[104,111,108,100])=false:=ZD
 refine' ZJJ;refine' YZ;refine' ZDh;exact ZBO
theorem Vb{α β:Type}[El α][El β]{T1 T2 B:Nat}{w w1 vo vH}{xs:List α}{ys:List β}(ho:own T1 w.heap.size w1 vo xs)(hh:own T2 B w vH ys):apart vo vH:=by
 unfold apart;cases hv:vo.ownBlock with
 |none=>exact .inl rfl
 |some k=> refine' YR;have h1:=(ho.blk k hv).1;have h2:=(hh.blk k e.symm).2;omega
theorem AlO(s ok xs):(setL s ok xs).1=if ok then{s with letters:=xs}else s:=by unfold setL;split<;>rfl
theorem AlJ(s ok xs):(setL s ok xs).2=if ok then Co xs else⟨#[]⟩:=by unfold setL;split<;>rfl
theorem Am2(s ok fs):(setF s ok fs).1=if ok then{s with day:={s.day with fwds:=fs}}else s:=by unfold setF;split<;>rfl
theorem Am9(s ok fs):(setF s ok fs).2=if ok then C5 fs else⟨#[]⟩:=by unfold setF;split<;>rfl
theorem AiQ(B d s vH t w)(hD:Bv B w d s vH)(hB:B≤w.heap.size)(ht:t.size≤1000000):
 Calls aB 55 #[.pointer (some ⟨d,0,none⟩),.string t] w (Bb B d (if Ge t then{s with day:={s.day with plan:=Ey t}}else s) vH (if Ge t then okW else⟨#[]⟩) w):=by
 refine' zC;have HP:=aA (AgA t w ht);clear hD ht;generalize Ey t=p at *;obtain⟨pb,pp,po⟩:=p;simp only at HP;cases ag:Ge t
 all_goals
  rw[ag]at HP;clear ag;go_enter Tryz.func55,Tryz.ntmps55
  refine' ZC;refine HP.out.mono ?_;rintro e w1 ⟨vo,rfl,o1,b1⟩;have pK:=Vb o1 HD.out.held;refine' ZD0;obtain⟨w2,qE⟩:∃u,u=w1.alloc (aC #[.int .i64 pb,.int .i64 pp,.slice A n c] 30):=⟨_,rfl⟩;have dj:w2.heap[w1.heap.size]? =some (.cells #[.int .i64 pb,.int .i64 pp,.slice A n c] 30 (0,0)):=by rw[qE];exact bD w1 _
  have qF:Below w.heap.size w w2:=by rw[qE];exact b1.alloc b1.size _
  have kG:own 9 w.heap.size w2 (.slice A n c) po:=by rw[qE];exact o1.alloc _
  have gh:=b1.size;obtain⟨q0,q1,q2,_,_,_⟩:=B7 dj;have jR:=aA (HD.out.below qF);refine' ZRl;have ja:=aA (kG.base_ hB);have gi:=aA qF;have et:=aA pK;clear o1 b1 dj qF kG hf pK;subst qE
  refine' ZI
 ·exact Bb.of_read HD.out rfl gi.out
 ·exact⟨rfl,vH,((jR.out.setBins pb).setPasses pp).setOrder (D3 (D3 ja.out jR.out.obj ZF 1) (jR.out.setBins pb).obj ZF 2) et.out,(((Kd.of_below gi.out).set 1 _).set 2 _).set 3 _,Nu.refl _ _⟩
theorem AaW(B d s vH t w)(hD:Bv B w d s vH)(hB:B≤w.heap.size)(ht:t.size≤maxLen):
 Calls aB 56 #[.pointer (some ⟨d,0,none⟩),.string t] w (Bb B d (if Tf t then{s with day:={s.day with fwds:=pfF t}}else s) vH (if Tf t then okW else⟨#[]⟩) w):=by
 refine' zC;clear hD;have HP:=aA (Yi t w ht);generalize pfF t=fs at *;cases ag:Tf t
 all_goals
  rw[ag]at HP;clear ag;go_enter Tryz.func56,Tryz.ntmps56
  refine' ZC;refine HP.out.mono ?_;refine' ZAj;have px:=aA (HD.out.below b1);refine' ZD0;have lu:=aA (o1.base_ hB);refine' ZAe;obtain⟨_,_,_,_,_,⟨_,_,_,_,c4,_,_,_⟩,hf,_⟩:=Ca px.out;have f4:=hf 4;clear o1 b1 hf
  refine' ZI
 ·exact Bb.of_read HD.out rfl ik.out
 ·exact⟨rfl,vH,px.out.setFwds lu.out,(Kd.of_below ik.out).set 4 _,Nu.refl _ _⟩
theorem AmI(B d s vH t w)(hD:Bv B w d s vH)(hB:B≤w.heap.size)(ht:t.size≤maxLen):
 Calls aB 57 #[.pointer (some ⟨d,0,none⟩),.string t] w (Bb B d (if Kx t then{s with net:=pnN t}else s) vH (if Kx t then okW else⟨#[]⟩) w):=by
 refine' zC;clear hD;have HP:=aA (AaC t w ht);generalize pnN t=net at *;cases ag:Kx t
 all_goals
  rw[ag]at HP;clear ag;go_enter Tryz.func57,Tryz.ntmps57
  refine' ZC;refine HP.out.mono ?_;rintro e w1 ⟨v1,rfl,⟨os1,o1⟩,b1⟩;have px:=aA (HD.out.below b1);refine' ZD0;have lu:=aA o1;refine' ZAe;obtain⟨_,_,_,_,_,⟨_,_,_,_,_,_,_,c7⟩,hf,_⟩:=Ca px.out;have f7:=hf 7;clear o1 b1 hf
  refine' ZI
 ·exact Bb.of_read HD.out rfl ik.out
 ·exact⟨rfl,vH,px.out.setNet (lu.out.base_ hB),(Kd.of_below ik.out).set 7 _,Nu.refl _ _⟩
theorem AiX(B d s vH n w)(hD:Bv B w d s vH):
 Calls aB 148 #[.pointer (some ⟨d,0,none⟩),.int .i64 n] w (Bb B d (if Fp n then{s with day:={s.day with size:=n}}else s) vH (if Fp n then okW else⟨#[]⟩) w):=by
 refine' zC;obtain⟨_,_,_,_,_,⟨_,_,_,_,_,_,c6,_⟩,ib,_⟩:=Ca hD;have f6:=ib 6;have HSV:=aA (Me n w);clear ib hD;cases ag:Fp n
 all_goals
  rw[ag]at HSV;clear ag;go_enter Tryz.func148,Tryz.ntmps148
  refine' ZC;refine HSV.out.mono ?_;refine' ZP;refine' ZI
 ·exact Bb.of_read HD.out rfl (aF _ _)
 ·exact⟨rfl,vH,HD.out.setSize n,(Kd.of_below (aF _ _)).set 6 _,Nu.refl _ _⟩
theorem AsM(B d s vH c w)(hD:Bv B w d s vH)(hB:B≤w.heap.size)(hc:c.size≤maxLen)(hk:Ee s.day.held=true):
 Calls aB 147 #[.pointer (some ⟨d,0,none⟩),.string c] w (Bb B d (if Ap c&&decide (s.day.held.length<30)then{s with day:={s.day with held:=s.day.held++[c]}}else s) vH (if Ap c&&decide (s.day.held.length<30)then Cb (s.day.held++[c])else⟨#[]⟩) w):=by
 cases f8:Ap c
 ·have iz:=aA (Cw c w hc)
  refine' zC;rw[f8]at iz;clear hD hc f8 hk;exact ZRm
 ·by_cases hl:s.day.held.length<30
  ·have h:=AuK B d s vH c w hD hB f8 hl fun x hx=>by have:=AjN ((X5 hk).2 x hx);omega
   rw[aJ hl];exact h
  ·have iz:=aA (Cw c w hc)
   refine' zC;rw[f8]at iz;rw[aO hl];obtain⟨AH,nH,cH,rfl,hn, -, -, -⟩:=hD.held.rd;obtain⟨_,_,_,_,_,⟨_,_,_,_,_,c5,_,_⟩,_,_⟩:=Ca hD;have hni':(30:Int)≤(nH:Int):=ZA
   clear hD hc f8 hk hn hl;exact ZRm
theorem N7(B d s vH v fs ok w)(hD:Bv B w d s vH)(ho:own 128 B w v fs):
 Calls aB 144 #[.pointer (some ⟨d,0,none⟩),v,.bool ok] w (Bb B d (if ok then{s with day:={s.day with fwds:=fs}}else s) vH (if ok then C5 fs else⟨#[]⟩) w):=by
 refine' zC;refine' zZ;obtain⟨A,n,c,rfl, -, -, -, -⟩:=ho.rd;obtain⟨_,_,_,_,_,⟨_,_,_,_,c4,_,_,_⟩,hf,_⟩:=Ca hD;have f4:=hf 4;clear hD ho hf;cases ok
 ·go_enter Tryz.func144,Tryz.ntmps144
  exact ZCb
 ·have HF:=aA (Kt _ fs _ (D3 (u:=.slice A n c) HO.out HD.out.obj ZF 4).rd)
  go_enter Tryz.func144,Tryz.ntmps144
  refine' ZBv;have bt:=aA b1;clear b1
  refine' ZI;exact Bb.post ⟨rfl,vH,HD.out.setFwds HO.out,(Kd.of_below (aF _ _)).set 4 _,Nu.refl _ _⟩ bt.out
theorem Ar5(B d s' vH ak rest a w)(hz:ak.size≤maxLen)(co:E5 32 ak=some (Df,rest))
 (HC:∀W,Below w.heap.size w W→Calls aB 55 #[.pointer (some ⟨d,0,none⟩),.string rest] W (Bb B d s' vH a W)):
 Calls aB 16 #[.pointer (some ⟨d,0,none⟩),.string ak] w (Bb B d s' vH a w):=by
 have HK:Hid (Calls aB 51 #[.string ak,.string ⟨#[32]⟩] w fun e w'=>e=.returned (.tuple #[.string Df,.string rest,.bool true])∧Below w.heap.size w w'):=(Er ak 32 w hz).mono fun e w' h=>ZD1
 have jz:=aA HC;clear HC co;refine' ZFt;refine' ZFu;exact ZFv
theorem AgK(B d s' vH ak rest a w)(hz:ak.size≤maxLen)(co:E5 32 ak=some (Bg,rest))
 (HC:∀W,Below w.heap.size w W→Calls aB 56 #[.pointer (some ⟨d,0,none⟩),.string rest] W (Bb B d s' vH a W)):
 Calls aB 16 #[.pointer (some ⟨d,0,none⟩),.string ak] w (Bb B d s' vH a w):=by
 have HK:Hid (Calls aB 51 #[.string ak,.string ⟨#[32]⟩] w fun e w'=>e=.returned (.tuple #[.string Bg,.string rest,.bool true])∧Below w.heap.size w w'):=(Er ak 32 w hz).mono fun e w' h=>ZD1
 have jz:=aA HC;clear HC co;refine' ZI6;exact ZFv
theorem AiE(B d s vH ak rest w)(hD:Bv B w d s vH)(hB:B≤w.heap.size)(hT:I4 w)(hz:ak.size≤maxLen)(hr:rest.size≤maxLen)(co:E5 32 ak=some (Cf,rest)):
 Calls aB 16 #[.pointer (some ⟨d,0,none⟩),.string ak] w (Bb B d (if Mv rest then{s with letters:=pbL rest}else s) vH (if Mv rest then Co (pbL rest)else⟨#[]⟩) w):=by
 have HK:Hid (Calls aB 51 #[.string ak,.string ⟨#[32]⟩] w fun e w'=>e=.returned (.tuple #[.string Cf,.string rest,.bool true])∧Below w.heap.size w w'):=(Er ak 32 w hz).mono fun e w' h=>ZD1
 have HP:Hid (∀W:World,Below w.heap.size w W→Calls aB 54 #[.string rest] W fun e w'=>∃v',e=.returned (.tuple #[v',.bool (Mv rest)])∧own 119 W.heap.size w' v' (pbL rest)∧Below W.heap.size W w'):=fun W hW=>Ae5 rest W hr (hT.on hW)
 have HC:Hid (∀(v:Value) (W:World),Below w.heap.size w W→own 119 B W v (pbL rest)→Calls aB 53 #[.pointer (some ⟨d,0,none⟩),v,.bool (Mv rest)] W (Bb B d (if Mv rest then{s with letters:=pbL rest}else s) vH (if Mv rest then Co (pbL rest)else⟨#[]⟩) W)):=fun v W hW ho=>Nz B d s vH v _ _ W (hD.below hW) ho (hT.on hW)
 clear hD hT co hz hr;generalize(if Mv rest then({s with letters:=pbL rest}:Dsk)else s)=s' at *;generalize(if Mv rest then Co (pbL rest)else(⟨#[]⟩:ByteArray))=a at *;generalize Mv rest=ok at *;generalize pbL rest=L at *;refine' ZFw;go_enter Tryz.func16,Tryz.ntmps16
 refine' ZC;refine HK.out.mono ?_;refine' ZT;refine' ZAe;clear b1
 refine' ZC;refine(HP.out _ ik.out).mono ?_;refine' ZAm;have kS:=aA (Aa ik.out b2);have kw:=aA (HC.out v2 w2 kS.out (o2.base_ (aG hB ik.out.size)));obtain⟨A,n,c,rfl, -, -, -, -⟩:=o2.rd;clear o2 b2
 refine' ZC;refine kw.out.mono ?_;rintro e w3 h3;have H3:=aA h3;obtain⟨rfl,_⟩:=h3
 refine' ZI;exact Bb.pre kS.out H3.out
def AaG(f:ByteArray)(xs:List Ltr):List Ltr:=xs.filter fun x=>pre x.code f
def Aa1(f:ByteArray)(xs:List Ltr):List Ltr:=xs.filter fun x=> !pre x.code f
theorem Aq7{f}{xs:List Ltr}{k}(h:k<xs.length)(hf:pre xs[k].code f=true):AaG f (xs.take (k+1))=AaG f (xs.take k)++[xs[k]]:=by unfold AaG;exact zn
theorem Ak6{f}{xs:List Ltr}{k}(h:k<xs.length)(hf:pre xs[k].code f=false):AaG f (xs.take (k+1))=AaG f (xs.take k):=by unfold AaG;exact zn
theorem ApN{f}{xs:List Ltr}{k}(h:k<xs.length)(hf:pre xs[k].code f=true):Aa1 f (xs.take (k+1))=Aa1 f (xs.take k):=by unfold Aa1;exact zn
theorem AjH{f}{xs:List Ltr}{k}(h:k<xs.length)(hf:pre xs[k].code f=false):Aa1 f (xs.take (k+1))=Aa1 f (xs.take k)++[xs[k]]:=by unfold Aa1;exact zn
theorem ApG(f xs):(AaG f xs).length≤xs.length:=bJ _ _
theorem An6(f xs):(Aa1 f xs).length≤xs.length:=bJ _ _
def Re(f:ByteArray)(xs:List Ltr):Bool:=okB xs&&Jr f
def Kw(f:ByteArray)(xs:List Ltr):List Ltr:=if Re f xs then AaG f xs else []
def Ts(f:ByteArray)(xs:List Ltr):List Ltr:=if Re f xs then Aa1 f xs else []
theorem Ae4(vb xs f w)(hb:rd w w.heap.size vb xs)(ib:f.size≤maxLen):
 Calls aB 225 #[vb,.string f] w fun e w'=>∃vA vB,e=.returned (.tuple #[vA,vB,.bool (Re f xs)])∧own 119 w.heap.size w' vA (Kw f xs)∧own 119 w.heap.size w' vB (Ts f xs)∧apart vA vB∧Below w.heap.size w w':=by
 refine' ZCH;refine' zw;refine' ZRY;go_enter Tryz.func225,Tryz.ntmps225
 refine' ZC;refine(Cn _ xs _ HB.out).mono ?_;refine' zd;cases h1:okB xs
 ·have HF:Hid (Re f xs=false):=zu
  clear h1
  exact ZDQ
 have lG:=Cq h1;refine' zP;refine(Rd f _ ib).mono ?_;refine' zo;clear b1;cases h2:Jr f
 ·have HF:Hid (Re f xs=false):=ZBf
  clear h2
  exact ZDQ
 refine' ZRZ;refine' ZC;go_loopw[7,8,21] (fun a b i wr=>∃k:Nat,k≤xs.length∧i=.int .i64 k∧Below w.heap.size w wr∧own 119 w.heap.size wr a (AaG f (xs.take k))∧own 119 w.heap.size wr b (Aa1 f (xs.take k))∧Hid (apart a b)) (fun _ _ i _=>xs.length - (intOf i).toNat)
 case atStart=>exact⟨0,aM _,rfl,l1,own.nil_ _ _ _,own.nil_ _ _ _,.inl rfl⟩
 case round=>
  refine' ZCI;clear l0 l1;by_cases ab:k<xs.length
  ·refine' ZRa;refine' ZLt;refine(Mb x.code f _ ew ib).mono ?_;cases hf:pre x.code f
   rotate_left
   ·refine' ZAG;refine' ZCJ;clear hf
    go_wp2_with (at_builtin;refine An (α:=Ltr) rfl (.tmp 29) (.tmp 31) 27 rfl w.heap.size 119 i1 _ 24 aV ji dp dq dr rfl ZF (.slice AA sa.length cA) sa x rfl (iw.out.alloc _) ⟨wl.heap.size,0,none⟩ 1 (Ltr.cells x) rfl ⟨⟨fa,ew⟩,rfl⟩ (Bz wl _ (Ltr.cells x)) ZN ZA ZH ?_;refine' zI)
    exact ZHA
   ·refine' ZAG;refine' ZEd;clear hf
    go_wp2_with (at_builtin;refine An (α:=Ltr) rfl (.tmp 33) (.tmp 35) 27 rfl w.heap.size 119 i1 _ 24 aV ji dp dq dr rfl ZF (.slice AB bs.length cB) bs x rfl (br.out.alloc _) ⟨wl.heap.size,0,none⟩ 1 (Ltr.cells x) rfl ⟨⟨fa,ew⟩,rfl⟩ (Bz wl _ (Ltr.cells x)) ZN ZA ZH ?_;refine' zI)
    exact ZDS
  exact ZDT
theorem Ac5(vb xs f w)(hb:rd w w.heap.size vb xs)(ib:f.size≤maxLen):
 Calls aB 141 #[vb,.string f] w fun e w'=>e=.returned (.int .i64 (Fw xs f))∧Below w.heap.size w w':=by
 have HS:=aA (Ae4 vb xs f w hb ib);refine' ZRb;cases ag:Re f xs
 all_goals
  rw[ag]at HS;clear ag;go_enter Tryz.func141,Tryz.ntmps141
  refine' ZRc
 ·exact⟨rfl,B1.out⟩
 ·exact⟨Bo (by rw[HN.out]),B1.out⟩
theorem Qf(v)(fs:List Fwd)(nc w)(hv:rd w w.heap.size v fs)(hl:fs.length≤1000):
 Calls aB 229 #[v,.int .i64 nc] w fun e w'=>∃v',e=.returned v'∧own 128 w.heap.size w' v' (wo fs nc)∧Below w.heap.size w w':=by
 refine' ZA3;refine' ZCm;have hnw:aI.wrap ((fs.length:Int)+1)=(fs.length:Int)+1:=ZY
 have ez:∀W:World,Sem.run aB (Instr.makeSlice 31 (.int .i64 0) (.int .i64 ((fs.length:Int)+1))) W=.ok (.slice (some ⟨W.heap.size,0,none⟩) 0 (fs.length+1)) (W.alloc (aC (madeCells #[.string ⟨#[]⟩,.string ⟨#[]⟩] ((fs.length+1)*2)) 128)):=fun W=>by have h:=run_make (P:=aB) (w:=W) 31 128 i1 _ dX ji dp .i64 .i64 0 ((fs.length+1:Nat):Int) ZA ZA (by rw[dr];omega) ZA;rw[dq]at h;simp only[bE]at h;rw[show((fs.length+1:Nat):Int)=(fs.length:Int)+1 by omega]at h;exact h
 have kT:Hid ((madeCells #[aK ⟨#[]⟩,aK ⟨#[]⟩] ((fs.length+1)*2)).size=(fs.length+1)*2):=size_madeCells _ _;go_enter Tryz.func229,Tryz.ntmps229
 refine' ZC;have ox:own (α:=Fwd) 128 w.heap.size (w.alloc (aC (madeCells #[aK ⟨#[]⟩,aK ⟨#[]⟩] ((fs.length+1)*2)) 128)) (.slice (some ⟨w.heap.size,0,none⟩) 0 (fs.length+1)) (wo (fs.take 0) nc):=own.madeCap w _ (aD _) _ (fs.length+1) ZN kT.out;have l0:Below w.heap.size w (w.alloc (aC (madeCells #[aK ⟨#[]⟩,aK ⟨#[]⟩] ((fs.length+1)*2)) 128)):=(aF _ _).alloc (aD _) _;have qP:=aA ox;clear ez ox;generalize w.alloc (aC (madeCells #[aK ⟨#[]⟩,aK ⟨#[]⟩] ((fs.length+1)*2)) 128)=wz at *
 go_loopw[5,14] (fun a i wr=>∃k:Nat,k≤fs.length∧i=.int .i64 k∧Below w.heap.size w wr∧own 128 w.heap.size wr a (wo (fs.take k) nc)) (fun _ i _=>fs.length - (intOf i).toNat)
 case atStart=>exact⟨0,aM _,rfl,l0,qP.out⟩
 case round=>
  obtain⟨k,hk,rfl,lr,hA⟩:=hrel;refine' zj;clear l0 qP;by_cases ab:k<fs.length
  ·obtain⟨b,o,rfl,hb,⟨pu,LE⟩,c1,c2⟩:=HR.out.fwdU k ab
   have HT:=aA (Z7 ab nc);have cy:=aA (aG (AmL (fs.take k) nc) (zF:(fs.take k).length≤fs.length));refine' YU;generalize wo (fs.take k) nc=sa at *;refine' ZRd;refine' ZRe;have y1:=Af cz 1 (.string x.dst) rfl;have ll:=Aa lr (Aw cz).1;have BL:=aA (Aw cz).1;have iw:=aA (HA.out.below BL.out);have mq:w.heap.size≤w3.heap.size:=lr.size;by_cases he:(k:Int)=nc
   ·have HS:Hid (wo (fs.take (k+1)) nc=sa):=ZRf
    have RW:((k:Int) != nc)=false:=by simp[he]
    have jM:=aA cz;clear cz HT he
    refine' ZC;rw[←jM.out]
    go_roundw
    case rel=>exact⟨k+1,ZA,ZJ,ll,by rw[HS.out];exact iw.out⟩
    case measure=>exact ZK
   ·have HS:Hid (wo (fs.take (k+1)) nc=sa++[x]):=ZRg
    have RW:((k:Int) != nc)=true:=by simp[he]
    have jM:=aA cz;clear HT;subst cz
    go_wp2_with (at_builtin;refine An (α:=Fwd) rfl (.tmp 22) (.tmp 24) 31 rfl w.heap.size 128 i1 _ 32 dX ji dp dq dr rfl ZF (.slice AA sa.length cA) sa x rfl (iw.out.alloc _) ⟨w3.heap.size+1,0,none⟩ 1 (Fwd.cells x) rfl ⟨⟨pu,LE⟩,rfl⟩ (by have h:=Bz (w3.alloc (aC #[.string x.src,.string x.dst] 128)) 128 (Fwd.cells x);rw[show(w3.alloc (aC #[.string x.src,.string x.dst] 128)).heap.size=w3.heap.size+1 by simp]at h;exact h) ZN ZA ZH ?_;refine' zI)
    have l5:Below w.heap.size w w5:=(Ae ll (aC #[aK x.src,aK x.dst] 128)).grown ap ZH fun q hq=>(iw.out.blk q hq).1
    go_roundw
    case rel=>exact⟨k+1,ZA,ZJ,l5,by rw[HS.out];exact bz⟩
    case measure=>exact ZK
  ·refine' ZCL;rw[HE.out,aY]at hA
   refine' ZI;exact⟨_,rfl,hA,lr⟩
theorem Xs(v fs c w)(hv:rd w w.heap.size v fs):
 Calls aB 145 #[v,.string c] w fun e w'=>∃v',e=.returned (.tuple #[v',.bool (Jy fs c)])∧own 128 w.heap.size w' v' (N6 fs c)∧Below w.heap.size w w':=by
 refine' ZRh;have HI:=aA (fun W h=>Mn _ fs c W (HV.out.on h));have HQ:Hid (Jy fs c=(Be fs&&decide (0≤Gg fs c))∧N6 fs c=if Jy fs c then wo fs (Gg fs c)else []):=⟨rfl,rfl⟩;obtain⟨r,hr⟩:∃r,Gg fs c=r:=⟨_,rfl⟩;rw[hr]at HI HQ;clear hr;cases h1:Be fs
 ·rw[h1]at HF HQ
  clear h1;go_enter Tryz.func145,Tryz.ntmps145
  refine' ZBv;refine' ZQ;exact⟨_,Bf (by rw[HQ.out.1]<;>rfl),by rw[HQ.out.2,HQ.out.1];exact ze,b1⟩
 ·have jU:=(Ch.1 h1).1
  rw[h1]at HF HQ;clear h1;by_cases h2:0≤r
  ·have HW:=aA (fun W h=>Qf _ fs r W (HV.out.on h) ZA)
   have HO:Hid (Jy fs c=true):=by show _=_;rw[HQ.out.1,aJ h2];rfl
   have wV:¬r<0:=ZA
   refine' ZRi;refine' ZC;refine(HW.out _ l2).mono ?_;refine' ZAW;refine' YC;have O3:=aA (o3.base_ l2.size);obtain⟨A3,n3,c3',rfl, -, -, -, -⟩:=o3.rd;clear o3 b1 b2 b3 l2
   refine' ZQ;exact⟨_,Bf ZCn,by rw[HQ.out.2,HO.out];exact O3.out,l3⟩
  ·have HO:Hid (Jy fs c=false):=by show _=_;rw[HQ.out.1,aO h2];rfl
   have wV:r<0:=ZA
   refine' ZRi;refine' ZQ;exact⟨_,Bf ZCn,by rw[HQ.out.2,HO.out];exact ze,l2⟩
theorem AdY(v fs a b w)(hv:rd w w.heap.size v fs)(ha:a.size≤maxLen)(hb:b.size≤maxLen):
 Calls aB 155 #[v,.string a,.string b] w fun e w'=>∃v',e=.returned (.tuple #[v',.bool (Ig fs a b)])∧own 128 w.heap.size w' v' (My fs a b)∧Below w.heap.size w w':=by
 refine' ZRh;have HI:=aA (fun W h=>Mn _ fs a W (HV.out.on h));have HQ:Hid (Ig fs a b=(Be fs&&(Be (Lh fs a b)&&(Bc (Lh fs a b) a).2.2))∧(Ig fs a b=false→My fs a b=[])∧(Ig fs a b=true→My fs a b=Lh fs a b)):=⟨rfl,fun h=>by unfold My;rw[h];rfl,fun h=>by unfold My;rw[aP h]⟩;refine' ZCm;cases h1:Be fs
 ·have HO:Hid (Ig fs a b=false):=by show _=_;rw[HQ.out.1,h1];rfl
  rw[h1]at HF;clear h1;go_enter Tryz.func155,Tryz.ntmps155
  refine' ZBv;refine' ZQ;exact⟨_,Bf ZCn,ZI5,b1⟩
 ·have jU:=(Ch.1 h1).1
  have H1:=aA h1;rw[h1]at HF;clear h1;have HW:=aA (fun W h=>Qf _ fs (Gg fs a) W (HV.out.on h) ZA);have IS:Hid (Lh fs a b=wo fs (Gg fs a)++[⟨a,b⟩]):=rfl;have cz:(wo fs (Gg fs a)).length≤30:=aG (AmL _ _) jU;generalize wo fs (Gg fs a)=wf at *;generalize Gg fs a=r at *;have nJ:Hid ((Lh fs a b).length≤31):=by show _≤_;rw[IS.out,aS,cE];omega
  generalize Lh fs a b=ad at *;have rl:Hid (∀v W,rd W W.heap.size v ad→Calls aB 204 #[v] W fun e w'=>e=.returned (.bool (Be ad))∧Below W.heap.size W w'):=fun v W h=>Dj v ad W h
  have pD:Hid (∀v W,rd W W.heap.size v ad→Calls aB 205 #[v,.string a] W fun e w'=>e=.returned (.tuple #[.string (Bc ad a).1,.int .i64 ((Bc ad a).2.1:Nat),.bool (Bc ad a).2.2])∧Below W.heap.size W w'):=fun v W h=>Hj v ad a W h ha (by have:=nJ.out;omega)
  clear jU;go_enter Tryz.func155,Tryz.ntmps155
  refine' ZBv;have B1:=aA b1;clear b1
  go_wp2_with (first|(go_at_call 228;(with_reducible refine(HI.out _ B1.out).mono ?_);refine' zK;have l2:=aA (Aa B1.out b2);clear b2)|(go_at_call 229;(with_reducible refine(HW.out _ l2.out).mono ?_);refine' ZAW;have l3:=aA (Aa l2.out b3);have O3:=aA (o3.base_ l2.out.size);obtain⟨A3,n3,c3',rfl,pz, -, -, -⟩:=o3.rd;subst pz;have oN:=l3.out.size;clear o3 b3)|(at_builtin;refine An (α:=Fwd) rfl (.tmp 19) (.tmp 23) 31 rfl w.heap.size 128 i1 _ 32 dX ji dp dq dr rfl ZF (.slice A3 wf.length c3') wf ⟨a,b⟩ rfl (O3.out.alloc _) ⟨w3.heap.size,0,none⟩ 1 [.string a,.string b] rfl ⟨⟨ha,hb⟩,rfl⟩ (Bz w3 _ [.string a,.string b]) ZN ZA ZH ?_;refine' zI;have l5:Below w.heap.size w w5:=(Ae l3.out (aC #[aK a,aK b] 128)).grown ap ZH fun q hq=>(O3.out.blk q hq).1;have L5:=aA l5;have O5:Hid (own 128 w.heap.size w5 (.slice (some ⟨g,0,none⟩) (wf.length+1) cap) ad):=by{show own _ _ _ _ _;rw[IS.out];exact bz};clear l5 bz ap cn jJ))
  refine(rl.out _ _ O5.out.rd).mono ?_;rintro e w6 ⟨rfl,b6⟩;have l6:=aA (Aa L5.out b6);have O6:=aA (O5.out.below b6);clear b6;cases h2:Be ad
  ·have HO:Hid (Ig fs a b=false):=by show _=_;rw[HQ.out.1,h2];simp
   clear h2
   refine' ZQ;exact⟨_,Bf ZCn,ZI5,l6.out⟩
  ·refine' zA;refine' ZC;refine(pD.out _ _ O6.out.rd).mono ?_;rintro e w7 ⟨rfl,b7⟩;have l7:=aA (Aa l6.out b7);have O7:=aA (O6.out.below b7);clear b7;cases h3:(Bc ad a).2.2
   ·have HO:Hid (Ig fs a b=false):=by show _=_;rw[HQ.out.1,h3];simp
    clear h3
    refine' ZQ;exact⟨_,Bf ZCn,ZI5,l7.out⟩
   ·have HO:Hid (Ig fs a b=true):=by show _=_;rw[HQ.out.1,H1.out,H2.out,h3];rfl
    clear h3
    refine' ZQ;exact⟨_,Bf ZCn,by rw[HQ.out.2.2 HO.out];exact O7.out,l7.out⟩
theorem AsL(xs f):Bj (Fw xs f):=by
 unfold Fw
 split
 ·rename_i h
  refine' ZRn;exact zL
 ·exact zL
theorem Av9(p c):Bj (Hl p c):=by
 unfold Hl
 split
 ·rename_i h
  have:=(De.1 h).2.1.2;unfold rkI
  split<;>(exact zL)
 ·exact zL
theorem AcO(fs):∀(f:Nat) (c:ByteArray) (n:Nat),(Gb fs f c n).2.1≤n+f
 |0,c,n=>by unfold Gb;simp
 |f+1,c,n=>by
  unfold Gb
  split
  ·simp
  ·have:=AcO fs f (Vt fs c) (n+1)
   omega
theorem Uw{fs c}(h:Be fs=true):(resolve fs c).2.1≤31:=by
 have h1:=(Ch.1 h).1;unfold resolve
 split
 ·have:=AcO fs (fs.length+1) c 0
  unfold Bc;omega
 ·simp
theorem Ah7{fs}(hf:∀x∈fs,x.dst.size≤7):∀(f:Nat) (c:ByteArray) (n:Nat),c.size≤7→(Gb fs f c n).1.size≤7
 |0,c,n,_=>aM _
 |f+1,c,n,hc=>by
  unfold Gb
  split
  ·exact hc
  ·refine Ah7 hf f (Vt fs c) (n+1) ?_
   exact ZMh
theorem AkX{fs c}(h:Be fs=true)(hc:Ap c=true):(Bc fs c).1.size≤7:=by refine Ah7 (fun x hx=>?_) _ _ _ (by rw[(Cp hc).1];exact YV);refine' ZAZ;rw[(Cp ((Ch.1 h).2 k hk).2.1).1];exact YV
theorem Sz{fs c}(h:Be fs=true):(resolve fs c).1.size≤7:=by
 unfold resolve
 split
 ·rename_i hc
  rw[aN]at hc;exact AkX h hc.1
 ·exact ZZ
theorem Sq(n):(Lv n).size≤100:=by
 unfold Lv
 split<;>decide
theorem AbA{d c}(h:Be d.fwds=true):(Nh d c).1.size≤7∧(Nh d c).2.size≤100:=by
 unfold Nh
 split
 ·rename_i hc
  rw[aN]at hc;have h1:=AkX h hc.2
  split
  ·split
   ·exact⟨h1,Sq 2⟩
   ·split
    ·exact⟨h1,Sq 3⟩
    ·exact⟨h1,Sq 4⟩
  ·exact⟨by rw[(Cp hc.2).1];exact YV,Sq 1⟩
 ·exact⟨aM _,ZF⟩
theorem AtV(B d s vH f w)(hD:Bv B w d s vH)(hT:I4 w)(hz:f.size≤maxLen):
 Calls aB 58 #[.pointer (some ⟨d,0,none⟩),.string Eo,.string f] w (Bb B d s vH (G1 (Fw s.letters f)) w):=by
 refine' ZI7;have HC:=aA (Ac5 vL s.letters f w hL.rd hz);have HN:=aA (fun W h=>Jg (Fw s.letters f) W (AsL _ _) (hT.on (w':=W) h));clear hD hT hz hL;generalize Fw s.letters f=r at *;have ca:(Eo.toList==[112,97,115,115])=false:=ZD
 refine' ZRo;refine' YZ;go_wp2_with (first|(go_at_call 141;(with_reducible refine' ZBM);refine' ZFx)|(go_at_call 120;refine' ZI8))
 go_ret;exact Bb.of_read HD.out rfl B2.out
theorem Az9(B d s vH f w)(hD:Bv B w d s vH)(hT:I4 w)(hi:Bj s.day.plan.bins∧Bj s.day.plan.passes):
 Calls aB 58 #[.pointer (some ⟨d,0,none⟩),.string Fj,.string f] w (Bb B d s vH (G1 (Hl s.day.plan f)) w):=by
 refine' zC;obtain⟨_,vO,_,_,_,⟨_,c1,c2,c3,_,_,_,_⟩,_,_,hO,_⟩:=Ca hD;have HC:=aA (Xc (.agg #[.int .i64 s.day.plan.bins,.int .i64 s.day.plan.passes,vO]) s.day.plan f w ⟨_,rfl,hi.1,hi.2,hO.rd⟩);have HN:=aA (fun W h=>Jg (Hl s.day.plan f) W (Av9 _ _) (hT.on (w':=W) h));clear hD hT hi hO;generalize Hl s.day.plan f=r at *;have ca:(Fj.toList==[112,97,115,115])=false:=ZD
 have db:(Fj.toList==[99,111,117,110,116])=false:=ZD
 have cm:(Fj.toList==[114,97,110,107])=true:=ZD
 generalize Fj=wd at *;refine' YZ;go_wp2_with (first|(go_at_call 142;(with_reducible refine' ZBM);refine' ZFx)|(go_at_call 120;refine' ZI8))
 go_ret;exact Bb.of_read HD.out rfl B2.out
theorem Ay5(B d s vH f w)(hD:Bv B w d s vH)(hB:B≤w.heap.size):
 Calls aB 58 #[.pointer (some ⟨d,0,none⟩),.string C4,.string f] w (Bb B d (if Jy s.day.fwds f then{s with day:={s.day with fwds:=N6 s.day.fwds f}}else s) vH (if Jy s.day.fwds f then C5 (N6 s.day.fwds f)else⟨#[]⟩) w):=by
 refine' ZCe;have HR:=aA (Xs vF s.day.fwds f w hF.rd);have HC:Hid (∀(v:Value) (W:World),Below w.heap.size w W→own 128 B W v (N6 s.day.fwds f)→Calls aB 144 #[.pointer (some ⟨d,0,none⟩),v,.bool (Jy s.day.fwds f)] W (Bb B d (if Jy s.day.fwds f then{s with day:={s.day with fwds:=N6 s.day.fwds f}}else s) vH (if Jy s.day.fwds f then C5 (N6 s.day.fwds f)else⟨#[]⟩) W)):=fun v W hW ho=>N7 B d s vH v _ _ W (hD.below hW) ho
 clear hD hF;generalize(if Jy s.day.fwds f then({s with day:={s.day with fwds:=N6 s.day.fwds f}}:Dsk)else s)=s' at *;generalize(if Jy s.day.fwds f then C5 (N6 s.day.fwds f)else(⟨#[]⟩:ByteArray))=a at *;generalize Jy s.day.fwds f=ok at *;generalize N6 s.day.fwds f=L at *;have ca:(C4.toList==[112,97,115,115])=false:=ZD
 have db:(C4.toList==[99,111,117,110,116])=false:=ZD
 have d8:(C4.toList==[114,97,110,107])=false:=ZD
 have fd:(C4.toList==[108,111,97,100,115])=false:=ZD
 refine' ZI9;refine' YZ;go_wp2_with (first|(go_at_call 145;refine' ZRp)|refine' ZRq)
 go_ret;exact Bb.pre B1.out H2.out
theorem AnV(B d s vH f g w)(hD:Bv B w d s vH)(hB:B≤w.heap.size)(hz:f.size≤maxLen∧g.size≤maxLen):
 Calls aB 59 #[.pointer (some ⟨d,0,none⟩),.string Bt,.string f,.string g] w (Bb B d (if Ig s.day.fwds f g then{s with day:={s.day with fwds:=My s.day.fwds f g}}else s) vH (if Ig s.day.fwds f g then C5 (My s.day.fwds f g)else⟨#[]⟩) w):=by
 refine' ZCe;have HR:=aA (AdY vF s.day.fwds f g w hF.rd hz.1 hz.2);have HC:Hid (∀(v:Value) (W:World),Below w.heap.size w W→own 128 B W v (My s.day.fwds f g)→Calls aB 144 #[.pointer (some ⟨d,0,none⟩),v,.bool (Ig s.day.fwds f g)] W (Bb B d (if Ig s.day.fwds f g then{s with day:={s.day with fwds:=My s.day.fwds f g}}else s) vH (if Ig s.day.fwds f g then C5 (My s.day.fwds f g)else⟨#[]⟩) W)):=fun v W hW ho=>N7 B d s vH v _ _ W (hD.below hW) ho
 clear hD hF hz;generalize(if Ig s.day.fwds f g then({s with day:={s.day with fwds:=My s.day.fwds f g}}:Dsk)else s)=s' at *;generalize(if Ig s.day.fwds f g then C5 (My s.day.fwds f g)else(⟨#[]⟩:ByteArray))=a at *;generalize Ig s.day.fwds f g=ok at *;generalize My s.day.fwds f g=L at *;have ca:(Bt.toList==[115,119,97,112])=false:=ZD
 refine' ZJA;go_enter Tryz.func59,Tryz.ntmps59
 go_wp2_with (first|(go_at_call 155;refine' ZRp)|refine' ZRq)
 go_ret;exact Bb.pre B1.out H2.out
theorem AmX(B d s vH c w)(hD:Bv B w d s vH)(hT:I4 w)(hc:c.size≤maxLen)(hk:Be s.day.fwds=true):
 Calls aB 146 #[.pointer (some ⟨d,0,none⟩),.string c] w (Bb B d s vH (Nv s.day.fwds c) w):=by
 refine' ZCe;have HR:=aA (Sb vF s.day.fwds c w hF.rd hc);have hcnt:=Uw (c:=c) hk;have ct:=Sz (c:=c) hk;have HQ:Hid (Nv s.day.fwds c=if(resolve s.day.fwds c).2.2 then(resolve s.day.fwds c).1++⟨#[32]⟩++Cl (resolve s.day.fwds c).2.1 else⟨#[]⟩):=rfl;rw[HQ.out];clear hD hF hc hk HQ;generalize(resolve s.day.fwds c).1=e1 at *;generalize(resolve s.day.fwds c).2.1=n at *;have HN:=aA (fun W h=>Jn n W ZA (hT.on (w':=W) h));have kN:=(C9 (n:=n) ZA).1;clear hT;cases ag:(resolve s.day.fwds c).2.2
 ·rw[ag]at HR
  clear ag;go_enter Tryz.func146,Tryz.ntmps146
  exact ZJB
 ·rw[ag]at HR
  clear ag;generalize Cl n=t at *;go_enter Tryz.func146,Tryz.ntmps146
  refine' ZC;refine HR.out.mono ?_;refine' ZFx;go_wp2_with (go_at_call 195;refine' ZI8)
  go_ret;exact Bb.of_read HD.out rfl B2.out
theorem AvL(B d s vH c w)(hD:Bv B w d s vH)(hc:c.size≤maxLen)(hi:Bj s.day.plan.bins∧Bj s.day.plan.passes∧Bj s.day.size)(hk:Be s.day.fwds=true):
 Calls aB 149 #[.pointer (some ⟨d,0,none⟩),.string c] w (Bb B d s vH (Ad4 s.day c) w):=by
 refine' zC;obtain⟨_,vO,vF,_,_,⟨_,c1,c2,c3,c4,c5,c6,_⟩,_,_,hO,hF,hH,_⟩:=Ca hD;have HR:=aA (Ao8 (.agg #[.int .i64 s.day.plan.bins,.int .i64 s.day.plan.passes,vO,vF,vH,.int .i64 s.day.size]) s.day c w ⟨_,_,_,rfl,hi.1,hi.2.1,hi.2.2,hO.rd,hF.rd,hH.rd⟩ hc);have ct:=AbA (d:=s.day) (c:=c) hk;have HQ:Hid (Ad4 s.day c=if(Nh s.day c).2.size=0 then⟨#[]⟩else(Nh s.day c).1++⟨#[32]⟩++(Nh s.day c).2):=rfl;rw[HQ.out];clear hD hO hF hH hc hk HQ hi;generalize(Nh s.day c).1=e1 at *;generalize(Nh s.day c).2=e2 at *;obtain⟨gh,iu⟩:=ct;by_cases h0:e2.size=0
 ·rw[aP h0]
  have t2:=(L6 h0).2;clear h0;go_enter Tryz.func149,Tryz.ntmps149
  exact ZJB
 ·rw[aL h0]
  have t2:=(G7 h0).2;clear h0;go_enter Tryz.func149,Tryz.ntmps149
  exact ZJB
theorem Oy(p xs k):(Gs p xs k).length≤16∧∀n∈Gs p xs k,n≤60:=by
 unfold Gs Fz
 split
 ·rename_i h
  refine' ZRr;refine⟨?_,fun n hn=>?_⟩
  ·rw[bF,Hz];omega
  ·obtain⟨b,hb,rfl⟩:=List.mem_map.1 hn
   unfold Bm at hb;obtain⟨i,_,rfl⟩:=List.mem_map.1 hb;exact aG (bJ _ _) h2
 ·exact⟨ZF,fun n hn=>absurd hn ZE⟩
theorem AiC(v vb p xs k w)(hv:rdP w w.heap.size v p)(hb:rd w w.heap.size vb xs):
 Calls aB 227 #[v,vb,.int .i64 k] w fun e w'=>∃v',e=.returned v'∧own 3 w.heap.size w' v' ((Gs p xs k).map fun n:Nat=>(n:Int))∧Below w.heap.size w w':=by
 refine' zQ;refine' ZAa;obtain⟨A0,c0,rfl⟩:=Gx hv;obtain⟨AL,nL,cL,rfl, -, -, -, -⟩:=hb;refine' ZRs;refine' ZJC;have jS:Below w.heap.size w w0:=(Aw ac).1;have HP:=aA (Aj6 _ _ p xs k w0 (HV.out.on jS) (HB.out.on jS));refine' zX;have j6:=aA jS;clear hv ac jS;refine' ZDs;generalize Gs p xs k=L at *;generalize Fz p xs k=bins at *;cases ag:Qm p xs k
 ·have HL:Hid (L=[]):=by show _=_;rw[HE.out,tO.out ag];rfl
  rw[ag]at HP;clear ag pw;refine' ZRt;have l1:=aA (Aa j6.out b1);obtain⟨A1,n1,c1,rfl, -, -, -, -⟩:=qO.1.rd;refine' ZFy;clear b1 qO tP
  refine' ZI;exact⟨_,rfl,by rw[HL.out];exact ze,l1.out⟩
 ·rw[ag]at HP
  clear ag;have lC:bins.length≤16:=ZRu
  clear pw;have ez:=Ed (P:=aB) 61 3 i0 _ iI hi ah bins.length zf ZA;refine' ZRt;have l1:=Aa j6.out b1;refine' ZFy;have TI:rd w1 w1.heap.size vB bins:=Fu.rd ⟨vs,qO⟩;obtain⟨A1,n1,c1,rfl,ef,sY,sh,na⟩:=TI;subst ef;have HR:=aA na;clear b1 qO tP na
  refine' ZC;refine' ZRv;have kF:Ck 3 (w1.alloc (aC (madeCells #[.int .i64 0] bins.length) 3)) w1.heap.size bins.length 0 (L.map fun n:Nat=>(n:Int)):=Ck.made w1 _ _ _ ZAK _;have bg:Below w1.heap.size w1 (w1.alloc (aC (madeCells #[.int .i64 0] bins.length) 3)):=(aF _ _).alloc (aD _) _;generalize w1.alloc (aC (madeCells #[.int .i64 0] bins.length) 3)=wz at *;clear ez
  go_loopw[28] (fun i wr=>∃k:Nat,k≤bins.length∧i=.int .i64 k∧Below w1.heap.size w1 wr∧Ck 3 wr w1.heap.size bins.length k (L.map fun n:Nat=>(n:Int))) (fun i _=>bins.length - (intOf i).toNat)
  case atStart=>exact ZBE
  case round=>
   refine' ZBm;by_cases ab:k<bins.length
   ·obtain⟨b,o,u,rfl,hb,hu,y1⟩:=HR.out.rowU k ab
    replace y1:=y1 w2 au;have lN:(L.map fun n:Nat=>(n:Int))[k]' zY=((bins[k].length:Nat):Int):=by simp[HE.out]
    have xv:bins[k].length≤60:=sN.out.2 _ ZRw;have fe:=aA (hf.step zY ZAs (ecs:=[.int .i64 ((bins[k].length:Nat):Int)]) (by rw[lN];exact⟨zL,rfl⟩));obtain⟨oc,ow⟩:=hf.cell (j:=k) (by show k<_*1;omega);have uX:=hf.free k;clear lN;generalize bins[k]=ys at *;obtain⟨A3,m3,c3,rfl,tQ,_,_,_⟩:=hu;subst tQ;have bc:(k:Int)<(bins.length:Int):=ZA
    refine' zO;clear hf
    refine' ZC;go_roundw
    case rel=>exact⟨k+1,ZA,ZJ,Ai au (p:=⟨w1.heap.size,k,none⟩) (aD _) _,by have h:=fe.out;rw[show k*El.size Int=k from dZ k]at h;exact h⟩
    case measure=>exact ZK
   ·have HK:=aA (show k=bins.length by omega)
    refine' ZI;rw[HK.out]at hf;exact⟨_,rfl,hf.own cg.out.symm gh ZN,Aa l1 au⟩
theorem ArC(B d s vH k w)(hD:Bv B w d s vH)(hT:I4 w)(hi:Bj s.day.plan.bins∧Bj s.day.plan.passes):
 Calls aB 143 #[.pointer (some ⟨d,0,none⟩),.int .i64 k] w (Bb B d s vH (Vs s.day.plan s.letters k) w):=by
 refine' ZIA;have HM:Hid (∀W,Below w.heap.size w W→Calls aB 227 #[.agg #[.int .i64 s.day.plan.bins,.int .i64 s.day.plan.passes,.slice AO nO cO],.slice AL nL cL,.int .i64 k] W fun e w'=>∃v',e=.returned v'∧own 3 W.heap.size w' v' ((Gs s.day.plan s.letters k).map fun n:Nat=>(n:Int))∧Below W.heap.size W w'):=fun W hW=>AiC _ _ s.day.plan s.letters k W (pM.on hW) (hL.rd.on hW)
 have sN:=aA (Oy s.day.plan s.letters k);have HQ:Hid (Vs s.day.plan s.letters k=if(Gs s.day.plan s.letters k).length=0 then⟨#[]⟩else Cb ((Gs s.day.plan s.letters k).map Cl)):=rfl;rw[HQ.out];clear HQ;generalize Gs s.day.plan s.letters k=L at *;refine' ZDo;refine' ZBN;have HT:=aA hT;clear hD hT hi pM hL hO c0 c1 c2 c3;have pw:=sN.out.1;refine' zh;have ez:=Ed (P:=aB) 28 9 i0 _ aW hi ah L.length zf ZA;by_cases h0:L.length=0
 ·rw[aP h0]
  go_enter Tryz.func143,Tryz.ntmps143
  refine' ZC;go_region_held3 (fun W=>Below w.heap.size w W) (first|exact ld|exact k1|fail) (first|(go_at_call 227;first|(refine' ZIB;refine' ZAv;have k1:=Aa ZCc z1;obtain⟨A1,n1,m1,rfl,ef, -, -, -⟩:=o1.rd;have pL:=aA ef;clear o1 ef)|fail)|fail)
  all_goals
   have jw:n1=0:=by have:=pL.out;rw[bF]at this;omega
   subst jw;have K1:=aA k1;clear k1 z1 ld
   refine' ZI;exact Bb.of_read HD.out rfl K1.out
 ·rw[aL h0]
  go_enter Tryz.func143,Tryz.ntmps143
  refine' ZC;go_region_held3 (fun W=>Below w.heap.size w W) (first|exact ld|exact k1|fail) (first|(go_at_call 227;first|(refine' ZIB;refine' ZAv;have k1:=Aa ZCc z1;have na:=o1.rd;clear o1)|fail)|fail)
  all_goals
   obtain⟨A1,n1,m1,rfl,ef,sY,sh,na⟩:=na;rw[bF]at ef;subst ef;have HR:=aA na;have l1:=k1;have bj:¬(L.length:Int)=0:=ZA
   have hneb:((L.length:Int)==0)=false:=beq_eq_false_iff_ne.2 bj;clear k1 z1 ld na q0 q1 q2 q3
   refine' ZC;have cg:Hid ((L.map Cl).length=L.length):=ZBD
   have kF:Ck 9 (u1.alloc (aC (madeCells #[.string ⟨#[]⟩] L.length) 9)) u1.heap.size L.length 0 (L.map Cl):=Ck.made u1 _ _ _ ZAK _;have bg:Below u1.heap.size u1 (u1.alloc (aC (madeCells #[.string ⟨#[]⟩] L.length) 9)):=(aF _ _).alloc (aD _) _;generalize u1.alloc (aC (madeCells #[.string ⟨#[]⟩] L.length) 9)=wz at *;clear ez
   go_loopw[28] (fun i wr=>∃k:Nat,k≤L.length∧i=.int .i64 k∧Below u1.heap.size u1 wr∧Ck 9 wr u1.heap.size L.length k (L.map Cl)) (fun i _=>L.length - (intOf i).toNat)
   case atStart=>exact ZBE
   case round=>
    refine' ZBm;by_cases ab:k<L.length
    ·obtain⟨b,o,rfl,hb,jt,y1⟩:=HR.out.intU k (by refine' za;exact ab)
     replace y1:=y1 w2 au;rw[eZ]at y1;have xv:L[k]≤60:=sN.out.2 _ (aU ab);have lN:(L.map Cl)[k]' zY=Cl L[k]:=ZE
     have kN:=(C9 (n:=L[k]) ZA).1;have fe:=aA (fun(W:World) (hF:Ck 9 W u1.heap.size L.length k (L.map Cl))=>hF.step zY ZAs (ecs:=[.string (Cl L[k])]) (by rw[lN];exact⟨ZN,rfl⟩));have HN:=aA (Jn L[k] w2 ZA (HT.out.on (Aa l1 au)));clear lN jt;generalize Cl L[k]=dt at *;generalize L[k]=nk at *;have bc:(k:Int)<(L.length:Int):=ZA
     refine' zO;have HF:=aA hf;clear hf
     refine' ZC;refine HN.out.mono ?_;refine' zH;have jn:=HF.out.below b3;have l3:=Aa au b3;obtain⟨oc,ow⟩:=jn.cell (j:=k) (by show k<_*1;omega);have uX:=jn.free k;have TJ:=aA (fe.out _ jn);clear b3 jn
     refine' ZC;go_roundw
     case rel=>exact⟨k+1,ZA,ZJ,Ai l3 (p:=⟨u1.heap.size,k,none⟩) (aD _) _,by have h:=TJ.out;rw[show k*El.size ByteArray=k from dZ k]at h;exact h⟩
     case measure=>exact ZK
    ·have HK:=aA (show k=L.length by omega)
     rw[HK.out]at hf;have HO:=aA (hf.own (base:=u1.heap.size) cg.out.symm (aD _) ZN);have kQ:=aA (Hw _ _ w2 HO.out.rd ZCQ fun x hx=>by obtain⟨n,hn,rfl⟩:=List.mem_map.1 hx;have:=(C9 (n:=n) (by have:=sN.out.2 n hn;omega)).1;omega)
     clear hf
     refine' ZC;refine kQ.out.mono ?_;refine' zH;have L3:=aA (Aa (Aa l1 au) b3)
     refine' ZI;exact Bb.of_read HD.out rfl L3.out
theorem AmO(B d s vH st c w)(hD:Bv B w d s vH)(hc:c.size≤maxLen)(hn:Na s.net st c=false):
 Calls aB 156 #[.pointer (some ⟨d,0,none⟩),.string st,.string c] w (Bb B d s vH ⟨#[]⟩ w):=by
 refine' ZD2;have HR:Hid (Calls aB 242 #[vN,.string st,.string c] w fun e w'=>∃v',e=.returned (.tuple #[v',.int .i64 3])∧own (α:=ByteArray) 9 w.heap.size w' v' []∧Below w.heap.size w w'):=by have h:=Vj vN s.net st c w hN.rd hc;rw[Zp hn]at h;exact h
 clear hD hN hn;refine' ZRx;refine' ZAe;refine' ZBx;clear o1 b1;have HL:=aA (Hw _ [] w1 lu.out.rd ZF (fun p hp=>absurd hp ZE));refine' ZC;refine HL.out.mono ?_;refine' zK;have l2:=aA (Aa ik.out b2);clear b2;generalize Cb []=L at *
 refine' ZI;exact Bb.of_read HD.out rfl l2.out
theorem AqN(B d s vH st c w)(hD:Bv B w d s vH)(hc:c.size≤maxLen):
 Calls aB 156 #[.pointer (some ⟨d,0,none⟩),.string st,.string c] w (Bb B d s vH (Xe s.net st c) w):=by
 unfold Xe;cases h:Na s.net st c
 ·exact AmO B d s vH st c w hD hc h
 ·obtain⟨f1,f2,f3⟩:=Ye h
  have pR:=Lm (n:=9) f2 fun p hp=>(f3 p hp).2
  have:=AuG B d s vH st c w hD hc f1 (show(Wb s.net st c).length≤1000 by omega) (fun p hp=>aG (f3 p hp).2 ZA) (aG pR ZA);unfold BbM at this;rw[show Cb ((Cs s.net st c).1.map (Bw s.net))++(⟨#[32]⟩++Ar9 (Cs s.net st c).2)=Cb ((Cs s.net st c).1.map (Bw s.net))++⟨#[32]⟩++Ar9 (Cs s.net st c).2 by apply Cv;simp only[B6,bY]]at this
  exact this
theorem AeY(B d s vH st w)(hD:Bv B w d s vH)(uV:Gq s.net st<0):
 Calls aB 150 #[.pointer (some ⟨d,0,none⟩),.string st] w (Bb B d s vH ⟨#[]⟩ w):=by refine' ZD2;have HO:=aA (Hx vN s.net st w hN.rd);generalize Gq s.net st=r at *;clear hD hN;refine' ZRy;refine' ZI;exact Bb.of_read HD.out rfl b1
theorem AmQ(B d s vH st w)(hD:Bv B w d s vH):
 Calls aB 150 #[.pointer (some ⟨d,0,none⟩),.string st] w (Bb B d s vH (Wh s.net st) w):=by
 unfold Wh;by_cases h:Gq s.net st<0
 ·rw[aP h];exact AeY B d s vH st w hD h
 ·rw[aL h]
  exact AnH B d s vH st w hD ZA fun p hp=>aG ((Ub s.net st).2.1 p hp) ZF
theorem X2{l x}(h:Ea (l++[x])=true):Ea l=true∧48≤x.toNat∧x.toNat≤57:=by have h1:=F3 h l.length;rw[List.take_left]at h1;exact⟨h1,Iw h x ZE⟩
theorem AqA:∀(k:Nat) (l m:List UInt8),Ea l=true→Ea m=true→l.length=k→m.length=k→Fe l=Fe m→l=m
 |0,l,m,_,_,hl,hm,_=>by rw[bQ hl,bQ hm]
 |k+1,l,m,h1,h2,hl,hm,h=>by
  rcases List.eq_nil_or_concat l with rfl|⟨l',x,rfl⟩
  ·simp at hl
  rcases List.eq_nil_or_concat m with rfl|⟨m',y,rfl⟩
  ·simp at hm
  rw[List.concat_eq_append]at *;rw[List.concat_eq_append]at *;obtain⟨d1,x1,x2⟩:=X2 h1;obtain⟨d2,y1,y2⟩:=X2 h2;rw[Il,Il]at h;have BX:l'.length=k:=by simpa using hl
  have ly:m'.length=k:=by simpa using hm
  have e:=AqA k l' m' d1 d2 BX ly ZA;have vz:x=y:=UInt8.toNat_inj.1 ZA;rw[e,vz]
theorem Xr{l k}(h:Ea l=true)(hl:l.length=k):Gm (Fe l) k=l:=by have h1:=AkS k (Fe l) (Jc k l h hl);exact AqA k _ _ (Pl k _) h (Ab6 k _) hl h1
theorem Xm{c}(h:Ap c=true):Hf (G0 c)=c∧Jk (G0 c)=true:=by
 obtain⟨h7,_⟩:=Cp h;have ig:Ea c.data.toList=true:=by unfold Ap at h;refine' ZAl;exact h.2
 have wH:c.data.toList.length=7:=by simpa using h7
 have d0:Ea (c.extract 0 3).data.toList=true:=by rw[Hb];exact Rm (F3 ig 3) 0
 have d1:Ea (c.extract 3 5).data.toList=true:=by rw[Hb];exact Rm (F3 ig 5) 3
 have d2:Ea (c.extract 5 c.size).data.toList=true:=by rw[Hb];exact Rm (F3 ig _) 5
 have l0:(c.extract 0 3).data.toList.length=3:=by rw[Hb];simp[wH]
 have l1:(c.extract 3 5).data.toList.length=2:=by rw[Hb];simp[wH]
 have l2:(c.extract 5 c.size).data.toList.length=2:=by rw[Hb,h7];simp[wH]
 constructor
 ·apply Cv
  rw[Yr];show Gm (Fe _:Int).toNat 3++Gm (Fe _:Int).toNat 2++Gm (Fe _:Int).toNat 2=_;rw[bE,bE,bE,Xr d0 l0,Xr d1 l1,Xr d2 l2,Hb,Hb,Hb,h7];have e:c.data.toList.take 7=c.data.toList:=bA ZA;rw[e];generalize c.data.toList=l at *
  match l,wH with
  |[a,b,c,d,e,f,g],_=>rfl
 ·rw[Rs]
  have n0:=Jc 3 _ d0 l0;have n1:=Jc 2 _ d1 l1;have n2:=Jc 2 _ d2 l2;unfold G0;simp only;omega
theorem Ae1(c w)(hz:c.size≤maxLen)(hc:Ap c=false):
 Calls aB 292 #[.string c] w fun e w'=>e=.returned (.tuple #[.agg #[.int .i64 0,.int .i64 0,.int .i64 0],.bool false])∧Below w.heap.size w w':=by
 have iz:Hid (∀W:World,Calls aB 231 #[.string c] W fun e w'=>e=.returned (.bool false)∧W=w'):=fun W=>by have:=Cw c W hz;exact ZBI
 refine' ZFs;clear hc;go_enter Tryz.func292,Tryz.ntmps292
 refine' ZC;refine' zz;exact ZRX
theorem X7(t w)(hn:Fk t=false):
 Calls aB 236 #[.string t] w fun e w'=>e=.returned (.tuple #[.agg #[.int .i64 0,.int .i64 0,.int .i64 0],.bool false])∧Below w.heap.size w w':=by
 refine' ZHc;refine' ZCT;by_cases hz:t.size=9
 ·have g9:(t.size:Int)=9:=ZA
  refine' ZI3;by_cases e3:(t[3]' ZA).toNat=45
  ·have g3:(((t[3]' ZA).toNat:Nat):Int)=45:=ZA
   by_cases e6:(t[6]' ZA).toNat=45
   ·have g6:(((t[6]' ZA).toNat:Nat):Int)=45:=ZA
    have f8:Ap (t.extract 0 3++t.extract 4 6++t.extract 7 9)=false:=by
     cases hq:Ap (t.extract 0 3++t.extract 4 6++t.extract 7 9)with
     |false=>rfl
     |true=>
      exfalso;have h3:t.data.toList[3]? =some 45:=by
       rw[aR ZA]
       congr 1
       exact UInt8.toNat_inj.1 e3
      have h6:t.data.toList[6]? =some 45:=by
       rw[aR ZA]
       congr 1
       exact UInt8.toNat_inj.1 e6
      have:Fk t=true:=by unfold Fk c3;rw[hz,h3,h6,hq];rfl
      rw[hn]at this;cases this
    have HP:=aA (fun W=>Ae1 (t.extract 0 3++t.extract 4 6++t.extract 7 9) W (by simp only[bG,eE];exact ZN) f8);clear f8 hn hl e3 e6;exact ZNp
   ·have g6:¬(((t[6]' ZA).toNat:Nat):Int)=45:=ZA
    clear hn hl e3 e6;exact ZI4
  ·have g3:¬(((t[3]' ZA).toNat:Nat):Int)=45:=ZA
   clear hn hl e3;exact ZI4
 ·have g9:¬(t.size:Int)=9:=ZA
  clear hn hz;exact ZI4
theorem Xy{t:ByteArray}(h:Fk t=true):∃hz:t.size=9,(t[3]' ZA).toNat=45∧(t[6]' ZA).toNat=45∧Ap (c3 t)=true:=by
 unfold Fk at h;rw[aN,aN,aN,dE,dE,dE]at h;obtain⟨hz,h3,h6,hc⟩:=h;refine' ZI3;rw[aR ZA]at h3 h6;refine⟨hz,?_,?_,hc⟩
 ·injection h3 with h3
  show(t.data.toList[3]).toNat=45;rw[h3];rfl
 ·injection h6 with h6
  show(t.data.toList[6]).toNat=45;rw[h6];rfl
theorem AbV(t w):
 Calls aB 151 #[.string t] w fun e w'=>e=.returned (.string (Ad3 t))∧Below w.heap.size w w':=by
 unfold Ad3;cases hp:Fk t
 ·have HP:=aA (fun W=>X7 t W hp)
  clear hp;go_enter Tryz.func151,Tryz.ntmps151
  go_wp2_with (go_at_call 236;refine' ZHd)
  go_ret;exact⟨rfl,Ae b1 _⟩
 ·obtain⟨hz,h3,h6,hc⟩:=Xy hp
  obtain⟨q1,q2⟩:=Xm hc;have h:=Wt t (G0 (c3 t)) w (aA fun V=>W9 t (c3 t) V hz h3 h6 rfl hc) q2;rw[q1]at h;exact h
theorem Qv:Aj 32 (⟨#[]⟩:ByteArray)=[⟨#[]⟩]:=ZS
theorem AvD{n}(h:0<n):Pg n=J1 n:=by unfold Pg;rw[aL ZA]
theorem AkM(a b l):Cg (a::b::l) spT=a++spT++Cg (b::l) spT:=by apply Cv;rw[B6,B6,O8,O8,cD,cD,Po];rfl
def Hk(x:ByteArray):Option Ltr:=(E5 58 x).map fun q=>⟨Hp q.1,q.2⟩
def Vg(t:ByteArray):Bool:=Ik Hk ((Aj 32 t).take 61)&&sEq (Co (Gl Hk ((Aj 32 t).take 61))) t
theorem Ba2(x y)(h:Ll x=some y):Hk x=some y:=by
 unfold Ll at h;unfold Hk;cases hc:E5 58 x with
 |none=>rw[hc]at h;cases h
 |some q=>
  obtain⟨p,q⟩:=q;rw[hc]at h;simp only at h
  split at h
  ·exact h
  ·cases h
theorem AzL(ps):M1 ps=Ik Ll ps:=rfl
theorem BcQ{t}(ci:sEq t ⟨#[45]⟩=false):Vg t=J5 t∧(J5 t=true→Gl Hk ((Aj 32 t).take 61)=J7 (Aj 32 t)):=by
 have h1:J5 t=true→(Aj 32 t).take 61=Aj 32 t∧Gl Hk (Aj 32 t)=J7 (Aj 32 t)∧Ik Hk (Aj 32 t)=true:=fun h=>by unfold J5 Yu at h;refine' YS;exact⟨bA ZA,Ab4 Ba2 (by rw[←AzL];exact h.1.1)⟩
 refine⟨?_,fun h=>by rw[(h1 h).1,(h1 h).2.1]⟩;refine' ZAU;constructor
 ·intro h
  unfold Vg at h;refine' ZFj;cases hr:okB (Gl Hk ((Aj 32 t).take 61))
  ·have e0:Co (Gl Hk ((Aj 32 t).take 61))=⟨#[]⟩:=AeH hr
   rw[e0]at he;subst he;rw[Qv]at ha;exact absurd ha ZS
  ·have h2:=(BbW hr).1
   rw[he]at h2;unfold Mv at h2;rw[ci,Bool.false_or]at h2;exact h2
 ·intro h
  obtain⟨h2,h3,h4⟩:=h1 h;unfold Vg;rw[h2,h3,h4,fC];unfold J5 at h;refine' ZAl;exact h.2
theorem AyC:∀(n:Nat) (l:List UInt8),l.length=n→Ea l=true→(∀b,l.head?=some b→b≠48)→l≠[]→0<Fe l∧J1 (Fe l)=l:=by
 intro n
 induction n with
 |zero=>intro l hl _ _ h0;exact absurd (List.length_eq_zero_iff.1 hl) h0
 |succ n ih=>
  intro l hl hd hh h0;obtain⟨m,b,rfl⟩:∃m b,l=m++[b]:=⟨l.dropLast,l.getLast h0,(List.dropLast_concat_getLast h0).symm⟩;obtain⟨hdm,bt,dj⟩:=X2 hd;rw[aS,cE]at hl;rw[Il];have nx:UInt8.ofNat (48+(b.toNat - 48))=b:=by apply UInt8.toNat_inj.1;rw[gZ];omega
  by_cases hm:m=[]
  ·subst hm
   have hb:b≠48:=hh b rfl;have OG:b.toNat≠48:=fun e=>hb (UInt8.toNat_inj.1 e)
   have e0:Fe []=0:=rfl;rw[e0];refine⟨ZA,?_⟩;rw[I2 ZA,show(10*0+(b.toNat - 48))/10=0 by omega,Yj,show(10*0+(b.toNat - 48))%10=b.toNat - 48 by omega,nx,bV]
  ·obtain⟨i1,i2⟩:=ih m ZA hdm (fun c hc=>hh c (by
    cases m with
    |nil=>exact absurd rfl hm
    |cons x m=>exact hc)) hm
   refine⟨ZA,?_⟩;rw[I2 ZA,show(10*Fe m+(b.toNat - 48))/10=Fe m by omega,i2,show(10*Fe m+(b.toNat - 48))%10=b.toNat - 48 by omega,nx]
theorem AmA{t}(h:Kn t=false):Mj t=t:=by apply Cv;unfold Kn at h;unfold Mj Lib.trimPrefix;rw[h];rfl
theorem AjO{t}(h:Ic t=true)(h1:1≤Hp t):Cl (Hp t).toNat=t:=by
 unfold Ic at h;have hv:Hp t=if Kn t then -(Fe (Mj t).data.toList:Int)else(Fe (Mj t).data.toList:Int):=by unfold Hp N5;rw[aP h]
 cases hn:Kn t
 ·rw[hn]at hv
  rw[AmA hn]at hv h;have hv':Hp t=(Fe t.data.toList:Int):=hv;rw[hv',bE];unfold nOk at h;simp only[aN,bB,hn,Bool.or_false]at h;obtain⟨⟨h2,h3,h4⟩,h5⟩:=h;have bj:t.data.toList≠[]:=fun e=>h2 (by have:=aT List.length e;exact zT)
  have hh:∀b,t.data.toList.head?=some b→b≠48:=fun b hb e=>by
   subst e;have hz:Pu t=true:=by unfold Pu;rw[hb];rfl
   rw[hz]at h5;have h6:¬1<t.size:=by simpa using h5
   obtain⟨x,l,lG⟩:∃x l,t.data.toList=x::l:=by
    cases hq:t.data.toList with
    |nil=>exact absurd hq bj
    |cons x l=>exact⟨x,l,rfl⟩
   rw[lG]at hb;have hx:x=48:=by simpa using hb
   have hl:t.data.toList.length=t.size:=ZE
   rw[lG]at hl;have jS:l=[]:=List.length_eq_zero_iff.1 (by simp at hl;omega);have:Fe t.data.toList=0:=by rw[lG,hx,jS];rfl
   omega
  obtain⟨h6,h7⟩:=AyC _ _ rfl h4 hh bj;apply Cv;unfold Cl;rw[AvD h6,h7]
 ·rw[hn]at hv
  have hv':Hp t= -(Fe (Mj t).data.toList:Int):=hv;omega
theorem BaQ{t}(h3:3≤(Aj 32 t).length):sEq (E7 (I8 t)) t=Ge t:=by
 refine' ZAU;constructor
 ·intro h
  rw[Ec]at h;cases hp:Bq (I8 t)
  ·exfalso
   have e0:E7 (I8 t)=⟨#[]⟩:=by unfold E7;rw[hp];rfl
   rw[e0]at h;subst h;rw[Qv]at h3;exact absurd h3 ZF
  ·have:=(BaV hp).1
   rwa [h]at this
 ·intro h
  rw[Ec];unfold Ge at h;refine' YS;obtain⟨⟨h1,h2⟩,⟨h4,h5⟩,h6⟩:=h;obtain⟨⟨x1,x2,x3,x4⟩,⟨x5,x6⟩,_⟩:=De.1 h6;rw[Ov h6];have ht:=Yl t;unfold I8 at x1 x3⊢;simp only at x1 x3⊢;have e1:=AjO h4 ZA;have e2:=AjO h5 ZA;rw[e1,e2];obtain⟨a,b,c,l,d9⟩:∃a b c l,Aj 32 t=a::b::c::l:=by
   rcases hq:Aj 32 t with _|⟨a,_|⟨b,_|⟨c,l⟩⟩⟩
   ·rw[hq]at h1;simp at h1
   ·rw[hq]at h1;simp at h1
   ·rw[hq]at h1;simp at h1
   ·exact⟨a,b,c,l,rfl⟩
  rw[d9]at ht⊢;rw[←ht,AkM,AkM];show a++⟨#[32]⟩++b++⟨#[32]⟩++Cg (c::l) spT=a++spT++(b++spT++Cg (c::l) spT);apply Cv;simp only[B6,bY];rfl
def Vm(t:ByteArray):Bool:=Ko ((Aj 32 t).take 31)&&sEq (C5 (Fx ((Aj 32 t).take 31))) t
theorem BcS{t}:Vm t=Ks t∧(Ks t=true→Fx ((Aj 32 t).take 31)=Fx (Aj 32 t)):=by
 have h1:Ks t=true→(Aj 32 t).take 31=Aj 32 t:=fun h=>by unfold Ks at h;exact ZIZ
 refine⟨?_,fun h=>by rw[h1 h]⟩;refine' ZAU;constructor
 ·intro h
  unfold Vm at h;refine' ZFj;have hg:=L9 _ ha;cases hr:Be (Fx ((Aj 32 t).take 31))
  ·have e0:C5 (Fx ((Aj 32 t).take 31))=⟨#[]⟩:=by unfold C5;rw[hr];rfl
   rw[e0]at he;subst he;rw[Qv]at ha;exact absurd ha ZS
  ·have hl:=(Ch.1 hr).1
   have pI:(Aj 32 t).length≤30:=by rw[hg,bH]at hl;omega
   have ht:(Aj 32 t).take 31=Aj 32 t:=bA ZA;rw[ht]at ha hr;unfold Ks;rw[ha,hr,aJ pI];rfl
 ·intro h
  have ht:=h1 h;unfold Ks at h;refine' YS;obtain⟨⟨h2,h3⟩,h4⟩:=h;have hl:=L9 _ h2;have pO:(Aj 32 t).length≠0:=fun e=>Pj t (bQ e)
  unfold Vm;rw[ht,h2,Pe h4 ZA,An0 h2,Yl,Mq];rfl
def pOf(c:ByteArray):Plc:=if Ap c then G0 c else⟨0,0,0⟩
theorem BaP(p):c3 (Pm p)=Hf p:=by obtain⟨_,_,_,h⟩:=Au2 p;exact h
theorem AxD{t}(hz:t.size=9):sEq (Pm (pOf (c3 t))) t=Fk t∧(Fk t=true→Hf (pOf (c3 t))=c3 t):=by
 have h2:Fk t=true→Hf (pOf (c3 t))=c3 t:=fun h=>by obtain⟨_,_,_,hc⟩:=Xy h;unfold pOf;rw[aP hc];exact(Xm hc).1
 refine⟨?_,h2⟩;refine' ZAU;constructor
 ·intro h
  rw[Ec]at h;have hc:=BaP (pOf (c3 t));obtain⟨x,y,z,u,v,r,s,e1,e2⟩:=Sl (pOf (c3 t));have tR:=AsC (pOf (c3 t));rw[←hc]at tR;rw[h]at tR;rw[h]at e1;unfold Fk;rw[tR,e1];rfl
 ·intro h
  rw[Ec];obtain⟨KR,h3,h6,hc⟩:=Xy h;have e:=h2 h;obtain⟨x,y,z,u,v,r,s,e1,e2⟩:=Sl (pOf (c3 t));rw[e]at e2;rw[e1];apply Cv;obtain⟨b0,b1,b2,b3,b4,b5,b6,b7,b8',ht⟩:∃b0 b1 b2 b3 b4 b5 b6 b7 b8:UInt8,t.data.toList=[b0,b1,b2,b3,b4,b5,b6,b7,b8]:=by
   refine' ZI3;generalize t.data.toList=l at hl;rcases l with _|⟨b0,_|⟨b1,_|⟨b2,_|⟨b3,_|⟨b4,_|⟨b5,_|⟨b6,_|⟨b7,_|⟨b8,_|⟨b9,l⟩⟩⟩⟩⟩⟩⟩⟩⟩⟩<;>simp at hl
   exact⟨b0,b1,b2,b3,b4,b5,b6,b7,b8,rfl⟩
  have e3:t[3]=b3:=by
   have:t[3]=t.data.toList[3]'(by rw[ht];simp):=rfl
   rw[this];simp[ht]
  have e6:t[6]=b6:=by
   have:t[6]=t.data.toList[6]'(by rw[ht];simp):=rfl
   rw[this];simp[ht]
  have sO:b3=45:=by rw[←e3];exact UInt8.toNat_inj.1 h3
  have h6':b6=45:=by rw[←e6];exact UInt8.toNat_inj.1 h6
  have e4:(c3 t).data.toList=[b0,b1,b2,b4,b5,b7,b8']:=by unfold c3;rw[B6,B6,Hb,Hb,Hb,ht];rfl
  rw[e2]at e4;have e5:[x,y,z,u,v,r,s]=[b0,b1,b2,b4,b5,b7,b8']:=e4;injection e5 with a0 e5;injection e5 with a1 e5;injection e5 with a2 e5;injection e5 with a4 e5;injection e5 with a5 e5;injection e5 with a7 e5;injection e5 with a8 e5;rw[ht,a0,a1,a2,a4,a5,a7,a8,sO,h6']
theorem Tryz.sizeSt:(aB.info? 36).map (·.size)=some 8:=ZB
theorem Ac{w:World}{g}{T:TypeId}{a b c d e f h i}(hh:w.heap[g]? =some (.cells #[a,b,c,d,e,f,h,i] T (0,0))):
 (w.cell? ⟨g,0,none⟩=some a∧w.cell? ⟨g,1,none⟩=some b∧w.cell? ⟨g,2,none⟩=some c∧w.cell? ⟨g,3,none⟩=some d∧w.cell? ⟨g,4,none⟩=some e∧w.cell? ⟨g,5,none⟩=some f∧w.cell? ⟨g,6,none⟩=some h∧w.cell? ⟨g,7,none⟩=some i)∧∀k,w.frozen? ⟨g,k,none⟩=false:=
 ⟨⟨ZBb,ZBb,ZBb,ZBb,ZBb,ZBb,ZBb,ZBb⟩,fun k=>by simp[World.frozen?,hh]⟩
theorem Cj{w:World}{g}{T:TypeId}{u0 u1 u2 u3 u4 u5 u6 u7 a b c d e f h i}(hh:w.heap[g]? =some (.cells #[u0,u1,u2,u3,u4,u5,u6,u7] T (0,0))):
 ((((((((w.setCell ⟨g,0,none⟩ a).setCell ⟨g,1,none⟩ b).setCell ⟨g,2,none⟩ c).setCell ⟨g,3,none⟩ d).setCell ⟨g,4,none⟩ e).setCell ⟨g,5,none⟩ f).setCell ⟨g,6,none⟩ h).setCell ⟨g,7,none⟩ i).heap[g]? =some (.cells #[a,b,c,d,e,f,h,i] T (0,0)):=by have h1:=Mu (Mu (Mu (Mu (Mu (Mu (Mu (Mu hh 0 a) 1 b) 2 c) 3 d) 4 e) 5 f) 6 h) 7 i;exact ZBS
structure stS (w:World) (b2:Nat) (T:TypeId) (cs:Array Value) (W:World):Prop where
 lay:Below w.heap.size w W
 box:W.heap[b2]? =some (.cells cs T (0,0))
theorem stS.drew{w W b2}{T:TypeId}{cs}(h:stS w b2 T cs W):stS w b2 T cs W.drew:=⟨h.lay.drew,h.box⟩
theorem stS.lt{w W b2}{T:TypeId}{cs}(h:stS w b2 T cs W):b2<W.heap.size:=(Array.getElem?_eq_some_iff.1 h.box).1
theorem stS.alloc{w W b2}{T:TypeId}{cs}(h:stS w b2 T cs W)(o):stS w b2 T cs (W.alloc o):=
 ⟨h.lay.alloc h.lay.size o,(dH _ _ _ h.lt).trans h.box⟩
theorem stS.below{w W W' b2}{T:TypeId}{cs}(h:stS w b2 T cs W)(hb:Below W.heap.size W W'):stS w b2 T cs W':=
 ⟨h.lay.trans (hb.mono h.lay.size),(hb.block b2 h.lt).trans h.box⟩
def ltB(s x:ByteArray):Prop:=s.data.toList<x.data.toList
instance (s x:ByteArray):Decidable (ltB s x):=inferInstanceAs (Decidable (s.data.toList<x.data.toList))
theorem AjU{s}:∀{l:List ByteArray},(∀x∈l,¬ltB s x)→Kk l s=l++[s]
 |[],_=>rfl
 |x::l,h=>by have hx:¬s.data.toList<x.data.toList:=h x ZE;unfold Kk;rw[aL hx,AjU fun y hy=>h y (bK _ hy)];rfl
theorem ApA{s y}(hy:ltB s y):∀{l:List ByteArray},(∀x∈l,¬ltB s x)→Kk (l++[y]) s=l++[s]++[y]
 |[],_=>by show Kk [y] s=[s,y];unfold Kk;rw[aP (show s.data.toList<y.data.toList from hy)]
 |x::l,h=>by have hx:¬s.data.toList<x.data.toList:=h x ZE;rw[dB];unfold Kk;rw[aL hx,ApA hy fun z hz=>h z (bK _ hz)];rfl
theorem AkY{s y}:∀{l:List ByteArray},(∃x∈l,ltB s x)→Kk (l++[y]) s=Kk l s++[y]
 |[],h=>by obtain⟨x,hx,_⟩:=h;simp at hx
 |x::l,h=>by
  rw[dB];by_cases hx:s.data.toList<x.data.toList
  ·conv=>lhs;unfold Kk
   conv=>rhs;unfold Kk
   rw[aP hx,aP hx];rfl
  ·have h':∃z∈l,ltB s z:=by
    obtain⟨z,hz,hl⟩:=h;rcases List.mem_cons.1 hz with rfl|hz
    ·exact absurd hl hx
    ·exact⟨z,hz,hl⟩
   conv=>lhs;unfold Kk
   conv=>rhs;unfold Kk
   rw[aL hx,aL hx,AkY h'];rfl
theorem Ax3(l s):(Kk l s).length=l.length+1:=by rw[(Vy l s).length_eq];rfl
def AiZ(cs:List ByteArray)(k:Nat):List ByteArray:=(cs.take k).foldl Kk []
theorem AvW(cs):AiZ cs 0=[]:=rfl
theorem AkV{cs k}(h:k<cs.length):AiZ cs (k+1)=Kk (AiZ cs k) cs[k]:=by unfold AiZ;exact ZEZ
theorem Az0{cs k}(h:cs.length≤k):AiZ cs k=Ir cs:=by unfold AiZ;rw[bA h,Ac3]
theorem ApB{cs}:∀{k:Nat},k≤cs.length→(AiZ cs k).length=k
 |0,_=>rfl
 |k+1,h=>by rw[AkV ZA,Ax3,ApB ZA]
def Ym(fs:List Fwd)(k:Nat):List ByteArray:=(Ru fs k).foldl Kk []
theorem AtS(fs):Ym fs 0=[]:=by unfold Ym Ru;rfl
theorem AyI{fs k}(hk:k<fs.length)(h:(Bc fs fs[k].src).2.2=false):Ym fs (k+1)=Kk (Ym fs k) fs[k].src:=by unfold Ym;rw[AnZ hk h,jB];rfl
theorem Aw4{fs k}(hk:k<fs.length)(h:(Bc fs fs[k].src).2.2=true):Ym fs (k+1)=Ym fs k:=by unfold Ym;rw[AkR hk h]
theorem AvS(fs k):(Ym fs k).Perm (Ru fs k):=by unfold Ym;rw[Ac3];exact Pn _
theorem AxI(fs k):(Ym fs k).length≤fs.length:=by rw[(AvS fs k).length_eq];exact Zz fs k
theorem AyR{fs}(h:Be fs=true){k}(hk:k=fs.length):Ym fs k=N2 fs:=by subst hk;unfold Ym;rw[Ac3,AaL h]
def AdV(fs:List Fwd)(cs:List ByteArray):List Fwd:=(cs.filter fun c=>(Bc fs c).2.2).map fun c=>⟨c,(Bc fs c).1⟩
theorem AxP{fs}{cs:List ByteArray}{k}(hk:k<cs.length)(h:(Bc fs cs[k]).2.2=true):AdV fs (cs.take (k+1))=AdV fs (cs.take k)++[⟨cs[k],(Bc fs cs[k]).1⟩]:=by unfold AdV;refine' ZFS;simp[h]
theorem Au0{fs}{cs:List ByteArray}{k}(hk:k<cs.length)(h:(Bc fs cs[k]).2.2=false):AdV fs (cs.take (k+1))=AdV fs (cs.take k):=by unfold AdV;refine' ZFS;simp[h]
theorem AyM(fs)(cs:List ByteArray)(k):(AdV fs (cs.take k)).length≤cs.length:=by unfold AdV;refine' za;exact aG (bJ _ _) zF
theorem AxH{fs}(h:Be fs=true):AdV fs (Ir (fs.map Fwd.src))=Q7 fs:=by unfold AdV Q7;rw[aP h]
attribute [local go_sem] Oper.semAt_some
theorem BcN{ps:List ByteArray}{k}(hk:k≤ps.length)(jl:k≤31)(ge:k=ps.length∨30<k):ps.take 31=ps.take k:=by
 refine' ZFk
 ·rw[show k=31 by omega]
theorem AqR{ps:List ByteArray}{k}(hk:k<ps.length)(jl:k≤30)(h:Ko (ps.take (k+1))=false):Ko (ps.take 31)=false:=
 P8 (fW ZA) h
theorem Pa(t w)(ht:t.size≤1000000000000):
 Calls aB 44 #[.string t] w fun e w'=>∃v',e=.returned (.tuple #[v',.bool (Tf t)])∧own 128 w.heap.size w' v' (pfF t)∧Below w.heap.size w w':=by
 obtain⟨i0,ji,dp,dq,dr⟩:=eA Tryz.infoFo;have lA:Below w.heap.size w (w.alloc (aC #[] 128)):=(aF _ _).alloc (aD _) _;have rL:own (α:=Fwd) 128 w.heap.size (w.alloc (aC #[] 128)) (.slice (some ⟨w.heap.size,0,none⟩) 0 0) []:=own.made0 w _ (aD _);refine' ZIa;go_enter Tryz.func44,Tryz.ntmps44;by_cases ci:sEq t ⟨#[45]⟩=true
 ·refine' ZOE;exact ZIb
 ·refine' ZIc;have kj:=aA (BcS (t:=t));have HO:Hid (Tf t=Vm t):=by show _=_;rw[kj.out.1];unfold Tf;rw[ob];rfl
  have HR:Hid (pfF t=if Vm t then Fx ((Aj 32 t).take 31)else []):=by show _=_;rw[kj.out.1];unfold pfF;exact ZId
  refine' ZIe;obtain⟨wA,ug⟩:∃W,w.alloc (aC #[] 128)=W:=⟨_,rfl⟩;refine' ZIf;have dw:Hid (Vm t=(Ko (ps.take 31)&&sEq (C5 (Fx (ps.take 31))) t)):=by show _=_;unfold Vm;rw[d9]
  clear d9;subst hn
  refine' ZC;go_loopw[4,6,7] (fun v i _ wr=>∃k:Nat,k≤ps.length∧k≤31∧i=.int .i64 k∧Ko (ps.take k)=true∧own 128 w.heap.size wr v (Fx (ps.take k))∧own 9 wA.heap.size wr (.slice A ps.length c) ps∧apart v (.slice A ps.length c)∧Below w.heap.size w wr) (fun _ i _ _=>31 - (intOf i).toNat)
  case atStart=>exact ZIg
  case round=>
   obtain⟨k,hk,UZ,rfl,cw,ho,hop,m7,lw⟩:=hrel;refine' ZFl;by_cases ge:k=ps.length∨30<k
   ·have HT:=aA (BcN hk UZ ge)
    refine' ZFm;have HF:=Et _ _ w2 j8.out.rd;clear ho hm;by_cases fy:k=ps.length
    ·refine' ZFn;refine' ZCl;obtain⟨F,hF⟩:∃F,C5 (Fx (ps.take k))=F:=⟨_,rfl⟩;exact ZDz
    ·refine' ZAw;have rf:¬((k:Int)≤30):=ZA
     refine' ZCl;obtain⟨F,hF⟩:∃F,C5 (Fx (ps.take k))=F:=⟨_,rfl⟩;exact ZDz
   ·have fy:k<ps.length:=ZA
    have ui:k≤30:=ZA
    refine' ZAw;have rf:(k:Int)≤30:=ZA
    refine' ZIh;have rK:=aA (AjP fy jg.out);have ma:=aA (AqR fy ui);refine' ZIi;have kZ:=fun W=>Nq x 62 W oa
    by_cases az:Lib.indexByte x.data.toList 62<0
    ·have nz:=aA (Ri az)
     have HB:Hid (Vm t=false):=ZQX
     clear ho
     refine' ZBz;generalize Lib.indexByte x.data.toList 62=j at *
     exact ZIj
    ·refine' ZQY;go_region_law (go_loud (refine Ce (α:=Fwd) ZG (.tmp 32) (.tmp 47) 31 ZG w.heap.size 128 i0 _ 32 dX ji dp dq dr rfl ZF (.slice Av m cp) gs ⟨x.extract 0 i,x.extract (i+1) x.size⟩ ZG ((j8.out.alloc _).drew) ⟨w2.heap.size,0,none⟩ 1 (Fwd.cells ⟨x.extract 0 i,x.extract (i+1) x.size⟩) ZG ⟨HY.out,rfl⟩ (Ft w2 _ (Fwd.cells ⟨x.extract 0 i,x.extract (i+1) x.size⟩)) ZN ZA ZH ?_;refine' ZAi))
     all_goals
      have fq:Below w2.heap.size w2 (w2.alloc (aC #[aK (x.extract 0 i),aK (x.extract (i+1) x.size)] 128)).drew:=Ag (Ae (aF _ _) _);refine' ZQZ;have ul:=((uZ.out.alloc (aC #[aK (x.extract 0 i),aK (x.extract (i+1) x.size)] 128)).drew).grown ep (Br et.out);have cn:=Dg (n:=m+1) (c:=cap) et.out kR (fun j hj=>((uZ.out.alloc (aC #[aK (x.extract 0 i),aK (x.extract (i+1) x.size)] 128)).drew.blk j hj).2);refine' ZIk;go_wp2
      exact ZIl
theorem Ad2(w):Calls aB 46 #[.string He] w fun e w'=>e=.returned (.tuple #[.int .i64 ((1:Nat):Int),.bool false])∧w=w':=by refine' ZHf;exact zi
theorem AcV(w):Calls aB 46 #[.string Gn] w fun e w'=>e=.returned (.tuple #[.int .i64 ((1:Nat):Int),.bool false])∧w=w':=by
 have ca:(Gn.toList==[99,111,100,101])=false:=ZD
 refine' ZHh;exact zi
theorem AcT(w):Calls aB 46 #[.string Ga] w fun e w'=>e=.returned (.tuple #[.int .i64 ((1:Nat):Int),.bool false])∧w=w':=by refine' ZTJ;exact zi
theorem Zo(w):Calls aB 46 #[.string Eo] w fun e w'=>e=.returned (.tuple #[.int .i64 ((1:Nat):Int),.bool false])∧w=w':=by refine' ZTK;exact zi
theorem AcL(w):Calls aB 46 #[.string Fj] w fun e w'=>e=.returned (.tuple #[.int .i64 ((1:Nat):Int),.bool false])∧w=w':=by refine' ZTL;exact zi
theorem Aa9(w):Calls aB 46 #[.string Ds] w fun e w'=>e=.returned (.tuple #[.int .i64 ((1:Nat):Int),.bool false])∧w=w':=by refine' ZTM;exact zi
theorem Uv(w):Calls aB 46 #[.string Cc] w fun e w'=>e=.returned (.tuple #[.int .i64 ((1:Nat):Int),.bool false])∧w=w':=by refine' ZTO;exact zi
theorem AdF(w):Calls aB 46 #[.string Dl] w fun e w'=>e=.returned (.tuple #[.int .i64 ((1:Nat):Int),.bool false])∧w=w':=by refine' ZTQ;exact zi
theorem Qo(w):Calls aB 46 #[.string B5] w fun e w'=>e=.returned (.tuple #[.int .i64 ((1:Nat):Int),.bool false])∧w=w':=by refine' ZUN;refine' ZUO;exact zi
theorem AdK(w):Calls aB 46 #[.string Fl] w fun e w'=>e=.returned (.tuple #[.int .i64 ((2:Nat):Int),.bool false])∧w=w':=by
 refine' ZTW;have lP:(Fl.toList==[102,97,117,108,116,115])=false:=ZD
 refine' ZJv;exact zi
theorem Aa8(w):Calls aB 46 #[.string Cz] w fun e w'=>e=.returned (.tuple #[.int .i64 ((3:Nat):Int),.bool false])∧w=w':=by
 refine' ZTT;have lP:(Cz.toList==[102,97,117,108,116,115])=false:=ZD
 have nK:(Cz.toList==[112,97,116,104])=false:=ZD
 refine' ZTU;exact zi
theorem Vc(w):Calls aB 46 #[.string Dk] w fun e w'=>e=.returned (.tuple #[.int .i64 ((1:Nat):Int),.bool true])∧w=w':=by
 have ca:(Dk.toList==[99,111,100,101])=false:=ZD
 have db:(Dk.toList==[98,97,114,115])=false:=ZD
 have d8:(Dk.toList==[114,101,97,100])=false:=ZD
 have fd:(Dk.toList==[99,111,117,110,116])=false:=ZD
 have gq:(Dk.toList==[114,97,110,107])=false:=ZD
 have i8:(Dk.toList==[108,111,97,100,115])=false:=ZD
 have jQ:(Dk.toList==[114,101,115,111,108,118,101])=false:=ZD
 have kJ:(Dk.toList==[102,97,116,101])=false:=ZD
 have lP:(Dk.toList==[102,97,117,108,116,115])=false:=ZD
 have nK:(Dk.toList==[112,97,116,104])=false:=ZD
 have kK:(Dk.toList==[102,97,117,108,116])=false:=ZD
 refine' ZJJ;exact zi
theorem Qc(w):Calls aB 46 #[.string Cy] w fun e w'=>e=.returned (.tuple #[.int .i64 ((1:Nat):Int),.bool true])∧w=w':=by
 have ca:(Cy.toList==[99,111,100,101])=false:=ZD
 have db:(Cy.toList==[98,97,114,115])=false:=ZD
 have d8:(Cy.toList==[114,101,97,100])=false:=ZD
 have fd:(Cy.toList==[99,111,117,110,116])=false:=ZD
 have gq:(Cy.toList==[114,97,110,107])=false:=ZD
 have i8:(Cy.toList==[108,111,97,100,115])=false:=ZD
 have jQ:(Cy.toList==[114,101,115,111,108,118,101])=false:=ZD
 have kJ:(Cy.toList==[102,97,116,101])=false:=ZD
 have lP:(Cy.toList==[102,97,117,108,116,115])=false:=ZD
 have nK:(Cy.toList==[112,97,116,104])=false:=ZD
 have kK:(Cy.toList==[102,97,117,108,116])=false:=ZD
 have mX:(Cy.toList==[115,105,122,101])=false:=ZD
 have cm:(Cy.toList==[104,111,108,100])=true:=ZD
 generalize Cy=wd at *;exact zi
theorem Ue(w):Calls aB 46 #[.string C4] w fun e w'=>e=.returned (.tuple #[.int .i64 ((1:Nat):Int),.bool true])∧w=w':=by
 have ca:(C4.toList==[99,111,100,101])=false:=ZD
 have db:(C4.toList==[98,97,114,115])=false:=ZD
 have d8:(C4.toList==[114,101,97,100])=false:=ZD
 have fd:(C4.toList==[99,111,117,110,116])=false:=ZD
 have gq:(C4.toList==[114,97,110,107])=false:=ZD
 have i8:(C4.toList==[108,111,97,100,115])=false:=ZD
 have jQ:(C4.toList==[114,101,115,111,108,118,101])=false:=ZD
 have kJ:(C4.toList==[102,97,116,101])=false:=ZD
 have lP:(C4.toList==[102,97,117,108,116,115])=false:=ZD
 have nK:(C4.toList==[112,97,116,104])=false:=ZD
 have kK:(C4.toList==[102,97,117,108,116])=false:=ZD
 have mX:(C4.toList==[115,105,122,101])=false:=ZD
 have qX:(C4.toList==[104,111,108,100])=false:=ZD
 refine' ZI9;exact zi
theorem U7(w):Calls aB 46 #[.string C8] w fun e w'=>e=.returned (.tuple #[.int .i64 ((1:Nat):Int),.bool true])∧w=w':=by
 have ca:(C8.toList==[99,111,100,101])=false:=ZD
 have db:(C8.toList==[98,97,114,115])=false:=ZD
 have d8:(C8.toList==[114,101,97,100])=false:=ZD
 have fd:(C8.toList==[99,111,117,110,116])=false:=ZD
 have gq:(C8.toList==[114,97,110,107])=false:=ZD
 have i8:(C8.toList==[108,111,97,100,115])=false:=ZD
 have jQ:(C8.toList==[114,101,115,111,108,118,101])=false:=ZD
 have kJ:(C8.toList==[102,97,116,101])=false:=ZD
 have lP:(C8.toList==[102,97,117,108,116,115])=false:=ZD
 have nK:(C8.toList==[112,97,116,104])=false:=ZD
 have kK:(C8.toList==[102,97,117,108,116])=false:=ZD
 have mX:(C8.toList==[115,105,122,101])=false:=ZD
 have qX:(C8.toList==[104,111,108,100])=false:=ZD
 have CU:(C8.toList==[115,116,97,121])=false:=ZD
 have cm:(C8.toList==[112,97,115,115])=true:=ZD
 generalize C8=wd at *;exact zi
theorem Pf(w):Calls aB 46 #[.string Bt] w fun e w'=>e=.returned (.tuple #[.int .i64 ((2:Nat):Int),.bool true])∧w=w':=by
 have ca:(Bt.toList==[99,111,100,101])=false:=ZD
 have db:(Bt.toList==[98,97,114,115])=false:=ZD
 have d8:(Bt.toList==[114,101,97,100])=false:=ZD
 have fd:(Bt.toList==[99,111,117,110,116])=false:=ZD
 have gq:(Bt.toList==[114,97,110,107])=false:=ZD
 have i8:(Bt.toList==[108,111,97,100,115])=false:=ZD
 have jQ:(Bt.toList==[114,101,115,111,108,118,101])=false:=ZD
 have kJ:(Bt.toList==[102,97,116,101])=false:=ZD
 have lP:(Bt.toList==[102,97,117,108,116,115])=false:=ZD
 have nK:(Bt.toList==[112,97,116,104])=false:=ZD
 have kK:(Bt.toList==[102,97,117,108,116])=false:=ZD
 have mX:(Bt.toList==[115,105,122,101])=false:=ZD
 have qX:(Bt.toList==[104,111,108,100])=false:=ZD
 have CU:(Bt.toList==[115,116,97,121])=false:=ZD
 have KK:(Bt.toList==[112,97,115,115])=false:=ZD
 refine' ZJA;exact zi
theorem U8(w):Calls aB 46 #[.string C0] w fun e w'=>e=.returned (.tuple #[.int .i64 ((2:Nat):Int),.bool true])∧w=w':=by
 have ca:(C0.toList==[99,111,100,101])=false:=ZD
 have db:(C0.toList==[98,97,114,115])=false:=ZD
 have d8:(C0.toList==[114,101,97,100])=false:=ZD
 have fd:(C0.toList==[99,111,117,110,116])=false:=ZD
 have gq:(C0.toList==[114,97,110,107])=false:=ZD
 have i8:(C0.toList==[108,111,97,100,115])=false:=ZD
 have jQ:(C0.toList==[114,101,115,111,108,118,101])=false:=ZD
 have kJ:(C0.toList==[102,97,116,101])=false:=ZD
 have lP:(C0.toList==[102,97,117,108,116,115])=false:=ZD
 have nK:(C0.toList==[112,97,116,104])=false:=ZD
 have kK:(C0.toList==[102,97,117,108,116])=false:=ZD
 have mX:(C0.toList==[115,105,122,101])=false:=ZD
 have qX:(C0.toList==[104,111,108,100])=false:=ZD
 have CU:(C0.toList==[115,116,97,121])=false:=ZD
 have KK:(C0.toList==[112,97,115,115])=false:=ZD
 have UO:(C0.toList==[102,111,114,119,97,114,100])=false:=ZD
 refine' ZJE;exact zi
theorem AnR(wd w)(h:∀x∈[He,Gn,Ga,Eo,Fj,Ds,Cc,Dl,B5,Fl,Cz,Dk,Cy,C4,C8,Bt,C0],(wd.toList==x.data.toList)=false):Calls aB 46 #[.string wd] w fun e w'=>e=.returned (.tuple #[.int .i64 (-1),.bool false])∧w=w':=by have ca:(wd.toList==[99,111,100,101])=false:=h He ZE;have db:(wd.toList==[98,97,114,115])=false:=h Gn ZE;have d8:(wd.toList==[114,101,97,100])=false:=h Ga ZE;have fd:(wd.toList==[99,111,117,110,116])=false:=h Eo ZE;have gq:(wd.toList==[114,97,110,107])=false:=h Fj ZE;have i8:(wd.toList==[108,111,97,100,115])=false:=h Ds ZE;have jQ:(wd.toList==[114,101,115,111,108,118,101])=false:=h Cc ZE;have kJ:(wd.toList==[102,97,116,101])=false:=h Dl ZE;have lP:(wd.toList==[102,97,117,108,116,115])=false:=h B5 ZE;have nK:(wd.toList==[112,97,116,104])=false:=h Fl ZE;have kK:(wd.toList==[102,97,117,108,116])=false:=h Cz ZE;have mX:(wd.toList==[115,105,122,101])=false:=h Dk ZE;have qX:(wd.toList==[104,111,108,100])=false:=h Cy ZE;have CU:(wd.toList==[115,116,97,121])=false:=h C4 ZE;have KK:(wd.toList==[112,97,115,115])=false:=h C8 ZE;have UO:(wd.toList==[102,111,114,119,97,114,100])=false:=h Bt ZE;have q_16:(wd.toList==[115,119,97,112])=false:=h C0 ZE;clear h;exact zi
end Go.Proofs.YtfadhdacjpmmeaaGreatDoor

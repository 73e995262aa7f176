/- Parts. -/
import Derived.Test.YtfadhdacjpmmeaaGreatDoorQ33
set_option linter.unusedVariables false
set_option linter.unusedSimpArgs false
namespace Go.Proofs.YtfadhdacjpmmeaaGreatDoor
set_option maxRecDepth 100000
set_option maxHeartbeats 3200000
open Go.IntKind renaming i64→aI
open Go.Obj renaming cells→aC
open Go.Proofs.Tryz renaming prog→aB
open Go.Value renaming string→aK,int→bC
open Go.RowKit
theorem BbX{α:Type}(xs:List α)(k):(wo xs k).Sublist xs:=by
 unfold wo;have h:=(dF (p:=fun x:α×Nat=>decide ((x.2:Int)≠k)) (l:=xs.zipIdx)).map Prod.fst
 rwa [List.zipIdx_map_fst]at h
theorem At4{α:Type}(k):∀(xs:List α) (n:Nat),k<(n:Int)→((xs.zipIdx n).filter fun x=>decide ((x.2:Int)≠k)).map Prod.fst=xs
 |[],_,_=>rfl
 |x::xs,n,h=>by rw[List.zipIdx_cons,List.filter_cons_of_pos ZH,cD,At4 k xs (n+1) ZA]
theorem Ay0{α:Type}:∀(xs:List α) (n k:Nat) (h:k<xs.length),(xs[k]::((xs.zipIdx n).filter fun x=>decide ((x.2:Int)≠((n+k:Nat):Int))).map Prod.fst).Perm xs
 |x::xs,n,0,_=>by rw[List.zipIdx_cons,List.filter_cons_of_neg ZE,At4 _ xs (n+1) ZA];exact gN _
 |x::xs,n,k+1,h=>by rw[List.zipIdx_cons,List.filter_cons_of_pos ZH,cD];have ih:=Ay0 xs (n+1) k zG;rw[show n+(k+1)=n+1+k by omega];exact(List.Perm.swap _ _ _).trans (ih.cons x)
theorem Ba7{α:Type}{xs:List α}{k}(h:k<xs.length):(xs[k]::wo xs (k:Int)).Perm xs:=by have:=Ay0 xs 0 k h;exact ZC8
theorem AsO{os f}(t)(h:f<os.length):(Ju os f t).Perm os:=by unfold Ju;refine jF.trans ?_;rw[dW,bL,aR h];exact Ba7 h
theorem AnA{cs}:La cs=true↔(∀c∈cs,Ap c=true)∧cs.Nodup:=by
 unfold La List.Nodup;rw[dN,dG];constructor
 ·intro h
  have hk:∀k (hk:k<cs.length),Ap cs[k]=true∧∀d∈cs.take k,sEq d cs[k]=false:=fun k hk=>by have:=h k zM;rw[U9 hk,aN,dN]at this;exact⟨this.1,fun d hd=>by simpa using this.2 d hd⟩
  refine⟨fun c hc=>?_,fun i j hi hj pU=>?_⟩
  ·obtain⟨k,fu,rfl⟩:=bO hc
   exact(hk k fu).1
  ·refine F6.1 ((hk j hj).2 _ ?_)
   rw[dR];exact⟨i,ZA,rfl⟩
 ·rintro⟨h1,h2⟩ k hk
  have hk:k<cs.length:=zM
  rw[U9 hk,aN,dN];refine⟨h1 _ (aU hk),fun d hd=>?_⟩;rw[dR]at hd;obtain⟨i,hi,rfl⟩:=hd;rw[F6.2 (h2 i k ZA hk ZA)];rfl
theorem AlM{cs ds}(hp:cs.Perm ds)(h:La cs=true):La ds=true:=by obtain⟨h1,h2⟩:=AnA.1 h;exact AnA.2 ⟨fun c hc=>h1 c (hp.mem_iff.2 hc),hp.nodup_iff.1 h2⟩
theorem AdH{p f t}(h:Eg p f t=true):Bq (Ei p f t)=true:=by have h':=h;unfold Eg at h';simp only[aN,bB]at h';obtain⟨h1,⟨h2,h3⟩,h4,h5⟩:=h';obtain⟨g1,g2,g3,g4⟩:=De.1 h1;have hp:=AsO (os:=p.order) t.toNat (show f.toNat<p.order.length by omega);have hl:=hp.length_eq;unfold Ei;rw[aP h];exact De.2 ⟨g1,by show 1≤(Ju _ _ _).length∧(Ju _ _ _).length≤60;omega,by show((Ju _ _ _).length:Int)≤_;rw[hl];exact g3,AlM hp.symm g4⟩
theorem AgD{fs c}(h:Jy fs c=true):Be (N6 fs c)=true:=by unfold N6;rw[aP h];unfold Jy at h;refine' ZAl;obtain⟨h1,h2,h3⟩:=Wi.1 h.1;have hs:=BbX fs (Gg fs c);exact Wi.2 ⟨aG hs.length_le h1,fun x hx=>h2 x (hs.mem hx),h3.sublist hs⟩
theorem Ag3{fs a b}(h:Ig fs a b=true):Be (My fs a b)=true:=by unfold My;rw[aP h];unfold Ig at h;rw[aN,aN]at h;exact h.2.1
theorem Ad8{fs}(h:Be fs=true):Be (Q7 fs)=true:=An5 (ArY h) (Aj7 h).symm
theorem AvR{t}(h:Tf t=true):Be (pfF t)=true:=by
 unfold pfF
 split
 ·decide
 ·rename_i h0
  unfold Tf at h;have h2:Ks t=true:=by simpa [h0]using h
  rw[aP h2];unfold Ks at h2;rw[aN]at h2;exact h2.2
theorem AwA{t}(h:Mv t=true):okB (pbL t)=true:=by
 unfold pbL
 split
 ·decide
 ·rename_i h0
  unfold Mv at h;have h2:J5 t=true:=by simpa [h0]using h
  rw[aP h2];unfold J5 at h2;rw[aN]at h2;cases hk:okB (J7 (Aj 32 t))
  ·exfalso
   have he:=Ec.1 h2.2;have e0:Co (J7 (Aj 32 t))=⟨#[]⟩:=by unfold Co;rw[hk];rfl
   rw[e0]at he;subst he;exact absurd h2.1 ZF
  ·rfl
theorem AsY{xs n}(h:Jo xs n=true):okB (spL xs n)=true:=BcB h
theorem Bb5{p:Prop}[Decidable p]{a b:Dsk×ByteArray}(h1:p→Inv a.1)(h2:¬p→Inv b.1):Inv (if p then a else b).1:=ZSH
theorem Ob{p:Prop}[Decidable p]{a b:Dsk×ByteArray}{m}(h1:p→a.2.size≤m)(h2:¬p→b.2.size≤m):(if p then a else b).2.size≤m:=ZSH
theorem Inv.setL{s xs}(h:Inv s)(hx:okB xs=true):Inv {s with letters:=xs}:=⟨hx,h.plan,h.fwds,h.held,h.size,h.net⟩
theorem Inv.setFw{s fs}(h:Inv s)(hx:Be fs=true):Inv {s with day:={s.day with fwds:=fs}}:=⟨h.bs,h.plan,hx,h.held,h.size,h.net⟩
theorem Inv.setPl{s p}(h:Inv s)(hx:Bq p=true):Inv {s with day:={s.day with plan:=p}}:=⟨h.bs,hx,h.fwds,h.held,h.size,h.net⟩
theorem Inv.setHe{s hs}(h:Inv s)(hx:Ee hs=true):Inv {s with day:={s.day with held:=hs}}:=⟨h.bs,h.plan,h.fwds,hx,h.size,h.net⟩
theorem Inv.setSz{s n}(h:Inv s)(hx:Fp n=true):Inv {s with day:={s.day with size:=n}}:=⟨h.bs,h.plan,h.fwds,h.held,hx,h.net⟩
theorem Inv.setNe{s net}(h:Inv s)(hx:Di net=true):Inv {s with net:=net}:=⟨h.bs,h.plan,h.fwds,h.held,h.size,hx⟩
theorem Vn{hs c}(h:Ee hs=true)(hc:Ap c=true)(hl:hs.length<30):Ee (hs++[c])=true:=by unfold Ee at *;rw[aN]at *;refine⟨aJ ZDp,?_⟩;rw[dS,h.2];simp[hc]
theorem AxS{s}(h:Inv s)(wd):Inv (Rh s wd).1:=by
 unfold Rh
 repeat' (with_reducible refine Bb5 (fun h1=>?_) fun _=>?_)
 all_goals first
  |exact h
  |exact h.setL (AcW (Oe _) h.bs)
  |exact h.setL (As3 h.rp)
  |exact h.setFw (Ad8 h.fwds)
theorem AoX{s ok xs}(h:Inv s)(hx:ok=true→okB xs=true):Inv (setL s ok xs).1:=by
 unfold setL
 split
 ·rename_i h1;exact h.setL (hx h1)
 ·exact h
theorem AoI{s ok fs}(h:Inv s)(hx:ok=true→Be fs=true):Inv (setF s ok fs).1:=by
 unfold setF
 split
 ·rename_i h1;exact h.setFw (hx h1)
 ·exact h
theorem BaX{s}(h:Inv s)(wd f):Inv (Af0 s wd f).1:=by
 unfold Af0
 repeat' (with_reducible refine Bb5 (fun h1=>?_) fun _=>?_)
 all_goals first
  |exact h
  |exact AoX h AsY
  |exact AoI h AgD
  |(rw[aN,bB]at h1;exact h.setHe (Vn h.held h1.1 h1.2))
  |(exact h.setSz h1)
theorem BbG{s}(h:Inv s)(wd f g):Inv (AgX s wd f g).1:=by
 unfold AgX
 repeat' (with_reducible refine Bb5 (fun h1=>?_) fun _=>?_)
 all_goals first
  |exact h
  |exact AoI h Ag3
  |(exact h.setPl (AdH h1))
theorem AqL{t}(h:Ge t=true):Bq (Ey t)=true:=by unfold Ey;rw[aP h];unfold Ge at h;refine' ZBR;exact h.2.2
theorem AyH{t}(h:Kx t=true):Di (pnN t)=true:=by unfold pnN;rw[aP h];unfold Kx at h;refine' ZBR;exact h.2
theorem AxE{s}(h:Inv s)(wd r):Inv (U0 s wd r).1:=by
 unfold U0
 repeat' (with_reducible refine Bb5 (fun h1=>?_) fun _=>?_)
 all_goals first
  |exact h
  |exact AoX h AwA
  |(exact h.setPl (AqL h1))
  |(exact h.setFw (AvR h1))
  |(exact h.setNe (AyH h1))
  |skip
 split
 ·exact BaX h _ _
 ·exact BbG h _ _ _
 ·split<;>exact h
 ·exact h
theorem AwC{s}(h:Inv s)(ak):Inv (Qk s ak).1:=by
 unfold Qk
 split
 ·exact AxS h _
 ·exact AxE h _ _
theorem Wl(ls):∀k,Inv (Xw ls k)
 |0=>AuX
 |k+1=>by
  unfold Xw
  split
  ·exact Wl ls k
  ·exact AwC (Wl ls k) _
theorem H9{n}(h0: -1≤n)(h1:n≤9999):(G1 n).size≤4:=by
 by_cases hn:n= -1
 ·subst hn;decide
 ·obtain⟨m,rfl⟩:=aQ (show 0≤n by omega)
  rw[AnF];exact(C9 ZA).1
theorem Ac0{p xs}(h:okB xs=true): -1≤F5 p xs∧F5 p xs≤60:=by
 have h1:=Qj p xs;have h2:=Cq h;unfold F5
 split<;>omega
theorem AsW{xs}(h:okB xs=true):0≤Gy (okB xs) (sL xs)∧Gy (okB xs) (sL xs)<9973:=by rw[h];exact Bc6 xs 0 ZA ZA
theorem Am3{xs}(h:okB xs=true):0≤Gy (okB xs) (osL xs)∧Gy (okB xs) (osL xs)<9973:=by rw[h];exact AzQ xs 0 ZA ZA
theorem AkW{hs}(h:Ee hs=true):(Cb hs).size≤241:=by refine' ZIJ;exact(Sh h.1 h.2).1
theorem ArT{fs}(h:Be fs=true):(Cb (N2 fs)).size≤241:=by have h1:=(Ch.1 h).1;exact(Sh (ps:=N2 fs) (by have:=AhE (fs:=fs);omega) (Aa0 _)).1
theorem Pq:Hg.size≤2000000000:=ZF
theorem Ap5:okW.size≤2000000000:=ZF
theorem AgU{s}(h:Inv s)(wd):(Rh s wd).2.size≤2000000000:=by
 unfold Rh
 repeat' (with_reducible refine Ob (fun _=>?_) fun _=>?_)
 ·exact aG (Du _) ZA
 ·exact aG (Du _) ZA
 ·have h1:=Du (Dr s.day.plan s.letters)
  have h2:=Du (Ha s.day.plan s.letters);exact ZBT
 ·have h1:=AsW h.bs
  have h2:=Am3 h.bs;have h3:=H9 (n:=Gy (okB s.letters) (sL s.letters)) ZA ZA;have h4:=H9 (n:=Gy (okB s.letters) (osL s.letters)) ZA ZA;exact ZBT
 ·exact aG (Yg _) ZA
 ·have h1:=Ac0 (p:=s.day.plan) h.bs
  exact aG (H9 h1.1 ZA) ZA
 ·exact aG (Pc _) ZA
 ·exact aG (Pc _) ZA
 ·exact aG (ArT h.fwds) ZA
 ·exact aG (AkW h.held) ZA
 ·exact aG BaS ZA
 ·exact aG (AtO (Wn h.rd).2).1 ZA
 ·exact aG (AvJ _) ZA
 ·exact Pq
theorem Af8(s ok xs):(setL s ok xs).2.size≤1000:=by
 unfold setL
 split
 ·exact Du _
 ·exact ZZ
theorem AfC(s ok fs):(setF s ok fs).2.size≤600:=by
 unfold setF
 split
 ·exact Pc _
 ·exact ZZ
theorem An9(p xs k):(Vs p xs k).size≤100:=by
 unfold Vs
 split
 ·exact ZZ
 ·obtain⟨h1,h2⟩:=Oy p xs k
  refine aG (Lm (n:=16) (b:=4) (by refine' za;exact h1) fun q hq=>?_) ZA;obtain⟨n,hn,rfl⟩:=List.mem_map.1 hq;exact(C9 (aG (h2 n hn) ZA)).1
theorem AiU{fs c}(h:Be fs=true):(Nv fs c).size≤100:=by
 unfold Nv
 split
 ·have h1:=Sz (c:=c) h
  have h2:=(C9 (n:=(Go.Proofs.YtfadhdacjpmmeaaGreatDoor.resolve fs c).2.1) (aG (Uw h) ZA)).1;exact ZBT
 ·exact ZZ
theorem As0{d c}(h:Be d.fwds=true):(Ad4 d c).size≤200:=by
 unfold Ad4
 split
 ·exact ZZ
 ·have h1:=AbA (c:=c) h
  exact ZBT
theorem Aq2(net st):(Wh net st).size≤1000000001:=by
 unfold Wh
 split
 ·exact ZZ
 ·obtain⟨h1,_,h3⟩:=Ub net st
  exact Lm (n:=100000000) (b:=9) h1 fun p hp=>(h3 p hp).2
theorem AqM(net s c):(Xe net s c).size≤100:=by
 unfold Xe
 split
 ·rename_i h
  obtain⟨_,f2,f3⟩:=Ye h;have h1:=Lm (n:=9) (b:=8) f2 fun p hp=>(f3 p hp).2
  unfold Wb at h1;have h2:=(AvA (Cs net s c).2).2;exact ZBT
 ·exact ZZ
theorem Ar4(f):(Ad3 f).size≤10:=by
 unfold Ad3
 split
 ·rename_i h
  unfold Fk at h;refine' ZBR;rw[(Cp h.2.2.2).1];omega
 ·exact ZZ
theorem AhA(f):(Kz f).size≤50:=by
 unfold Kz
 split
 ·rename_i h
  have h7:=(Cp h).1;have ig:Ea f.data.toList=true:=by unfold Ap at h;refine' ZAl;exact h.2
  have h1:=M9 7 f.data.toList ig (by simpa using h7);have h2:=Ot _ (Rn f.data.toList);unfold Sj;refine' YY;show _+_+1≤_;omega
 ·exact ZZ
theorem AfX(f):(Hr f).size≤50:=by
 unfold Hr
 split
 ·show 7≤50;omega
 ·exact ZZ
theorem AvX{s}(h:Inv s)(wd f):(Af0 s wd f).2.size≤2000000000:=by
 unfold Af0;refine Ob (fun _=>?_) fun _=>?_
 ·exact aG (Af8 _ _ _) ZA
 refine Ob (fun _=>?_) fun _=>?_
 ·have h1:=Cq h.bs
  refine aG (H9 ?_ ?_) (ZA:4≤_)
  ·unfold Fw;split<;>omega
  ·unfold Fw
   have:=bJ (fun x:Ltr=>pre x.code f) s.letters
   split<;>omega
 refine Ob (fun _=>?_) fun _=>?_
 ·have h1:=(De.1 h.plan).2.1.2
  have h2:=Sc s.day.plan.order f;refine aG (H9 ?_ ?_) (ZA:4≤_)
  ·unfold Hl;split<;>omega
  ·unfold Hl;split<;>omega
 refine Ob (fun _=>?_) fun _=>?_
 ·exact aG (An9 _ _ _) ZA
 refine Ob (fun _=>?_) fun _=>?_
 ·exact aG (AfC _ _ _) ZA
 refine Ob (fun _=>?_) fun _=>?_
 ·exact aG (AiU h.fwds) ZA
 refine Ob (fun _=>?_) fun _=>?_
 ·refine Ob (fun h1=>?_) fun _=>?_
  ·rw[aN,bB]at h1
   exact aG (AkW (Vn h.held h1.1 h1.2)) ZA
  ·exact ZZ
 refine Ob (fun _=>?_) fun _=>?_
 ·refine Ob (fun _=>?_) fun _=>?_
  ·exact Ap5
  ·exact ZZ
 refine Ob (fun _=>?_) fun _=>?_
 ·exact aG (As0 h.fwds) ZA
 refine Ob (fun _=>?_) fun _=>?_
 ·exact aG (Aq2 _ _) ZA
 refine Ob (fun _=>?_) fun _=>?_
 ·exact aG (Ar4 _) ZA
 refine Ob (fun _=>?_) fun _=>?_
 ·exact aG (AhA _) ZA
 refine Ob (fun _=>?_) fun _=>?_
 ·exact aG (AfX _) ZA
 ·exact Pq
theorem AuO(s wd f g):(AgX s wd f g).2.size≤2000000000:=by
 unfold AgX;refine Ob (fun _=>?_) fun _=>?_
 ·refine Ob (fun _=>?_) fun _=>?_
  ·exact aG (Yg _) ZA
  ·exact ZZ
 refine Ob (fun _=>?_) fun _=>?_
 ·exact aG (AfC _ _ _) ZA
 refine Ob (fun _=>?_) fun _=>?_
 ·exact aG (AqM _ _ _) ZA
 ·exact Pq
theorem AfD{p:Prop}[Decidable p](s1 s2):(if p then(s1,okW)else(s2,⟨#[]⟩):Dsk×ByteArray).2.size≤2000000000:=by
 split
 ·exact Ap5
 ·exact ZZ
theorem Ao0(p xs a b c):(Jp p xs a b c).size≤2000000000:=by
 unfold Jp
 split
 ·exact aG (Du _) ZA
 ·exact ZZ
theorem Ar0{s}(h:Inv s)(wd r):(U0 s wd r).2.size≤2000000000:=by
 unfold U0;refine Ob (fun _=>?_) fun _=>?_
 ·exact aG (Af8 _ _ _) ZA
 refine' ZJM;refine' ZJM;refine' ZJM;split
 ·exact AvX h _ _
 ·exact AuO _ _ _ _
 ·split
  ·exact Ao0 _ _ _ _ _
  ·exact Pq
 ·exact Pq
theorem Ag4{s}(h:Inv s)(ak):(Qk s ak).2.size≤2000000000:=by
 unfold Qk
 split
 ·exact AgU h _
 ·exact Ar0 h _ _
theorem AbP(v fs c w)(hv:rd w w.heap.size v fs)(hz:c.size≤maxLen)(hk:Be fs=true):
 Calls aB 106 #[v,.string c] w fun e w'=>e=.returned (.tuple #[.string (Go.Proofs.YtfadhdacjpmmeaaGreatDoor.resolve fs c).1,.int .i64 ((Go.Proofs.YtfadhdacjpmmeaaGreatDoor.resolve fs c).2.1:Nat),.bool (Go.Proofs.YtfadhdacjpmmeaaGreatDoor.resolve fs c).2.2])∧Below w.heap.size w w':=by
 have qA:=aA (fun W (hW:rd W W.heap.size v fs)=>D2 v fs W hW);have iz:=aA (fun W=>Cm c W hz);have pD:=aA (fun W (hW:rd W W.heap.size v fs)=>It v fs c W hW hz (aG (Ch.1 hk).1 ZA));have HR:Hid (Go.Proofs.YtfadhdacjpmmeaaGreatDoor.resolve fs c=if Ap c&&Be fs then Bc fs c else(⟨#[]⟩,0,false)):=rfl;rw[hk]at qA HR;refine' zQ;obtain⟨A,n,cp,rfl, -, -, -, -⟩:=hv;rw[HR.out];clear HR hk hz;cases hc:Ap c
 ·rw[hc]at iz
  clear hc;show Calls aB _ _ _ fun e w'=>e=.returned (.tuple #[.string ⟨#[]⟩,.int .i64 0,.bool false])∧Below w.heap.size w w'
  go_enter Tryz.func106,Tryz.ntmps106
  go_wp2_with (first|(go_at_call 77;refine(qA.out _ HV.out).mono ?_;refine' ZP)|(go_at_call 94;refine' zz))
  go_ret3
  exact z6
 ·rw[hc]at iz
  clear hc;show Calls aB _ _ _ fun e w'=>e=.returned (.tuple #[.string (Bc fs c).1,.int .i64 ((Bc fs c).2.1:Nat),.bool (Bc fs c).2.2])∧Below w.heap.size w w'
  generalize(Bc fs c).1=r1 at *;generalize(Bc fs c).2.1=r2 at *;generalize(Bc fs c).2.2=r3 at *;go_enter Tryz.func106,Tryz.ntmps106
  go_wp2_with (first|(go_at_call 77;refine(qA.out _ HV.out).mono ?_;refine' ZP)|(go_at_call 94;refine' zz)|(go_at_call 78;refine(pD.out _ HV.out).mono ?_;refine' ZT))
  go_ret3
  exact⟨rfl,b1⟩
theorem Xg(v xs s w)(hv:rd w w.heap.size v xs)(hs:s.size≤maxLen)(hl:xs.length≤1000):
 Calls aB 79 #[v,.string s] w fun e w'=>∃v',e=.returned v'∧own 9 w.heap.size w' v' (Kk xs s)∧Below w.heap.size w w':=by
 refine' ZBy;refine' zh;refine' ZJU;refine' ZJV;refine' ZAx;clear ae;go_enter Tryz.func79,Tryz.ntmps79
 refine' ZBL;go_loopw[5,6,7] (fun t dn i wr=>∃(k:Nat) (d:Bool) (L:List ByteArray),k≤xs.length∧i=.int .i64 k∧dn=.bool d∧Below w.heap.size w wr∧own 9 w.heap.size wr t L∧Hid ((d=false∧L=xs.take k∧∀x∈xs.take k,¬ltB s x)∨(d=true∧L=Kk (xs.take k) s∧∃x∈xs.take k,ltB s x))∧L.length≤k+d.toNat) (fun _ _ i _=>xs.length - (intOf i).toNat)
 case atStart=>exact⟨0,false,[],aM _,rfl,rfl,lA,oA,.inl ⟨rfl,rfl,fun x hx=>by simp at hx⟩,ZE⟩
 case round=>
  obtain⟨k,d,L,hk,rfl,rfl,lr,ho,pg,DU⟩:=hrel;refine' zl;clear lA oA;refine' zZ;refine' ZD5;have iu:=lr.size;clear ho;by_cases ab:k<xs.length
  ·obtain⟨b,o,rfl,hb,se,y1⟩:=rdA.strU HR.out k ab
   have y1:=y1 w2 lr;have lY:Hid (xs.take (k+1)=xs.take k++[xs[k]]):=aH ab;refine' zp;refine' YQ;refine' zO;cases d
   ·have DU:L.length≤k:=DU
    have HI:Hid (L=xs.take k∧∀x∈xs.take k,¬ltB s x):=by
     rcases pg.out with⟨_,h1,h2⟩|⟨h,_⟩
     ·exact⟨h1,h2⟩
     ·cases h
    clear pg;by_cases jh:ltB s x
    ·have mg:Hid (L++[s]++[x]=Kk (xs.take (k+1)) s∧∃z∈xs.take (k+1),ltB s z):=⟨by rw[lY.out,ApA jh HI.out.2,HI.out.1],x,by rw[lY.out];simp,jh⟩
     have lC:Op.bytesLess s.toList x.toList=true:=by rw[bytesLess_eq,bR,bR];exact aJ jh
     clear jh
     go_wp2_with (first|(at_builtin;refine An (α:=ByteArray) rfl (.tmp 25) (.tmp 27) 28 rfl w.heap.size 9 i0 _ 16 aW hi ah aw aq rfl ZF (.slice Av L.length cp) L s rfl (HO.out.alloc _) ⟨w2.heap.size,0,none⟩ 1 [.string s] rfl ⟨hs,rfl⟩ (Bz w2 _ [.string s]) ZN ZA ZH ?_;intro g cap w7 kz dm xR wH;refine' ZSj;have hs7:=l7.size;clear kz dm xR)|(at_builtin;refine An (α:=ByteArray) rfl (.tmp 29) (.tmp 34) 28 rfl w.heap.size 9 i0 _ 16 aW hi ah aw aq rfl ZF (.slice (some ⟨g,0,none⟩) (L.length+1) cap) (L++[s]) x rfl (oq.out.alloc _) ⟨w7.heap.size,0,none⟩ 1 [.string x] rfl ⟨se,rfl⟩ (Bz w7 _ [.string x]) ZDG ZH ZH ?_;intro g2 cap2 w8 ta ii BD ME))
     have l8:Below w.heap.size w w8:=(l7.alloc l7.size (aC #[.string x] 9)).grown ii ZH fun r e=>(oq.out.blk r e).1
     rw[show(L++[s]).length=L.length+1 by simp]at ta;have gy:=aA ta;clear ta ii BD
     go_roundw
     case rel=>exact⟨k+1,true,L++[s]++[x],ZA,ZJ,rfl,l8,gy.out,.inr ⟨rfl,mg.out.1,mg.out.2⟩,ZJW⟩
     case measure=>exact ZK
    ·have mg:Hid (L++[x]=xs.take (k+1)∧∀z∈xs.take (k+1),¬ltB s z):=⟨by rw[lY.out,HI.out.1],fun z hz=>by
      rw[lY.out]at hz;rcases List.mem_append.1 hz with h|h
      ·exact HI.out.2 z h
      ·rw[List.mem_singleton.1 h];exact jh⟩
     have lC:Op.bytesLess s.toList x.toList=false:=by rw[bytesLess_eq,bR,bR];exact aO jh
     clear jh
     refine' ZSk;go_roundw
     case rel=>exact⟨k+1,false,L++[x],ZA,ZJ,rfl,l8,gy.out,.inl ⟨rfl,mg.out.1,mg.out.2⟩,ZJW⟩
     case measure=>exact ZK
   ·have DU:L.length≤k+1:=DU
    have HI:Hid (L=Kk (xs.take k) s∧∃x∈xs.take k,ltB s x):=by
     rcases pg.out with⟨h,_⟩|⟨_,h1,h2⟩
     ·cases h
     ·exact⟨h1,h2⟩
    have mg:Hid (L++[x]=Kk (xs.take (k+1)) s∧∃z∈xs.take (k+1),ltB s z):=⟨by rw[lY.out,AkY HI.out.2,HI.out.1],by obtain⟨z,hz,hl⟩:=HI.out.2;exact⟨z,by rw[lY.out];exact List.mem_append_left _ hz,hl⟩⟩
    clear pg
    refine' ZSk;go_roundw
    case rel=>exact⟨k+1,true,L++[x],ZA,ZJ,rfl,l8,gy.out,.inr ⟨rfl,mg.out.1,mg.out.2⟩,ZJW⟩
    case measure=>exact ZK
  ·have HE:Hid (xs.take k=xs):=bA ZA
   have bc:¬(k:Int)<(xs.length:Int):=ZA
   rw[HE.out]at pg;have DU:L.length≤1001:=by cases d<;>simp[Bool.toNat]at DU<;>omega
   cases d
   ·have HI:Hid (L++[s]=Kk xs s):=by
     rcases pg.out with⟨_,h1,h2⟩|⟨h,_⟩
     ·show _=_;rw[AjU h2,h1]
     ·cases h
    clear pg HE
    go_wp2_with (at_builtin;refine An (α:=ByteArray) rfl (.tmp 38) (.tmp 40) 28 rfl w.heap.size 9 i0 _ 16 aW hi ah aw aq rfl ZF (.slice Av L.length cp) L s rfl (HO.out.alloc _) ⟨w2.heap.size,0,none⟩ 1 [.string s] rfl ⟨hs,rfl⟩ (Bz w2 _ [.string s]) ZN ZA ZH ?_;intro g cap w7 kz dm xR wH)
    refine' ZSj;clear kz dm xR
    go_ret;exact⟨_,rfl,by rw[←HI.out];exact oq.out,l7⟩
   ·have HI:Hid (L=Kk xs s):=by
     rcases pg.out with⟨h,_⟩|⟨_,h1,_⟩
     ·cases h
     ·exact h1
    clear pg HE
    refine' ZI;exact⟨_,rfl,by rw[←HI.out];exact HO.out,lr⟩
theorem Vd(v)(fs:List Fwd)(nc w)(hv:rd w w.heap.size v fs)(hl:fs.length≤1000):
 Calls aB 178 #[v,.int .i64 nc] w fun e w'=>∃v',e=.returned v'∧own 128 w.heap.size w' v' (wo fs nc)∧Below w.heap.size w w':=by
 refine' ZBy;refine' ZCm;obtain⟨wA,ae⟩:∃u,u=w.alloc (aC #[] 128):=⟨_,rfl⟩;have oA:own (α:=Fwd) 128 w.heap.size wA (.slice (some ⟨w.heap.size,0,none⟩) 0 0) []:=ZJX
 have lA:Below w.heap.size w wA:=ZF9
 refine' ZAx;clear ae;go_enter Tryz.func178,Tryz.ntmps178
 refine' ZBL;go_loopw[5,6] (fun t i wr=>∃k:Nat,k≤fs.length∧i=.int .i64 k∧Below w.heap.size w wr∧own 128 w.heap.size wr t (wo (fs.take k) nc)) (fun _ i _=>fs.length - (intOf i).toNat)
 case atStart=>exact⟨0,aM _,rfl,lA,oA⟩
 case round=>
  refine' ZBj;refine' zl;clear lA oA;by_cases ab:k<fs.length
  ·obtain⟨b,o,rfl,hb,⟨pu,LE⟩,y1,y2⟩:=HR.out.fwdU k ab
   have y1:=y1 w2 lr;have y2:=y2 w2 lr;have HT:=aA (Z7 ab nc);have jb:=aG (AmL (fs.take k) nc) (zF:(fs.take k).length≤fs.length);refine' YU;generalize wo (fs.take k) nc=L at *;refine' zZ;refine' ZD5;have iu:=lr.size;clear ho;refine' ZAo;refine' zO;by_cases he:(k:Int)=nc
   ·rw[aP he]at HT
    have RW:((k:Int)==nc)=true:=beq_iff_eq.2 he
    refine' ZC;go_roundw
    case rel=>exact⟨k+1,ZA,ZJ,lr,by rw[HT.out];exact HO.out⟩
    case measure=>exact ZK
   ·rw[aL he]at HT
    have RW:((k:Int)==nc)=false:=beq_eq_false_iff_ne.2 he
    go_wp2_with (at_builtin;refine An (α:=Fwd) rfl (.tmp 17) (.tmp 22) 31 rfl w.heap.size 128 i1 _ 32 dX ji dp dq dr rfl ZF (.slice Av L.length cp) L x rfl (HO.out.alloc _) ⟨w2.heap.size,0,none⟩ 1 (Fwd.cells x) rfl ⟨⟨pu,LE⟩,rfl⟩ (Bz w2 _ (Fwd.cells x)) ZN ZA ZH ?_;intro g cap w8 ta ii BD ME)
    have l8:Below w.heap.size w w8:=(lr.alloc lr.size (aC #[.string x.src,.string x.dst] 128)).grown ii ZH fun r e=>(HO.out.blk r e).1
    have gy:=aA ta;clear ta ii BD
    go_roundw
    case rel=>exact⟨k+1,ZA,ZJ,l8,by rw[HT.out];exact gy.out⟩
    case measure=>exact ZK
  ·have HE:Hid (fs.take k=fs):=bA ZA
   refine' ZJY;rw[HE.out]at ho;refine' zZ;obtain⟨Av,m,cp,rfl, -, -, -, -⟩:=ho.rd;clear ho
   refine' ZI;exact⟨_,rfl,HO.out,lr⟩
theorem Pr(v fs c w)(hv:rd w w.heap.size v fs)(hk:Be fs=true):
 Calls aB 96 #[v,.string c] w fun e w'=>∃v',e=.returned (.tuple #[v',.bool (Jy fs c)])∧own 128 w.heap.size w' v' (N6 fs c)∧Below w.heap.size w w':=by
 have MF:=aA (Om v fs c w hv);have qA:=aA (D2 v fs w hv);rw[hk]at qA;have HQ:Hid (Jy fs c=decide (0≤Gg fs c)):=by show _=_;unfold Jy;rw[hk,fC]
 have HF:Hid (N6 fs c=if Jy fs c then wo fs (Gg fs c)else []):=rfl;have lR:=aA (Vd v fs (Gg fs c) w hv (aG (Ch.1 hk).1 ZA));obtain⟨A,n,cp,rfl, -, -, -, -⟩:=hv;rw[HF.out,HQ.out];clear HF HQ hk;generalize Gg fs c=q at *;by_cases hq:0≤q
 ·rw[aJ hq,aP rfl]
  have qL:¬q<0:=ZA
  refine' ZSl;refine lR.out.mono ?_;refine' ZAj;have HO:=aA o1;have HB:=aA b1;refine' ZBx;clear o1 b1
  refine' ZQ;exact⟨_,rfl,HO.out,HB.out⟩
 ·rw[aO hq]
  have qL:q<0:=ZA
  refine' ZSl;go_ret2;exact⟨_,rfl,own.made0 _ _ (aD _),(aF _ _).alloc (aD _) _⟩
theorem Tm(v fs a b w)(hv:rd w w.heap.size v fs)(hk:Be fs=true)(ha:a.size≤maxLen)(hb:b.size≤maxLen):
 Calls aB 95 #[v,.string a,.string b] w fun e w'=>∃v',e=.returned (.tuple #[v',.bool (Ig fs a b)])∧own 128 w.heap.size w' v' (My fs a b)∧Below w.heap.size w w':=by
 refine' zQ;have qW:=(Ch.1 hk).1;have MF:=aA (Om v fs a w hv);have qA:=aA (fun W (hW:Below w.heap.size w W)=>D2 v fs W (hv.on hW));rw[hk]at qA;have HQ:Hid (Ig fs a b=(Be (Lh fs a b)&&(Bc (Lh fs a b) a).2.2)):=by show _=_;unfold Ig;rw[hk,fC]
 have HF:Hid (My fs a b=if Ig fs a b then Lh fs a b else []):=rfl;have lR:=aA (Vd v fs (Gg fs a) w hv ZA);have IS:Hid (Lh fs a b=wo fs (Gg fs a)++[⟨a,b⟩]):=rfl;have cz:(wo fs (Gg fs a)).length≤30:=aG (AmL _ _) qW;obtain⟨A,n,cp,rfl, -, -, -, -⟩:=hv;have vt:(Lh fs a b).length≤31:=by rw[IS.out,aS,cE];omega
 rw[HF.out];refine' ZCm;clear HF hk;generalize Lh fs a b=ad at *;generalize Ig fs a b=ok at *;generalize Gg fs a=q at *;generalize wo fs q=L at *;go_enter Tryz.func95,Tryz.ntmps95
 refine' ZC;refine MF.out.mono ?_;refine' ZP;refine' ZC;refine lR.out.mono ?_;refine' ZAj;have HO:=aA o1;have HB:=aA b1;obtain⟨A1,m,c1,rfl,sh, -, -, -⟩:=o1.rd;subst sh;have gh:=b1.size;clear o1 b1
 go_wp2_with (at_builtin;refine An (α:=Fwd) rfl (.tmp 16) (.tmp 20) 31 rfl w.heap.size 128 i1 _ 32 dX ji dp dq dr rfl ZF (.slice A1 L.length c1) L ⟨a,b⟩ rfl (HO.out.alloc _) ⟨w1.heap.size,0,none⟩ 1 (Fwd.cells ⟨a,b⟩) rfl ⟨⟨ha,hb⟩,rfl⟩ (Bz w1 _ (Fwd.cells ⟨a,b⟩)) ZN ZA ZH ?_;intro g cap w2 kG sn oI qF)
 have l2:Below w.heap.size w w2:=(HB.out.alloc HB.out.size (aC #[.string a,.string b] 128)).grown sn ZH fun r e=>(HO.out.blk r e).1
 have IT:own 128 w.heap.size w2 (.slice (some ⟨g,0,none⟩) (L.length+1) cap) ad:=by rw[IS.out];exact kG
 have ja:=aA IT;have rl:=aA (D2 _ ad w2 ja.out.rd);have DV:=aA (It _ ad a w2 ja.out.rd ha ZA);have BE:=aA (qA.out w2 l2);have gi:=aA l2;clear kG sn oI IT l2 qA;cases hf:Be ad
 ·have HK:Hid (ok=false):=by show _=_;rw[HQ.out,hf];rfl
  rw[hf]at rl;have hk:=HK.out;subst hk;clear hf
  go_wp2_with (refine' ZSm)
  go_ret2;exact⟨_,rfl,own.made0 _ _ gi.out.size,gi.out.alloc gi.out.size _⟩
 ·have HK:Hid (ok=(Bc ad a).2.2):=by show _=_;rw[HQ.out,hf];rfl
  rw[hf]at rl;clear hf;generalize(Bc ad a).1=r1 at *;generalize(Bc ad a).2.1=r2 at *;cases MG:(Bc ad a).2.2
  ·refine' ZSn;go_ret2;exact⟨_,rfl,own.made0 _ _ l3.size,l3.alloc l3.size _⟩
  ·refine' ZSn;have o3:=ja.out.below b3;go_ret2;exact⟨_,rfl,o3,l3⟩
theorem AaS(v fs w)(hv:rd w w.heap.size v fs)(ag:Be fs=true):
 Calls aB 32 #[v] w fun e w'=>∃v',e=.returned v'∧own 9 w.heap.size w' v' (N2 fs)∧Below w.heap.size w w':=by
 refine' ZSo;have jg:=aA (fun k=>AyR (k:=k) ag);refine' ZJU;refine' ZJV;refine' ZAx;clear ae ag;go_enter Tryz.func32,Tryz.ntmps32
 refine' ZBL;go_loopw[3,4] (fun t i wr=>∃k:Nat,k≤fs.length∧i=.int .i64 k∧Below w.heap.size w wr∧own 9 w.heap.size wr t (Ym fs k)) (fun _ i _=>fs.length - (intOf i).toNat)
 case atStart=>exact⟨0,aM _,rfl,lA,by rw[AtS];exact oA⟩
 case round=>
  refine' ZBj;refine' zl;clear lA oA;by_cases ab:k<fs.length
  ·obtain⟨b,o,rfl,hb,_,y1,_⟩:=HR.out.fwdU k ab
   have h7:=HC.out k ab;have HY:=aA (AyI ab);have HS:=aA (Aw4 ab);have jb:=AxI fs k;have pD:=aA (fun W (hW:Below w.heap.size w W)=>It _ fs fs[k].src W (HV.out.on hW) h7 ZA);refine' YU;obtain⟨p,q⟩:=x;simp only at h7 y1 HY HS pD;refine' ZOv;generalize Ym fs k=L at *;refine' zZ;refine' ZD5;clear ho;refine' ZAo;refine' zO;cases f3
   ·have pX:=aA (fun W (hW:Below w.heap.size w W) (o:own 9 w.heap.size W (.slice Av L.length cp) L)=>Xg _ L p W o.rd h7 ZA)
    have BF:=aA (HY.out rfl);clear HS HY
    go_wp2_with (first|refine' ZJZ|refine' ZSp|(go_at_call 79;refine(pX.out _ l3 o3).mono ?_;refine' ZDJ))
    have l4:=l3.trans (b4.mono l3.size);have jq:=aA (o4.base_ l3.size);obtain⟨A4,n4,c4,rfl, -, -, -, -⟩:=o4.rd;clear o4 b4
    go_roundw
    case rel=>exact⟨k+1,ZA,ZJ,l4,by rw[BF.out];exact jq.out⟩
    case measure=>exact ZK
   ·have BF:=aA (HS.out rfl)
    clear HS HY
    go_wp2_with (first|refine' ZJZ|refine' ZSp)
    go_roundw
    case rel=>exact⟨k+1,ZA,ZJ,l3,by rw[BF.out];exact o3⟩
    case measure=>exact ZK
  ·have rT:k=fs.length:=ZA
   refine' ZJY;have HQ:=aA (jg.out k rT);rw[HQ.out]at ho;refine' zZ;obtain⟨Av,m,cp,rfl, -, -, -, -⟩:=ho.rd;clear ho rT
   refine' ZI;exact⟨_,rfl,HO.out,lr⟩
theorem W5(v fs w)(hv:rd w w.heap.size v fs)(ag:Be fs=true):
 Calls aB 33 #[v] w fun e w'=>∃v',e=.returned v'∧own 128 w.heap.size w' v' (Q7 fs)∧Below w.heap.size w w':=by
 refine' ZSo;have HCM:Hid (∀x∈Ir (fs.map Fwd.src),x.size≤maxLen):=fun x hx=>by obtain⟨y,hy,rfl⟩:=List.mem_map.1 ((Pn _).mem_iff.1 hx);obtain⟨i,hi,rfl⟩:=bO hy;exact HC.out i hi
 have jg:=aA (AxH ag);have HH:Hid (∀c:ByteArray,c.size≤maxLen→(Bc fs c).1.size≤maxLen):=fun c h=>Sg ag h
 refine' ZCm;refine' ZJU;obtain⟨wB,ai⟩:∃u,u=wA.alloc (aC #[] 128):=⟨_,rfl⟩;refine' ZJV;refine' ZGA;have oB:own (α:=Fwd) 128 w.heap.size wB (.slice (some ⟨w.heap.size+1,0,none⟩) 0 0) []:=ZSq
 have yu:own (α:=ByteArray) 9 w.heap.size wB (.slice (some ⟨w.heap.size,0,none⟩) 0 0) []:=by rw[ai];exact oA.alloc _
 refine' ZSr;have MH:Hid ((fs.map Fwd.src).length=fs.length):=ZBD
 clear ae ai oA lA ag;go_enter Tryz.func33,Tryz.ntmps33
 refine' ZBU;go_loopw[3,5] (fun t i wr=>∃k:Nat,k≤fs.length∧i=.int .i64 k∧Below w.heap.size w wr∧own 9 w.heap.size wr t (AiZ (fs.map Fwd.src) k)∧own (α:=Fwd) 128 w.heap.size wr (.slice (some ⟨w.heap.size+1,0,none⟩) 0 0) []∧Hid (apart t (.slice (some ⟨w.heap.size+1,0,none⟩) 0 0))) (fun _ i _=>fs.length - (intOf i).toNat)
 case atStart=>exact⟨0,aM _,rfl,lB,by rw[AvW];exact yu,oB,km.out⟩
 case round=>
  obtain⟨k,hk,rfl,lr,ho,IU,et⟩:=hrel;refine' zl;clear lB yu oB;by_cases ab:k<fs.length
  ·obtain⟨b,o,rfl,hb,_,y1,_⟩:=HR.out.fwdU k ab
   have h7:=HC.out k ab;have HS:=aA (AkV (cs:=fs.map Fwd.src) (k:=k) (by rw[MH.out];exact ab));rw[eZ]at HS;have jb:=ApB (cs:=fs.map Fwd.src) (k:=k) (by rw[MH.out];exact hk);refine' YU;obtain⟨p,q⟩:=x;simp only at h7 y1 HS;have hln':(AiZ (fs.map Fwd.src) k).length≤30:=ZA
   clear jb;generalize AiZ (fs.map Fwd.src) k=L at *;refine' zZ;have uY:=aA IU;refine' ZD5;have hblt:=(IU.blk _ rfl).2;clear ho IU;refine' ZAo;refine' zO;have pX:=aA (Xg _ L p w2 HO.out.rd h7 ZA)
   go_wp2_with (first|refine' ZJZ|(go_at_call 79;refine pX.out.mono ?_;refine' ZDJ))
   have l4:=lr.trans (b4.mono lr.size);have jq:=aA (o4.base_ lr.size);have RY:=aA (uY.out.below b4);have RZ:Hid (apart v4 (.slice (some ⟨w.heap.size+1,0,none⟩) 0 0)):=by
    show apart _ _;rcases IV:v4.ownBlock with _|g4
    ·exact .inl IV
    ·refine' YR;rw[IV]at e;have e:some g4=some (w.heap.size+1):=e;injection e with e;have:=(o4.blk g4 IV).1;omega
   obtain⟨A4,n4,c4,rfl, -, -, -, -⟩:=o4.rd;clear o4 b4
   go_roundw
   case rel=>exact⟨k+1,ZA,ZJ,l4,by rw[HS.out];exact jq.out,RY.out,RZ.out⟩
   case measure=>exact ZK
  ·refine' ZJY;have HQ:=aA (Az0 (cs:=fs.map Fwd.src) (k:=k) (by rw[MH.out];omega));rw[HQ.out]at ho;have wN:(Ir (fs.map Fwd.src)).length=fs.length:=by rw[(Pn _).length_eq,MH.out]
   obtain⟨cs,ax⟩:∃cs,Ir (fs.map Fwd.src)=cs:=⟨_,rfl⟩;rw[ax]at ho wN HCM jg;have hcl30:cs.length≤30:=ZA
   clear ax wN HQ bc;refine' zZ;have uY:=aA IU;refine' ZD5;clear ho IU
   refine' ZC;go_loopw[4,6] (fun t i wr=>∃j:Nat,j≤cs.length∧i=.int .i64 j∧Below w.heap.size w wr∧own 128 w.heap.size wr t (AdV fs (cs.take j))∧own 9 w.heap.size wr (.slice Av cs.length cp) cs∧Hid (apart (.slice Av cs.length cp) t)) (fun _ i _=>cs.length - (intOf i).toNat)
   case atStart=>exact⟨0,aM _,rfl,lr,uY.out,HO.out,et.out⟩
   case round=>
    obtain⟨j,hj,rfl,tb,ho,SA,BG⟩:=hrel;refine' zj;clear HO uY et lr;by_cases jh:j<cs.length
    ·have HOC:=aA SA
     have HX:=aA (HCM.out _ (aU jh));obtain⟨A',n',c',yW,jk,f8,xP,ce⟩:=SA.rd;obtain⟨b2,o2,pZ,dj,oa,y1⟩:=rdA.strU ce j jh;cases yW;subst pZ;have y3:=y1 w3 (aF _ _);have lp:=aA (AxP (fs:=fs) jh);have sJ:=aA (Au0 (fs:=fs) jh);have qq:=AyM fs cs j;generalize cs[j]=x at *;have de:=aA (HH.out x HX.out);have pD:=aA (fun W (hW:Below w.heap.size w W)=>It _ fs x W (HV.out.on hW) HX.out ZA);obtain⟨f1,sk⟩:∃f,(Bc fs x).1=f:=⟨_,rfl⟩;obtain⟨f2,vg⟩:∃f,(Bc fs x).2.1=f:=⟨_,rfl⟩;obtain⟨f3,jn⟩:∃f,(Bc fs x).2.2=f:=⟨_,rfl⟩;rw[sk,vg,jn]at pD;rw[jn]at lp sJ;rw[sk]at lp de;have hx:=HX.out;have si:=de.out;clear sk vg jn SA ce;generalize AdV fs (cs.take j)=D at *;refine' ZJS;clear ho;have ko:(j:Int)<(cs.length:Int):=ZA
     refine' ZFb;cases f3
     ·have BF:=aA (sJ.out rfl)
      clear lp sJ
      go_wp2_with (go_at_call 78;refine(pD.out _ tb).mono ?_;refine' ZAX)
      have l4:=tb.trans (b4.mono tb.size);have o4:=HO.out.below b4;have MI:=HOC.out.below b4
      go_roundw
      case rel=>exact⟨j+1,ZA,ZJ,l4,by rw[BF.out];exact o4,MI,BG.out⟩
      case measure=>exact ZK
     ·have BF:=aA (lp.out rfl)
      clear lp sJ
      go_wp2_with (first|(go_at_call 78;refine(pD.out _ tb).mono ?_;refine' ZAX;have l4:=tb.trans (b4.mono tb.size);have mq:=l4.size;have o4:=aA (HO.out.below b4);have MI:=aA (HOC.out.below b4);have y4:=y1 w4 b4)|(at_builtin;refine An (α:=Fwd) rfl (.tmp 46) (.tmp 53) 31 rfl w.heap.size 128 i1 _ 32 dX ji dp dq dr rfl ZF (.slice Ad D.length cd) D ⟨x,f1⟩ rfl (o4.out.alloc _) ⟨w4.heap.size,0,none⟩ 1 (Fwd.cells ⟨x,f1⟩) rfl ⟨⟨hx,si⟩,rfl⟩ (Bz w4 _ (Fwd.cells ⟨x,f1⟩)) ZN ZA ZH ?_;refine' zI))
      have l5:Below w.heap.size w w5:=(l4.alloc l4.size (aC #[.string x,.string f1] 128)).grown ap ZH fun r e=>(o4.out.blk r e).1
      have oc5:=(MI.out.alloc (aC #[.string x,.string f1] 128)).grown ap (by
       rcases BG.out with h|h
       ·exact .inl h
       ·exact .inr h)
      have SB:=aA (Br (Dg (n:=D.length+1) (c:=cap) (Br BG.out) cn fun r hr=>by have:=(MI.out.blk r hr).2;exact ZH));refine' ZBQ;have SC:=aA oc5;clear bz ap cn oc5
      go_roundw
      case rel=>exact⟨j+1,ZA,ZJ,l5,by rw[BF.out];exact jT.out,SC.out,SB.out⟩
      case measure=>exact ZK
    ·have HE:Hid (cs.take j=cs):=bA ZA
     have ko:¬(j:Int)<(cs.length:Int):=ZA
     rw[HE.out,jg.out]at ho;refine' zZ;refine' ZJT;refine' ZI;exact⟨_,rfl,HO.out,tb⟩
theorem AdU(vb xs f w)(hb:rd w w.heap.size vb xs)(ib:f.size≤maxLen):
 Calls aB 185 #[vb,.string f] w fun e w'=>∃vA vB,e=.returned (.tuple #[vA,vB,.bool (Re f xs)])∧own 119 w.heap.size w' vA (Kw f xs)∧own 119 w.heap.size w' vB (Ts f xs)∧apart vA vB∧Below w.heap.size w w':=by
 refine' ZCH;refine' zk;refine' ZRY;obtain⟨wA,ae⟩:∃u,u=w.alloc (aC #[] 119):=⟨_,rfl⟩;obtain⟨wB,ai⟩:∃u,u=wA.alloc (aC #[] 119):=⟨_,rfl⟩;have oA:own (α:=Ltr) 119 w.heap.size wA (.slice (some ⟨w.heap.size,0,none⟩) 0 0) []:=ZJX
 have lA:Below w.heap.size w wA:=ZF9
 refine' ZGA;have oB:own (α:=Ltr) 119 w.heap.size wB (.slice (some ⟨w.heap.size+1,0,none⟩) 0 0) []:=ZSq
 have yu:own (α:=Ltr) 119 w.heap.size wB (.slice (some ⟨w.heap.size,0,none⟩) 0 0) []:=by rw[ai];exact oA.alloc _
 refine' ZSr;have qr:=aA (C6 _ xs wB (HB.out.on lB));clear ae ai oA lA;go_enter Tryz.func185,Tryz.ntmps185;cases h1:okB xs
 ·have HF:Hid (Re f xs=false):=zu
  rw[h1]at qr;clear h1
  refine' ZJp;refine' zV;exact ZTI
 have lG:=Cq h1;have H1:=aA h1;rw[h1]at qr;clear h1;cases h2:Jr f
 ·have HF:Hid (Re f xs=false):=ZBf
  have HP:=aA (fun W=>Qw f W ib);rw[h2]at HP;clear h2
  refine' ZJp;go_wp2_with (go_at_call 253;refine(HP.out _).mono ?_;refine' ZP)
  go_ret3
  exact ZTI
 have HP:=aA (fun W=>Qw f W ib);rw[h2]at HP;refine' ZRZ;refine' ZJp;clear yu oB lB b1
 go_wp2_with (go_at_call 253;refine(HP.out _).mono ?_;refine' ZP)
 go_loopw[7,8,9] (fun a b i wr=>∃k:Nat,k≤xs.length∧i=.int .i64 k∧Below w.heap.size w wr∧own 119 w.heap.size wr a (AaG f (xs.take k))∧own 119 w.heap.size wr b (Aa1 f (xs.take k))∧Hid (apart a b)) (fun _ _ i _=>xs.length - (intOf i).toNat)
 case atStart=>exact⟨0,aM _,rfl,l1.out,o1.out,o2.out,km.out⟩
 case round=>
  refine' ZCI;clear l1 o1 o2;by_cases ab:k<xs.length
  ·refine' ZRa;have y0:=c1 w3 lr;have y1:=c2 w3 lr;have l4:=lr;have iw:=HA;have br:=HB;have mq:w.heap.size≤w3.heap.size:=lr.size;clear c1 c2
   refine' ZC;refine(Qx x.code f _ ew ib).mono ?_;cases hf:pre x.code f
   rotate_left
   ·refine' ZAG;refine' ZCJ;clear hf
    go_wp2_with (at_builtin;refine An (α:=Ltr) rfl (.tmp 35) (.tmp 40) 27 rfl w.heap.size 119 i1 _ 24 aV ji dp dq dr rfl ZF (.slice AA sa.length cA) sa x rfl (iw.out.alloc _) ⟨w3.heap.size,0,none⟩ 1 (Ltr.cells x) rfl ⟨⟨fa,ew⟩,rfl⟩ (Bz w3 _ (Ltr.cells x)) ZN ZA ZH ?_;refine' zI)
    exact ZHA
   ·refine' ZAG;refine' ZEd;clear hf
    go_wp2_with (at_builtin;refine An (α:=Ltr) rfl (.tmp 42) (.tmp 47) 27 rfl w.heap.size 119 i1 _ 24 aV ji dp dq dr rfl ZF (.slice AB bs.length cB) bs x rfl (br.out.alloc _) ⟨w3.heap.size,0,none⟩ 1 (Ltr.cells x) rfl ⟨⟨fa,ew⟩,rfl⟩ (Bz w3 _ (Ltr.cells x)) ZN ZA ZH ?_;refine' zI)
    exact ZDS
  exact ZDT
theorem AcC(vb xs f w)(hb:rd w w.heap.size vb xs)(ib:f.size≤maxLen):
 Calls aB 102 #[vb,.string f] w fun e w'=>e=.returned (.int .i64 (Fw xs f))∧Below w.heap.size w w':=by
 have HS:=aA (AdU vb xs f w hb ib);refine' ZRb;cases ag:Re f xs
 all_goals
  rw[ag]at HS;clear ag;go_enter Tryz.func102,Tryz.ntmps102
  refine' ZRc
 ·exact⟨rfl,B1.out⟩
 ·exact⟨Bo (by rw[HN.out]),B1.out⟩
theorem ArU(p xs k):(Fz p xs k).length≤16∧(Fz p xs k).flatten.length≤60∧(Li p xs k).length≤60:=by
 unfold Fz Li
 split
 ·rename_i h
  refine' ZRr;refine⟨by rw[Hz];omega,Cq (Lq _ _ h.2),?_⟩;unfold Bn;exact aG (bJ _ _) h2
 ·exact⟨ZF,ZF,ZF⟩
theorem Xz(v vb p xs k w)(hv:rdP w w.heap.size v p)(hb:rd w w.heap.size vb xs):
 Calls aB 256 #[v,vb,.int .i64 k] w fun e w'=>∃vB vO,e=.returned (.tuple #[vB,vO,.bool (Qm p xs k)])∧rd w' w'.heap.size vB (Fz p xs k)∧rd w' w'.heap.size vO (Li p xs k)∧Below w.heap.size w w':=by
 refine' ZEV;have bw:Hid (∀h:Qm p xs k=false,Fz p xs k=[]∧Li p xs k=[]):=fun h=>by unfold Fz Li;rw[h];exact ZV
 have HQ:Hid (Qm p xs k=((Bq p&&(decide (0≤k)&&decide (k<p.passes)))&&okB xs)):=rfl;obtain⟨AL,nL,cL,rfl, -, -, -, -⟩:=HB.out;have FU:=aA (Ok _ _ p xs _ HP.out HB.out);go_enter Tryz.func256,Tryz.ntmps256;cases h1:(Bq p&&okB xs)
 ·have HF:Hid (Qm p xs k=false):=ZLL
  rw[h1]at FU;clear h1
  refine' ZSh;refine' zV;exact ZSi
 refine' ZGh;have lG:=Cq hh.2;have H1:=aA hh;rw[h1]at FU;clear h1 hh;have wp:aI.wrap (p.passes - 1)=p.passes - 1:=bI _ ZA;have pX:=aA (fun W=>D0 k 0 (p.passes - 1) W);cases h2:(decide (0≤k)&&decide (k≤p.passes - 1))
 ·have HF:Hid (Qm p xs k=false):=ZLM
  rw[h2]at pX;clear h2
  refine' ZSh;go_wp2_with (refine' ZF8)
  go_ret3
  exact ZSi
 have HF:Hid (Qm p xs k=true):=ZLN
 have gx:0≤k∧k≤p.passes - 1:=by rw[aN,bB,bB]at h2;exact h2
 rw[h2]at pX;clear h2;obtain⟨k,rfl⟩:=aQ gx.1;have HY:Hid (Fz p xs (k:Int)=Bm (fun x=>Dm p x.code k) p.bins.toNat xs∧Li p xs (k:Int)=Bn (fun x=>Dm p x.code k) xs):=by unfold Fz Li;rw[HF.out];exact ZV
 refine' zD;refine FU.out.mono ?_;refine' zd;go_wp2_with (refine' ZF8)
 refine(Np _ _ p xs k _ (HP.out.on l1) (HB.out.on l1) g1 g2 ZA ZA ZA).mono ?_;rintro e w3 ⟨vB,vO,vs,rfl,hB,hR,hF,b3⟩;have l3:=Aa l1 b3;have jV:=aA (Fu.rd ⟨vs,hB⟩);have aj:=aA hR.rd;obtain⟨A1,n1,c1,rfl, -, -, -, -⟩:=hB.1.rd;obtain⟨A2,n2,c2,rfl, -, -, -, -⟩:=hR.rd;clear hB hR hF
 refine' zV;exact⟨_,_,Bf ZX,by rw[HY.out.1];exact jV.out,by rw[HY.out.2];exact aj.out,Aa HT.out l3⟩
theorem AiM(v vb p xs k w)(hv:rdP w w.heap.size v p)(hb:rd w w.heap.size vb xs):
 Calls aB 186 #[v,vb,.int .i64 k] w fun e w'=>∃vB vO vs,e=.returned (.tuple #[vB,vO,.bool (Qm p xs k)])∧Fi 27 119 w.heap.size w' vB (Fz p xs k) vs∧own 119 w.heap.size w' vO (Li p xs k)∧D7 vO vB vs∧Below w.heap.size w w':=by
 refine' ZEV;refine' zv;obtain⟨FV,FW,FX⟩:=ArU p xs k;have lF:Hid ((Fz p xs k).length≤16∧(Fz p xs k).flatten.length≤60):=⟨FV,FW⟩;have uR:Hid ((Li p xs k).length≤60):=FX;clear FV FW FX;go_enter Tryz.func186,Tryz.ntmps186
 refine' zD;refine(Xz _ _ p xs k _ HP.out HB.out).mono ?_;rintro e w1 ⟨vB,vO,rfl,rB,rO,b1⟩;have l1:=Aa l0 b1;obtain⟨uS,rG⟩:∃z,Hid (Fz p xs k=z):=⟨_,rfl⟩;obtain⟨zs,xM⟩:∃z,Hid (Li p xs k=z):=⟨_,rfl⟩;rw[rG.out]at rB lF;rw[xM.out]at rO uR;have RB:=aA rB;have RO:=aA rO;obtain⟨AO,nO,cO,rfl,hnO,_,_,_⟩:=rO;subst hnO;clear rB;have lC:=lF.out;have hlr:=uR.out
 refine' ZC;refine(Yf _ uS _ RB.out ZA ZA).mono ?_;rintro e w2 ⟨vB2,gw,rfl,uT,b2⟩;have l2:=Aa l1 b2;have kS:=aA uT;clear uT;have xN:Hid (own (α:=Ltr) 119 w2.heap.size (w2.alloc (aC #[] 119)) (.slice (some ⟨w2.heap.size,0,none⟩) 0 0) []):=own.made0 w2 _ (aD _);have la:Below w2.heap.size w2 (w2.alloc (aC #[] 119)):=Ae (aF _ _) _;have yV:=aA ((RO.out.on b2).on la)
 go_wp2_with (at_builtin;refine Cu (α:=Ltr) rfl (.tmp 22) (.tmp 23) 27 rfl w2.heap.size 119 i1 _ 24 aV ji dp dq dr rfl ZF (.slice (some ⟨w2.heap.size,0,none⟩) 0 0) [] rfl xN.out (.slice AO zs.length cO) zs rfl (w2.alloc (aC #[] 119)).heap.size yV.out ZDG ZH la.size ?_;intro v' w3 nQ sM _)
 have b3:Below w2.heap.size w2 w3:=la.trans (Ay xN.out sM la.size);rw[bV]at nQ;have fg:=aA nQ;clear nQ sM;have te:Hid (D7 v' vB2 gw):=⟨Dd fg.out kS.out.1 (aD _),fun i hi=>Dd fg.out (kS.out.2.2.1 i hi (by have:=kS.out.2.1;omega)) (aD _)⟩;have dz:=aA (kS.out.below b3);refine' YC;go_ret3
 exact⟨_,_,gw,rfl,by rw[rG.out];exact dz.out.base_ (aG bf l1.size),by rw[xM.out];exact fg.out.base_ (aG bf l2.size),te.out,Aa HT.out l3⟩
theorem AiV(v vb p xs k w)(hv:rdP w w.heap.size v p)(hb:rd w w.heap.size vb xs):
 Calls aB 104 #[v,vb,.int .i64 k] w fun e w'=>∃v',e=.returned v'∧own 3 w.heap.size w' v' ((Gs p xs k).map fun n:Nat=>(n:Int))∧Below w.heap.size w w':=by
 refine' ZEV;refine' ZRs;obtain⟨wE,LH⟩:∃u,u=w0.alloc (aC #[] 3):=⟨_,rfl⟩;have oE:own (α:=Int) 3 w0.heap.size wE (.slice (some ⟨w0.heap.size,0,none⟩) 0 0) []:=by rw[LH];exact own.made0 w0 _ (aD _)
 have lE:Below w0.heap.size w0 wE:=by rw[LH];exact Ae l0 _
 have FP:=aA (AiM _ _ p xs k wE (HP.out.on lE) (HB.out.on lE));obtain⟨AL,nL,cL,rfl, -, -, -, -⟩:=HB.out;have HWE:=aA LH;clear LH;have ct:(Value.slice (some ⟨w0.heap.size,0,none⟩) 0 0)=.slice (some ⟨w.heap.size+1,0,none⟩) 0 0:=by rw[jP.out]
 rw[ct]at oE;clear ct q0 q1 q2;refine' ZDs;generalize Gs p xs k=L at *;generalize Fz p xs k=bins at *;go_enter Tryz.func104,Tryz.ntmps104
 refine' ZC;rw[←dc.out,←HWE.out];refine FP.out.mono ?_;cases ag:Qm p xs k
 ·have HL:Hid (L=[]):=by show _=_;rw[HE.out,tO.out ag];rfl
  rintro e w1 ⟨vB,vO,vs,rfl,qO,tP, -,b1⟩;have l1:=Aa lE b1;have LI:=aA (oE.below b1);obtain⟨A1,n1,c1,rfl, -, -, -, -⟩:=qO.1.rd;refine' ZFy;have cy:=aA (Aa HT.out l1);clear b1 qO tP ag pw l1
  refine' ZC;go_loopw[7,11] (fun t i wr=>i=.int .i64 0∧t=.slice (some ⟨w.heap.size+1,0,none⟩) 0 0∧wr=w1) (fun _ _ _=>0)
  case atStart=>exact⟨rfl,rfl,rfl⟩
  case round=>
   obtain⟨rfl,rfl,rfl⟩:=hrel
   go_wp2_with fail
   all_goals go_ret;exact⟨_,rfl,by rw[HL.out];exact LI.out.base_ bf,cy.out⟩
 ·have lC:bins.length≤16:=ZRu
  rintro e w1 ⟨vB,vO,vs,rfl,qO,tP, -,b1⟩;have l1:=Aa lE b1;have LI:=oE.below b1;refine' ZFy;have xO:Hid (D7 (.slice (some ⟨w.heap.size+1,0,none⟩) 0 0) vB vs):=⟨R8 oE qO.1 (aD _),fun i hi=>R8 oE (qO.2.2.1 i hi (by have:=qO.2.1;omega)) (aD _)⟩;have au:=qO.base_ lE.size;obtain⟨A1,n1,c1,rfl,ef, -, -, -⟩:=(Fu.rd ⟨vs,qO⟩:rd w1 w1.heap.size vB bins);subst ef;have fi:=aA au;have qP:=aA LI;clear b1 qO tP ag pw au oE LI lE;refine' ZRv;refine' ZC;go_loopw[7,11] (fun t i wr=>∃j:Nat,j≤bins.length∧i=.int .i64 j∧Below w0.heap.size w0 wr∧own 3 w0.heap.size wr t ((L.map fun n:Nat=>(n:Int)).take j)∧Fi 27 119 w0.heap.size wr (.slice A1 bins.length c1) bins vs∧Hid (D7 t (.slice A1 bins.length c1) vs)) (fun _ i _=>bins.length - (intOf i).toNat)
  case atStart=>exact⟨0,aM _,rfl,l1,by rw[dD];exact qP.out,fi.out,xO.out⟩
  case round=>
   obtain⟨j,hj,rfl,lr,ho,hB,fh⟩:=hrel;refine' zl;clear l1 qP fi xO;have jV:=aA hB;by_cases ab:j<bins.length
   ·obtain⟨A1',n1',oG,yW,jk,f8,xP,ce⟩:=(Fu.rd ⟨vs,hB⟩:rd w2 w2.heap.size _ bins)
    cases yW;obtain⟨b,o,u,jv,hb,hu,y1⟩:=ce.rowU j ab;subst jv;replace y1:=y1 w2 (aF _ _);have lY:Hid ((L.map fun n:Nat=>(n:Int)).take (j+1)=(L.map fun n:Nat=>(n:Int)).take j++[((bins[j].length:Nat):Int)]):=by
     show _=_;rw[aH zY]
     congr 2
     simp[HE.out]
    have xv:bins[j].length≤60:=sN.out.2 _ ZRw;generalize bins[j]=ys at *;obtain⟨A3,m3,c3,rfl,tQ,_,_,_⟩:=hu;subst tQ;have jb:((L.map fun n:Nat=>(n:Int)).take j).length≤16:=zF
    generalize(L.map fun n:Nat=>(n:Int)).take j=D at *;refine' ZJS;have iu:=lr.size;have ko:(j:Int)<(bins.length:Int):=ZA
    refine' ZFb;clear ho hB ce jk
    go_wp2_with (at_builtin;refine An (α:=Int) rfl (.tmp 30) (.tmp 36) 61 rfl w0.heap.size 3 i0 _ 8 iI hi ah aw aq rfl ZF (.slice Ad D.length cd) D ((ys.length:Nat):Int) rfl (HO.out.alloc _) ⟨w2.heap.size,0,none⟩ 1 [.int .i64 ((ys.length:Nat):Int)] rfl ⟨zL,rfl⟩ (Bz w2 _ [.int .i64 ((ys.length:Nat):Int)]) ZN ZA ZH ?_;refine' zI)
    have l5:Below w0.heap.size w0 w5:=(lr.alloc lr.size (aC #[.int .i64 ((ys.length:Nat):Int)] 3)).grown ap ZH fun r e=>(HO.out.blk r e).1
    have lV:=aA (Ho (jV.out.below ((aF _ _).alloc (aD _) _)) fh.out ap);have lk:=aA (Kj (n:=D.length+1) (c:=cap) jV.out fh.out cn ZE);refine' ZBQ;clear bz ap cn
    go_roundw
    case rel=>exact⟨j+1,ZA,ZJ,l5,by rw[lY.out];exact jT.out,lV.out,lk.out⟩
    case measure=>exact ZK
   ·have FZ:Hid ((L.map fun n:Nat=>(n:Int)).take j=L.map fun n:Nat=>(n:Int)):=bA ZCQ
    have ko:¬(j:Int)<(bins.length:Int):=ZA
    rw[FZ.out]at ho;refine' zZ;refine' ZJT;refine' ZI;exact⟨_,rfl,HO.out.base_ bf,Aa HT.out lr⟩
end Go.Proofs.YtfadhdacjpmmeaaGreatDoor

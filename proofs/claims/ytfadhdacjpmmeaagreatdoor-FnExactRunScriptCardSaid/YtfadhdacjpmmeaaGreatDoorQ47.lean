/- Parts. -/
import Derived.Test.YtfadhdacjpmmeaaGreatDoorQ46
import Derived.Test.YtfadhdacjpmmeaaGreatDoorQ45
set_option linter.unusedVariables false
set_option linter.unusedSimpArgs false
namespace Go.Proofs.YtfadhdacjpmmeaaGreatDoor
set_option maxRecDepth 100000
set_option maxHeartbeats 16000000
open Go.IntKind renaming i64→aI
open Go.Obj renaming cells→aC
open Go.Proofs.Tryz renaming prog→aB
open Go.Value renaming string→aK,int→bC
open Go.RowKit
theorem duo.set3{w W:World}{T:TypeId}{cs:Array Value}{b:Bool}(h:duo w T cs b W){g:Nat}(hg:w.heap.size+1<g)(x y z:Value):duo w T cs b (((W.setCell ⟨g,0,none⟩ x).setCell ⟨g,1,none⟩ y).setCell ⟨g,2,none⟩ z):=by
 have e:∀(W:World) (k i:Nat) (u:Value),k≠g→(W.setCell ⟨g,i,none⟩ u).heap[k]? =W.heap[k]? :=fun W k i u hk=>bP _ _ _ _ hk
 have n1:w.heap.size≠g:=ZA
 have n2:w.heap.size+1≠g:=ZA
 have hl:w.heap.size≤g:=ZA
 refine⟨((h.lay.setCell hl x).setCell hl y).setCell hl z,?_,?_,fun hb=>?_⟩
 ·rw[e _ _ _ _ n1,e _ _ _ _ n1,e _ _ _ _ n1];exact h.box
 ·rw[e _ _ _ _ n2,e _ _ _ _ n2,e _ _ _ _ n2];exact h.res
 ·rw[e _ _ _ _ n2,e _ _ _ _ n2,e _ _ _ _ n2];exact h.fin hb
theorem AtY{W:World}{b b':Nat}{x y z:Value}(h:b'≠b):(((W.setCell ⟨b,1,none⟩ x).setCell ⟨b,2,none⟩ y).setCell ⟨b,3,none⟩ z).heap[b']? =W.heap[b']? :=by rw[bP _ _ _ _ h,bP _ _ _ _ h,bP _ _ _ _ h]
theorem mvQ.out{p:Pln}{f t:Int}{w w':World}{e:Ending}(h:mvQ p f t w e w'):∃A n c,e=.returned (.tuple #[.agg #[.int .i64 (Ei p f t).bins,.int .i64 (Ei p f t).passes,.slice A n c],.bool (Eg p f t)])∧own 9 w.heap.size w' (.slice A n c) (Ei p f t).order∧Below w.heap.size w w':=by obtain⟨vo,rfl,ho,hb⟩:=h;obtain⟨A,n,c,rfl, -, -, -, -⟩:=ho.rd;exact⟨A,n,c,rfl,ho,hb⟩
theorem Uf(v:Value)(p:Pln)(f t:Int)(w:World)(hv:rdP w w.heap.size v p):
 Calls aB 97 #[v,.int .i64 f,.int .i64 t] w (mvQ p f t w):=by
 cases hk:Bq p
 ·exact Wr v p f t w hv (by unfold Eg;rw[hk];rfl) hk
 cases hf:(decide (0≤f)&&decide (f≤(p.order.length:Int) - 1))
 ·refine Ws v p f t w hv ?_ hk hf
  unfold Eg;rw[show decide (f<(p.order.length:Int))=decide (f≤(p.order.length:Int) - 1) by exact ZCX,hf,hk];rfl
 cases ht:(decide (0≤t)&&decide (t≤(p.order.length:Int) - 1))
 ·refine Z6 v p f t w hv ?_ hk hf ht
  unfold Eg;rw[show decide (t<(p.order.length:Int))=decide (t≤(p.order.length:Int) - 1) by exact ZCX,ht];simp
 ·rw[aN,bB,bB]at hf ht
  obtain⟨f,rfl⟩:=aQ hf.1;obtain⟨t,rfl⟩:=aQ ht.1;exact Xp v p f t w hv hk ZA ZA
theorem Ao6(R:Nat→Prop)(vL vO vF vH vN:Value)(s:Dsk)(a b:ByteArray)(B g c:Nat)(w:World)(hS:stN R w vL vO vF vH vN s)(hf:own 9 B w (.slice (some ⟨g,0,none⟩) 2 c) [a,b])(z0:a.size≤maxLen)(z1:b.size≤maxLen)(hi:Bj s.day.plan.bins∧Bj s.day.plan.passes)(sg:Bj (Ei s.day.plan (Am a) (Am b)).bins∧Bj (Ei s.day.plan (Am a) (Am b)).passes)(ho:Eg s.day.plan (Am a) (Am b)=true)(hz:(E7 (Ei s.day.plan (Am a) (Am b))).size≤1000000000)(hp:1≤(E7 (Ei s.day.plan (Am a) (Am b))).size):
 Calls aB 47 #[stV vL vO vF vH vN s,.string C0,.slice (some ⟨g,0,none⟩) 2 c] w (Bs R {s with day:={s.day with plan:=Ei s.day.plan (Am a) (Am b)}} (E7 (Ei s.day.plan (Am a) (Am b))) w):=by
 refine' ZTw;rw[xl]at sg hz hp⊢;have HC:Hid (∀W,Below w.heap.size w W→Calls aB 97 #[.agg #[.int .i64 s.day.plan.bins,.int .i64 s.day.plan.passes,.slice AO s.day.plan.order.length cO],.int .i64 (Am a),.int .i64 (Am b)] W fun e w'=>∃A n c,e=.returned (.tuple #[.agg #[.int .i64 mp.bins,.int .i64 mp.passes,.slice A n c],.bool true])∧own 9 W.heap.size w' (.slice A n c) mp.order∧Below W.heap.size W w'):=fun W hW=>ZTx
 refine' ZTy;have dy:=aA (fun W=>D4 (E7 mp) W ZA);have de:Hid (Em (E7 mp)=E7 mp++⟨#[10]⟩):=Fh hp;have KN:=aA sg;refine' ZGO;clear z0 z1 hi om sg hz ho xl hp;refine' ZTz;go_region_held3 (fun W=>duo w 36 #[.slice AL s.letters.length cL,.int .i64 s.day.plan.bins,.int .i64 s.day.plan.passes,.slice AO s.day.plan.order.length cO,.slice AF s.day.fwds.length cF,.slice AH s.day.held.length cH,.int .i64 s.day.size,.slice AN s.net.length cN] false W) (first|(with_reducible exact ao)|(with_reducible exact ka)|(with_reducible exact kb)|(with_reducible exact k1)|(with_reducible exact duo.set3 k1 ah _ _ _)|(with_reducible exact duo.below k1 (Ae (aF _ _) _))|(exact duo.below k1 (Ae (aF _ _) _))|fail) (first|refine' ZT0|refine' ZT1|fail)
 all_goals
  refine' ZT2;have kX:=k1.lt;have UY:=aA RU;have rI:=aA ki;clear ki RU OX b1;refine' ZT3;refine' ZC;obtain⟨W2,be⟩:∃u,u=((U1.setCell ⟨w.heap.size,1,none⟩ (.int .i64 mp.bins)).setCell ⟨w.heap.size,2,none⟩ (.int .i64 mp.passes)).setCell ⟨w.heap.size,3,none⟩ (.slice AX nX cX):=⟨_,rfl⟩;rw[←be];have k2:duo w 36 #[.slice AL s.letters.length cL,.int .i64 mp.bins,.int .i64 mp.passes,.slice AX nX cX,.slice AF s.day.fwds.length cF,.slice AH s.day.held.length cH,.int .i64 s.day.size,.slice AN s.net.length cN] false W2:=ZT4
  have RX:rdN (cut R w.heap.size (w.heap.size+2)) W2 (.slice AX nX cX) mp.order:=by rw[be];exact UY.out.on (((Ct.set_cut R _ _ _ _ _ _ (aD _) ZA).trans (Ct.set_cut R _ _ _ _ _ _ (aD _) ZA)).trans (Ct.set_cut R _ _ _ _ _ _ (aD _) ZA))
  have dj:=(AtY (W:=U1) (b:=w.heap.size) (x:=.int .i64 mp.bins) (y:=.int .i64 mp.passes) (z:=.slice AX nX cX) (show _≠w.heap.size by omega)).trans kH;rw[←be]at dj;refine' z7;clear be e1 e2 e3 f1 f2 f3 d0 d1 d2 kH q0 q1 q2 q3 q4 q5 q6 q7;have RXH:=aA RX;refine' ZT5;have p0:∀W,duo w 36 #[.slice AL s.letters.length cL,.int .i64 mp.bins,.int .i64 mp.passes,.slice AX nX cX,.slice AF s.day.fwds.length cF,.slice AH s.day.held.length cH,.int .i64 s.day.size,.slice AN s.net.length cN] false W→W.cell? ⟨w.heap.size,0,none⟩=some (.slice AL s.letters.length cL):=fun W h=>(Ac h.box).1.1
  have p1:∀W,duo w 36 #[.slice AL s.letters.length cL,.int .i64 mp.bins,.int .i64 mp.passes,.slice AX nX cX,.slice AF s.day.fwds.length cF,.slice AH s.day.held.length cH,.int .i64 s.day.size,.slice AN s.net.length cN] false W→W.cell? ⟨w.heap.size,1,none⟩=some (.int .i64 mp.bins):=fun W h=>(Ac h.box).1.2.1
  have p2:∀W,duo w 36 #[.slice AL s.letters.length cL,.int .i64 mp.bins,.int .i64 mp.passes,.slice AX nX cX,.slice AF s.day.fwds.length cF,.slice AH s.day.held.length cH,.int .i64 s.day.size,.slice AN s.net.length cN] false W→W.cell? ⟨w.heap.size,2,none⟩=some (.int .i64 mp.passes):=fun W h=>(Ac h.box).1.2.2.1
  have p3:∀W,duo w 36 #[.slice AL s.letters.length cL,.int .i64 mp.bins,.int .i64 mp.passes,.slice AX nX cX,.slice AF s.day.fwds.length cF,.slice AH s.day.held.length cH,.int .i64 s.day.size,.slice AN s.net.length cN] false W→W.cell? ⟨w.heap.size,3,none⟩=some (.slice AX nX cX):=fun W h=>(Ac h.box).1.2.2.2.1
  have p4:∀W,duo w 36 #[.slice AL s.letters.length cL,.int .i64 mp.bins,.int .i64 mp.passes,.slice AX nX cX,.slice AF s.day.fwds.length cF,.slice AH s.day.held.length cH,.int .i64 s.day.size,.slice AN s.net.length cN] false W→W.cell? ⟨w.heap.size,4,none⟩=some (.slice AF s.day.fwds.length cF):=fun W h=>(Ac h.box).1.2.2.2.2.1
  have p5:∀W,duo w 36 #[.slice AL s.letters.length cL,.int .i64 mp.bins,.int .i64 mp.passes,.slice AX nX cX,.slice AF s.day.fwds.length cF,.slice AH s.day.held.length cH,.int .i64 s.day.size,.slice AN s.net.length cN] false W→W.cell? ⟨w.heap.size,5,none⟩=some (.slice AH s.day.held.length cH):=fun W h=>(Ac h.box).1.2.2.2.2.2.1
  have p6:∀W,duo w 36 #[.slice AL s.letters.length cL,.int .i64 mp.bins,.int .i64 mp.passes,.slice AX nX cX,.slice AF s.day.fwds.length cF,.slice AH s.day.held.length cH,.int .i64 s.day.size,.slice AN s.net.length cN] false W→W.cell? ⟨w.heap.size,6,none⟩=some (.int .i64 s.day.size):=fun W h=>(Ac h.box).1.2.2.2.2.2.2.1
  have p7:∀W,duo w 36 #[.slice AL s.letters.length cL,.int .i64 mp.bins,.int .i64 mp.passes,.slice AX nX cX,.slice AF s.day.fwds.length cF,.slice AH s.day.held.length cH,.int .i64 s.day.size,.slice AN s.net.length cN] false W→W.cell? ⟨w.heap.size,7,none⟩=some (.slice AN s.net.length cN):=fun W h=>(Ac h.box).1.2.2.2.2.2.2.2
  go_region_law (first|(go_simp;go_at_call 26;refine' ZBY)|(go_simp;refine' ZCA)|fail)
  all_goals refine' ZT6;exact Bs.fin (s':={s with day:={s.day with plan:=mp}}) (stP (HS.out.cut L4.out) (RXH.out.on (Ct.below _ j7.out))) L4.out
theorem Ar2(R:Nat→Prop)(vL vO vF vH vN:Value)(s:Dsk)(a b:ByteArray)(B g c:Nat)(w:World)(hS:stN R w vL vO vF vH vN s)(hf:own 9 B w (.slice (some ⟨g,0,none⟩) 2 c) [a,b])(z0:a.size≤maxLen)(z1:b.size≤maxLen)(hi:Bj s.day.plan.bins∧Bj s.day.plan.passes)(sg:Bj (Ei s.day.plan (Am a) (Am b)).bins∧Bj (Ei s.day.plan (Am a) (Am b)).passes)(ho:Eg s.day.plan (Am a) (Am b)=false)(hz:(E7 (Ei s.day.plan (Am a) (Am b))).size≤1000000000):
 Calls aB 47 #[stV vL vO vF vH vN s,.string C0,.slice (some ⟨g,0,none⟩) 2 c] w (Bs R s (⟨#[]⟩) w):=by
 refine' ZTw;rw[xl]at sg hz;have HC:Hid (∀W,Below w.heap.size w W→Calls aB 97 #[.agg #[.int .i64 s.day.plan.bins,.int .i64 s.day.plan.passes,.slice AO s.day.plan.order.length cO],.int .i64 (Am a),.int .i64 (Am b)] W fun e w'=>∃A n c,e=.returned (.tuple #[.agg #[.int .i64 mp.bins,.int .i64 mp.passes,.slice A n c],.bool false])∧own 9 W.heap.size w' (.slice A n c) mp.order∧Below W.heap.size W w'):=fun W hW=>ZTx
 refine' ZTy;have dy:=aA (fun W=>Fa (E7 mp) W);refine' ZGP;have KN:=aA sg;refine' ZGO;clear z0 z1 hi om sg hz ho xl;refine' ZTz;go_region_held3 (fun W=>duo w 36 #[.slice AL s.letters.length cL,.int .i64 s.day.plan.bins,.int .i64 s.day.plan.passes,.slice AO s.day.plan.order.length cO,.slice AF s.day.fwds.length cF,.slice AH s.day.held.length cH,.int .i64 s.day.size,.slice AN s.net.length cN] false W) (first|(with_reducible exact ao)|(with_reducible exact ka)|(with_reducible exact kb)|(with_reducible exact k1)|(with_reducible exact duo.set3 k1 ah _ _ _)|(with_reducible exact duo.below k1 (Ae (aF _ _) _))|(exact duo.below k1 (Ae (aF _ _) _))|fail) (first|refine' ZT0|refine' ZT1|fail)
 all_goals
  refine' ZT2;have UY:=aA RU;have rI:=aA ki;clear ki RU OX b1
  refine' ZC;obtain⟨W2,be⟩:∃u:World,u=U1:=⟨_,rfl⟩;rw[←be];have k2:duo w 36 #[.slice AL s.letters.length cL,.int .i64 s.day.plan.bins,.int .i64 s.day.plan.passes,.slice AO s.day.plan.order.length cO,.slice AF s.day.fwds.length cF,.slice AH s.day.held.length cH,.int .i64 s.day.size,.slice AN s.net.length cN] false W2:=by rw[be];exact kU
  have RX:rdN (cut R w.heap.size (w.heap.size+2)) W2 (.slice AX nX cX) mp.order:=by rw[be];exact UY.out
  have dj:=kH;rw[←be]at dj;refine' z7;clear be kH;refine' ZT5;go_region_law (first|(go_simp;go_at_call 26;refine' ZBY)|(go_simp;refine' ZCA)|fail)
  all_goals refine' ZT6;exact ZB8
theorem Aw5(R:Nat→Prop)(vL vO vF vH vN:Value)(s:Dsk)(wd r f k:ByteArray)(w:World)(h:Inv s)(hS:stN R w vL vO vF vH vN s)(hz:r.size≤1000000)(d9:Aj 32 r=[f,k])(ib:f.size≤maxLen)(rT:k.size≤maxLen)(h4:∀x∈[Cf,Df,Bg,Es],(wd.toList==x.data.toList)=false):
 Calls aB 12 #[stV vL vO vF vH vN s,.string wd,.string r] w (Bs R (AgX s wd f k).1 (AgX s wd f k).2 w):=by
 have qc:(Aj 32 r).length=2:=by rw[d9];rfl
 unfold AgX;by_cases e0:wd=C0
 ·subst e0
  refine' ZR;have ct:=Yg (Ei s.day.plan (Am f) (Am k));have sg:Bj (Ei s.day.plan (Am f) (Am k)).bins∧Bj (Ei s.day.plan (Am f) (Am k)).passes:=by
   have:=Ss h;unfold Ei
   split
   ·exact this
   ·have ah:Bj 0:=zL
    exact⟨ah,ah⟩
  cases ho:Eg s.day.plan (Am f) (Am k)
  ·rw[aL ZE]
   exact Gz R _ _ _ _ _ s _ r 2 s ⟨#[]⟩ w hS hz h4 (U8) qc fun R' uL uO uF uH uN g c B W ia df=>by rw[d9]at df;exact Ar2 R' uL uO uF uH uN s f k B g c W ia df ib rT (Ss h) sg ho ZA
  ·rw[aP rfl]
   exact Gz R _ _ _ _ _ s _ r 2 _ _ w hS hz h4 (U8) qc fun R' uL uO uF uH uN g c B W ia df=>by rw[d9]at df;exact Ao6 R' uL uO uF uH uN s f k B g c W ia df ib rT (Ss h) sg ho ZA (Al3 (AdH ho))
 rw[aL e0];by_cases e1:wd=Bt
 ·subst e1
  refine' ZR;rw[Am2,Am9];have ct:=Pc (My s.day.fwds f k);cases ho:Ig s.day.fwds f k
  ·exact Gz R _ _ _ _ _ s _ r 2 s ⟨#[]⟩ w hS hz h4 (Pf) qc fun R' uL uO uF uH uN g c B W ia df=>by rw[d9]at df;exact AiS R' uL uO uF uH uN s f k B g c W ia df h.fwds ib rT ho ZA
  ·exact Gz R _ _ _ _ _ s _ r 2 _ _ w hS hz h4 (Pf) qc fun R' uL uO uF uH uN g c B W ia df=>by rw[d9]at df;exact AhT R' uL uO uF uH uN s f k B g c W ia df h.fwds ib rT ho (V5 (Ag3 ho)) ZA
 rw[aL e1];by_cases e2:wd=Fl
 ·subst e2
  refine' ZR;exact Lb R _ _ _ _ _ s _ r 2 _ w hS hz h4 (AdK) qc fun R' uL uO uF uH uN g c B W ia df=>by rw[d9]at df;exact Bb1 R' uL uO uF uH uN s f k B g c W ia df rT
 rw[aL e2];have bj:K6 wd≠2:=by
  unfold K6
  split
  ·omega
  ·rw[aL]
   ·split<;>omega
   ·intro hm
    rcases hm with hm|hm|hm
    ·exact e2 hm
    ·exact e1 hm
    ·exact e0 hm
 exact AeK R _ _ _ _ _ s wd r (K6 wd) (Of wd) w hS hz h4 (Td wd) (.inr (by rw[qc];exact fun e=>bj e.symm))
theorem Ba1(wd:ByteArray):K6 wd≤3:=by
 unfold K6
 split
 ·omega
 ·split
  ·omega
  ·split<;>omega
theorem AyN(R:Nat→Prop)(vL vO vF vH vN:Value)(s:Dsk)(wd r:ByteArray)(w:World)(h:Inv s)(hS:stN R w vL vO vF vH vN s)(hz:r.size≤1000000):
 Calls aB 12 #[stV vL vO vF vH vN s,.string wd,.string r] w (Bs R (U0 s wd r).1 (U0 s wd r).2 w):=by
 have uW:r.size≤maxLen:=ZN
 have oy:∀p∈Aj 32 r,p.size≤maxLen:=fun p hp=>aG (Hi hp) uW
 unfold U0;by_cases e0:wd=Cf
 ·subst e0
  refine' ZR;rw[AlO,AlJ];cases ho:Mv r
  ·exact AiF R _ _ _ _ _ s r w hS hz ho
  ·exact AgO R _ _ _ _ _ s r w hS hz ho (Ui (AwA ho))
 rw[aL e0];by_cases e1:wd=Df
 ·subst e1
  refine' ZR;cases ho:Ge r
  ·exact AqY R _ _ _ _ _ s r w hS hz ho
  ·exact Ap0 R _ _ _ _ _ s r w hS hz ho
 rw[aL e1];by_cases e2:wd=Bg
 ·subst e2
  refine' ZR;cases ho:Tf r
  ·exact AfG R _ _ _ _ _ s r w hS hz ho
  ·exact AeB R _ _ _ _ _ s r w hS hz ho
 rw[aL e2];by_cases e3:wd=Es
 ·subst e3
  refine' ZR;cases ho:Kx r
  ·exact AuM R _ _ _ _ _ s r w hS hz ho
  ·exact As9 R _ _ _ _ _ s r w hS hz ho
 rw[aL e3];have h4:∀x∈[Cf,Df,Bg,Es],(wd.toList==x.data.toList)=false:=by
  refine' ZF4;rcases hx with rfl|rfl|rfl|rfl
  ·exact Fy e0
  ·exact Fy e1
  ·exact Fy e2
  ·exact Fy e3
 have bj:=Pj r;obtain⟨ps,d9⟩:∃ps,Aj 32 r=ps:=⟨_,rfl⟩;rw[d9]at bj oy⊢;rcases ps with _|⟨f,_|⟨k,_|⟨j,_|⟨i,ps⟩⟩⟩⟩
 ·exact absurd rfl bj
 ·exact AuL R _ _ _ _ _ s wd r f w h hS hz d9 (oy f ZE) h4
 ·exact Aw5 R _ _ _ _ _ s wd r f k w h hS hz d9 (oy f ZE) (oy k ZE) h4
 ·show Calls aB _ _ _ (Bs R (if wd=Cz then(s,Jp s.day.plan s.letters (Am f) (Am k) (Am j))else(s,Hg)).1 (if wd=Cz then(s,Jp s.day.plan s.letters (Am f) (Am k) (Am j))else(s,Hg)).2 w)
  have pz:(Aj 32 r).length=3:=by rw[d9];rfl
  by_cases e4:wd=Cz
  ·subst e4
   refine' ZR;exact Lb R _ _ _ _ _ s _ r 3 _ w hS hz h4 (Aa8) pz fun R' uL uO uF uH uN g c B W ia df=>by rw[d9]at df;exact Ay8 R' uL uO uF uH uN s f k j B g c W ia df (oy f ZE) (oy k ZE) (oy j ZE) (Ss h)
  ·rw[aL e4]
   have hn:K6 wd≠3:=by
    unfold K6
    split
    ·omega
    ·split
     ·omega
     ·first
       |omega
       |rw[aL e4];omega
   exact AeK R _ _ _ _ _ s wd r (K6 wd) (Of wd) w hS hz h4 (Td wd) (.inr (by rw[pz];exact fun e=>hn e.symm))
 ·have hn:=Ba1 wd
  exact AeK R _ _ _ _ _ s wd r (K6 wd) (Of wd) w hS hz h4 (Td wd) (.inr (by rw[d9];simp only[bZ];omega))
theorem W7(t:ByteArray)(w:World)(ht:20000<t.size):
 Calls aB 5 #[.string t] w fun e w'=>e=.returned (.string ⟨#[108,111,110,103,10]⟩)∧Below w.heap.size w w':=by
 have vM:(20000:Int)<(t.size:Int):=ZA
 go_enter Tryz.func5,Tryz.ntmps5
 refine' ZI;exact z6
theorem AwL{s:Dsk}(h:Inv s){ak:ByteArray}(hz:ak.size≤20000):BbN ak s (Qk s ak).1 (Qk s ak).2:=by
 intro R vL vO vF vH vN w hS;unfold Qk;refine⟨fun hq=>?_,fun q hq=>?_⟩
 ·rw[Ri hq]
  exact Ba4 R vL vO vF vH vN s ak w h hS
 ·rw[Nt hq]
  exact AyN R vL vO vF vH vN s _ _ w h hS zc
theorem AdP(t:ByteArray)(w:World):
 Calls aB 5 #[.string t] w fun e w'=>e=.returned (.string (AwB t))∧Below w.heap.size w w':=by
 unfold AwB;by_cases ht:20000<t.size
 ·rw[aP ht];exact W7 t w ht
 ·rw[aL ht]
  refine Ae0 t w (Aj 10 t) (Xw (Aj 10 t)) (AxF (Aj 10 t)) ZA rfl rfl (fun k hk h0=>?_) fun k hk h0=>?_
  ·refine' ZSG;exact⟨AwL (Wl _ k) ZA,Ag4 (Wl _ k) _⟩
  ·refine' ZJL;rw[Xw,e,Lx.2 h0];rfl
end Go.Proofs.YtfadhdacjpmmeaaGreatDoor

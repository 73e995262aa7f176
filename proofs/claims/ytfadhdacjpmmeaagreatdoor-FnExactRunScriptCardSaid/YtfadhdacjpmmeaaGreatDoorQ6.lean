/- Parts. -/
import Derived.Test.YtfadhdacjpmmeaaGreatDoorZ
import Derived.WalkSpells
import Derived.WalkLawsBesides
import Derived.Deep.AppendLies
import Derived.Test.YtfadhdacjpmmeaaGreatDoorRows
import Derived.BigQuiet
set_option linter.unusedVariables false
set_option linter.unusedSimpArgs false
namespace Go.Proofs.YtfadhdacjpmmeaaGreatDoor
set_option maxHeartbeats 1600000
open Go.IntKind renaming i64→aI
open Go.Obj renaming cells→aC
open Go.Proofs.Tryz renaming prog→aB
open Go.Value renaming string→aK,int→bC
open Go.RowKit
theorem Al{a b}(h:a=b):Ending.returned (.bool a)=.returned (.bool b):=ZAb
theorem Bo{k a b}(h:a=b):Ending.returned (.int k a)=.returned (.int k b):=ZAb
theorem B8{a b}(h:a=b):Ending.returned (.string a)=.returned (.string b):=ZAb
theorem toList_inj{s t:ByteArray}:s.toList=t.toList↔s=t:=
 ⟨fun h=>by rw[bR,bR]at h;exact WideShapes.bytes_inj h,fun h=>ZAb⟩
def sEq(s t:ByteArray):Bool:=s.toList==t.toList
theorem Ec{s t}:sEq s t=true↔s=t:=by unfold sEq;rw[dE,toList_inj]
theorem Mq(s):sEq s s=true:=Ec.2 rfl
theorem F6{s t}:sEq s t=false↔s≠t:=by rw[←eY,Ec]
theorem Ii(b o n):(⟨b,o,none⟩:Addr).add n=⟨b,o+n,none⟩:=by unfold Addr.add;split<;>simp_all
class El (α:Type) where
 size:Nat
 el:World→Nat→α→List Value→Prop
 len:∀{w B x cs},el w B x cs→cs.length=size
 more:∀{w B B' x cs},el w B x cs→B≤B'→el w B' x cs
 keep:∀{w w' B x cs},el w B x cs→(∀p:Addr,p.block<B→w'.cell? p=w.cell? p)→el w' B x cs
 one:∀{w B x cs},el w B x cs→∀u∈cs,u.oneCell'=true
def rdA{α:Type}[El α](w:World)(B:Nat)(A:Option Addr)(xs:List α):Prop:=
 ∀k (h:k<xs.length),∃b o cs,A=some ⟨b,o,none⟩∧b<B∧El.el w B xs[k] cs∧∀j u,cs[j]? =some u→w.cell? ⟨b,o+(k*El.size α+j),none⟩=some u
def rd{α:Type}[El α](w:World)(B:Nat)(v:Value)(xs:List α):Prop:=
 ∃(A:Option Addr) (n c:Nat),v=.slice A n c∧n=xs.length∧n≤c∧c≤maxLen∧rdA w B A xs
section
variable{α:Type}[El α]{w w':World}{B B':Nat}{A:Option Addr}{v:Value}{xs:List α}
theorem rdA.keep(h:rdA w B A xs)(hk:∀p:Addr,p.block<B→w'.cell? p=w.cell? p):rdA w' B A xs:=fun k hl=>by obtain⟨b,o,cs,hA,hb,he,hc⟩:=h k hl;exact⟨b,o,cs,hA,hb,El.keep he hk,fun j u hu=>(hk _ hb).trans (hc j u hu)⟩
theorem rdA.more(h:rdA w B A xs)(hB:B≤B'):rdA w B' A xs:=fun k hl=>by obtain⟨b,o,cs,hA,hb,he,hc⟩:=h k hl;exact⟨b,o,cs,hA,bU hb hB,El.more he hB,hc⟩
theorem rdA.below(h:rdA w B A xs)(hb:Below B w w'):rdA w' B A xs:=h.keep fun _ hp=>hb.cell hp
theorem rdA.nil_:rdA w B A ([]:List α):=fun k h=>absurd h (aX k)
theorem rd.keep(h:rd w B v xs)(hk:∀p:Addr,p.block<B→w'.cell? p=w.cell? p):rd w' B v xs:=by obtain⟨A,n,c,h1,h2,h3,h4,h5⟩:=h;exact⟨A,n,c,h1,h2,h3,h4,h5.keep hk⟩
theorem rd.more(h:rd w B v xs)(hB:B≤B'):rd w B' v xs:=by obtain⟨A,n,c,h1,h2,h3,h4,h5⟩:=h;exact⟨A,n,c,h1,h2,h3,h4,h5.more hB⟩
theorem rd.below(h:rd w B v xs)(hb:Below B w w'):rd w' B v xs:=h.keep fun _ hp=>hb.cell hp
theorem rd.on(h:rd w w.heap.size v xs)(hb:Below w.heap.size w w'):rd w' w'.heap.size v xs:=(h.below hb).more hb.size
theorem rdA.on(h:rdA w w.heap.size A xs)(hb:Below w.heap.size w w'):rdA w' w'.heap.size A xs:=(h.below hb).more hb.size
theorem rd.nil_:rd w B (.slice none 0 0) ([]:List α):=⟨none,0,0,rfl,rfl,aD _,aM _,rdA.nil_⟩
theorem rd.mk{n c}(hn:n=xs.length)(hc:n≤c)(hm:c≤maxLen)(h:rdA w B A xs):rd w B (.slice A n c) xs:=⟨A,n,c,rfl,hn,hc,hm,h⟩
theorem rdA.take(h:rdA w B A xs)(k):rdA w B A (xs.take k):=fun j hj=>by
 have tW:j<xs.length:=ZDA
 obtain⟨b,o,cs,hA,hb,he,hc⟩:=h j tW;exact⟨b,o,cs,hA,hb,by simpa using he,hc⟩
theorem rd.take{n c A}(h:rd w B (.slice A n c) xs){k}(hk:k≤xs.length):rd w B (.slice A k c) (xs.take k):=by obtain⟨A',n',c',h1,h2,h3,h4,h5⟩:=h;injection h1 with e1 e2 e3;subst e1 e2 e3;exact⟨A,k,c,rfl,ZH,ZA,h4,h5.take k⟩
theorem rdA.drop(h:rdA w B A xs)(k):rdA w B (A.map (·.add (k*El.size α))) (xs.drop k):=fun j hj=>by
 have tW:k+j<xs.length:=ZDA
 obtain⟨b,o,cs,hA,hb,he,hc⟩:=h (k+j) tW;subst hA;refine⟨b,o+k*El.size α,cs,by simp[Ii],hb,by simpa using he,fun i u hu=>?_⟩;rw[show o+k*El.size α+(j*El.size α+i)=o+((k+j)*El.size α+i) by rw[eU];omega];exact hc i u hu
theorem rd.drop{n c A}(h:rd w B (.slice A n c) xs){k}(hk:k≤xs.length):
 rd w B (.slice (if c=k then A else A.map (·.add (k*El.size α))) (n - k) (c - k)) (xs.drop k):=by
 obtain⟨A',n',c',h1,h2,h3,h4,h5⟩:=h;injection h1 with e1 e2 e3;subst e1 e2 e3;refine⟨_,_,_,rfl,ZH,ZA,ZA,?_⟩;by_cases e:c=k
 ·rw[aP e]
  intro j hj;exact ZDA
 ·rw[aL e]
  exact h5.drop k
end
theorem Ba{B a w}(h:Below B a w)(n):Below B a (w.drewN n):=⟨h.os,h.tape,h.output,h.size,h.block⟩
theorem AhC(w:World)(cs)(T:TypeId)(i):(w.alloc (.cells cs T)).cell? ⟨w.heap.size,i,none⟩=cs[i]? :=by rw[fH _ _ _ _ _ _ (bD w _)]
def own{α:Type}[El α](T:TypeId)(base:Nat)(w:World)(v:Value)(xs:List α):Prop:=
 ∃gg:List (List Value),w.ownsRow base T (El.size α) v xs.length gg.flatten∧gg.length=xs.length∧∀k (h:k<xs.length) (h':k<gg.length),El.el w w.heap.size xs[k] gg[k]
theorem J8{α:Type}{n}:∀{l:List (List α)},(∀x∈l,x.length=n)→l.flatten.length=l.length*n
 |[],_=>ZE
 |x::l,h=>by rw[cT,aS,J8 (fun y hy=>h y (bK _ hy)),h x (fU ..),bZ,eU];omega
theorem Ql{α:Type}{n}:∀{l:List (List α)} (_:∀x∈l,x.length=n) {k j:Nat} (hk:k<l.length) (_:j<n),l.flatten[k*n+j]? =(l[k])[j]?
 |[],_,k,j,hk,_=>absurd hk (aX k)
 |x::l,h,0,j,_,hj=>by refine' ZGX;simp only[fD,bW,cT,dL];rw[List.getElem?_append_left ZA]
 |x::l,h,k+1,j,hk,hj=>by refine' ZGX;simp only[cT,gV];rw[List.getElem?_append_right (by rw[hx,eU];omega),hx,show(k+1)*n+j - n=k*n+j by rw[eU];omega];exact Ql (fun y hy=>h y (bK _ hy)) zM hj
section
variable{α:Type}[El α]{T:TypeId}{base:Nat}{w w':World}{v:Value}{xs:List α}
theorem own.nil_(w)(T:TypeId)(base):own T base w (.slice none 0 0) ([]:List α):=⟨[],World.ownsRow_nil _ _ _ _,rfl,fun k h=>absurd h (aX k)⟩
theorem own.form(h:own T base w v xs):v=.slice none 0 0∧xs=[]∨∃g c,v=.slice (some ⟨g,0,none⟩) xs.length c∧base≤g∧g<w.heap.size∧xs.length≤c∧c≤maxLen:=by
 refine' ZGY;rcases h2 with⟨rfl,hn⟩|⟨g,cap,bu,rfl,hg,hh,hc,hm,_⟩
 ·exact .inl ⟨rfl,bQ hn⟩
 ·exact .inr ⟨g,cap,rfl,hg,(Array.getElem?_eq_some_iff.1 hh).1,hc,hm⟩
theorem own.rd(h:own T base w v xs):rd w w.heap.size v xs:=by
 have hf:=h.form;obtain⟨gg,ho,hl,he⟩:=h;rcases hf with⟨rfl,rfl⟩|⟨g,c,rfl,hg,ab,hc,hm⟩
 ·exact rd.nil_
 ·refine⟨_,_,_,rfl,rfl,hc,hm,fun k hk=>⟨g,0,gg[k]' ZA,rfl,ab,he k hk ZA,fun j u hu=>?_⟩⟩
  have ax:∀x∈gg,x.length=El.size α:=fun x hx=>by refine' ZEa;exact El.len (he i ZA hi)
  have hj:j<El.size α:=by have:=(List.getElem?_eq_some_iff.1 hu).1;rw[ax _ (aU ..)]at this;exact this
  have:=ho.cells (g:=g) rfl (k*El.size α+j) u (by rw[Ql ax ZA hj];exact hu)
  rwa [Ii]at this
theorem AiB{E:TypeId}{size n cs}(h:w.ownsRow base E size v n cs)(hb:Below w.heap.size w w'):w'.ownsRow base E size v n cs:=
 h.kept (row:=none) ⟨hb.os,hb.tape,hb.output,hb.size,fun k hk _=>hb.block k hk⟩ (by cases hv:v.ownBlock<;>simp)
theorem own.below(h:own T base w v xs)(hb:Below w.heap.size w w'):own T base w' v xs:=by obtain⟨gg,ho,hl,he⟩:=h;exact⟨gg,AiB ho hb,hl,fun k h1 h2=>El.more (El.keep (he k h1 h2) fun _ hp=>hb.cell hp) hb.size⟩
theorem own.base_{kc}(h:own T base w v xs)(hb:kc≤base):own T kc w v xs:=by
 obtain⟨gg,⟨h1,h2⟩,hl,he⟩:=h;refine⟨gg,⟨h1,?_⟩,hl,he⟩;rcases h2 with h2|⟨g,cap,bu,hv,hg,r⟩
 ·exact .inl h2
 ·exact .inr ⟨g,cap,bu,hv,aG hb hg,r⟩
theorem own.alloc(h:own T base w v xs)(o):own T base (w.alloc o) v xs:=h.below ((aF _ _).alloc (aD _) o)
theorem own.drew(h:own T base w v xs):own T base w.drew v xs:=h.below (aF _ _).drew
theorem own.blk(h:own T base w v xs):∀k,v.ownBlock=some k→base≤k∧k<w.heap.size:=by obtain⟨gg,ho,_⟩:=h;exact ho.lt
end
class Flat (α:Type) extends El α where
 free:∀{w w' B B' x cs},toEl.el w B x cs→toEl.el w' B' x cs
theorem own.grown{α:Type}[Flat α]{T:TypeId}{base w w' v}{xs:List α}{row}(h:own T base w v xs)(hg:w.grownBy w' row)(bj:v.ownBlock=none∨v.ownBlock≠row):own T base w' v xs:=by obtain⟨gg,ho,hl,he⟩:=h;exact⟨gg,ho.kept hg bj,hl,fun k h1 h2=>Flat.free (he k h1 h2)⟩
theorem Vk{α:Type}[Flat α]{P w ops rest o a}{Q:Exit→Act→World→Prop}(mw:o.guard=none)(s x:Operand)(t:TypeId)
 (ho:o.op=.call {callee:=.builtin .append,args:=#[s,x],argTypes:=#[t,t]})
 (base) (e:TypeId) (i:TypeInfo) (z bytes) (ht:P.underlying t=some (.slice e)) (hi:P.info? e=some i) (hz:i.zero=some z)
 (cj:i.size=El.size α) (nP:i.bytes=bytes) (fx:z.cells.size=El.size α) (ct:0<El.size α)
 (v xs) (y:α) (hs:a.eval s=v) (fc:own e base w v xs)
 (ad c cs) (hx:a.eval x=.slice (some ad) 1 c) (kY:El.el w w.heap.size y cs) (eo:∀j u,cs[j]? =some u→w.cell? (ad.add j)=some u)
 (nG:xs.length+1≤maxLen) (cv:(xs.length+1)*bytes≤140737488355328) (du:base≤w.heap.size)
 (h:∀v' w',own e base w' v' (xs++[y])→w.grownBy w' v.ownBlock→(v'.ownBlock=v.ownBlock∨v'.ownBlock=some w.heap.size)→wpList P ops Q rest (a.put o.dst v') w'):wpList P ops Q (o::rest) a w:=by
 refine' ZCg;obtain⟨v',w',mQ,h2,h3,_,h5⟩:=run_append_own_at (P:=P) w base t o.type e i z (El.size α) bytes ht hi hz cj nP fx ct v xs.length gg.flatten jL ad 1 c cs ZFZ eo (El.one kY) nG cv du;refine wpList_plain mw fun K hK=>?_
 refine' ZIO;refine hK _ _ (h v' w' ⟨gg++[cs],ZCG,ZBP,fun k h1 h2=>?_⟩ h3 h5);exact ZDu
theorem Ed{P}(t e:TypeId)(i:TypeInfo)(z)(ht:P.underlying t=some (.slice e))(hi:P.info? e=some i)(hz:i.zero=some z)
 (n) (cv:i.bytes*n≤281474976710656) (nG:n≤9223372036854775807) (w):
 (Instr.makeSlice t (.int .i64 (n:Int)) (.int .i64 (n:Int))).run P w=.ok (.slice (some ⟨w.heap.size,0,none⟩) n n) (w.alloc (.cells (madeCells z.cells (n*i.size)) e)):=by
 have hb:(i.bytes:Int)*(n:Int)≤281474976710656:=by
  have h:((i.bytes*n:Nat):Int)≤281474976710656:=ZA
  rwa [Int.natCast_mul]at h
 have hr:=run_make (P:=P) w t e i z ht hi hz .i64 .i64 n n ZA ZA hb ZA;simp only[bE]at hr;exact hr
def Ck{α:Type}[El α](T:TypeId)(w:World)(g n k:Nat)(xs:List α):Prop:=
 ∃cs:Array Value,w.heap[g]? =some (.cells cs T (0,0))∧cs.size=n*El.size α∧
  ∀i (h:i<xs.length),i<k→∃ecs,El.el w w.heap.size xs[i] ecs∧∀j u,ecs[j]? =some u→cs[i*El.size α+j]? =some u
section
variable{α:Type}[Flat α]{T:TypeId}{w w':World}{g n k:Nat}{xs:List α}
theorem Ck.lt(h:Ck T w g n k xs):g<w.heap.size:=by obtain⟨cs,h1,_⟩:=h;exact(Array.getElem?_eq_some_iff.1 h1).1
theorem Ck.below(h:Ck T w g n k xs)(hb:Below w.heap.size w w'):Ck T w' g n k xs:=by have ab:=h.lt;obtain⟨cs,h1,h2,h3⟩:=h;exact⟨cs,(hb.block g ab).trans h1,h2,fun i hi hk=>by obtain⟨ecs,he,hc⟩:=h3 i hi hk;exact⟨ecs,Flat.free he,hc⟩⟩
theorem Ck.made(w:World)(T:TypeId)(cs n)(hs:cs.size=n*El.size α)(xs:List α):Ck T (w.alloc (.cells cs T)) w.heap.size n 0 xs:=
 ⟨cs,bD w _,hs,fun i _ hk=>absurd hk (aX i)⟩
theorem Ck.cell(h:Ck T w g n k xs){j}(hj:j<n*El.size α):∃u,w.cell? ⟨g,j,none⟩=some u:=by obtain⟨cs,h1,h2,_⟩:=h;exact⟨cs[j],by rw[fH _ _ _ _ _ _ h1];exact Array.getElem?_eq_getElem ZA⟩
theorem Ck.free(h:Ck T w g n k xs)(j):w.frozen? ⟨g,j,none⟩=false:=by obtain⟨cs,h1,_⟩:=h;simp[World.frozen?,h1]
def AmY(w:World)(g o:Nat):List Value→World
 |[]=>w
 |u::us=>AmY (w.setCell ⟨g,o,none⟩ u) g (o+1) us
theorem Ah8(T:TypeId):∀(us:List Value) (w:World) (o:Nat) (cs:Array Value),w.heap[g]? =some (.cells cs T (0,0))→o+us.length≤cs.size→
 ∃ye:Array Value,(AmY w g o us).heap[g]? =some (.cells ye T (0,0))∧ye.size=cs.size∧(∀j u,us[j]? =some u→ye[o+j]? =some u)∧∀i,i<o∨o+us.length≤i→ye[i]? =cs[i]?
 |[],w,o,cs,h,_=>⟨cs,h,rfl,fun j u hu=>by simp at hu,fun _ _=>rfl⟩
 |x::us,w,o,cs,h,hl=>by
  simp only[bZ]at hl;have h1:(w.setCell ⟨g,o,none⟩ x).heap[g]? =some (.cells (cs.setIfInBounds o x) T (0,0)):=ZUV
  obtain⟨ye,a1,a2,a3,a4⟩:=Ah8 T us (w.setCell ⟨g,o,none⟩ x) (o+1) _ h1 ZH;refine⟨ye,a1,by simpa using a2,fun j u hu=>?_,fun i hi=>?_⟩
  ·cases j with
   |zero=> simp only[List.getElem?_cons_zero,jE]at hu;subst hu;rw[a4 _ (.inl ZA),dA,Array.getElem?_setIfInBounds,aP rfl,aP ZA]
   |succ j=>
   have:=a3 j u (by simpa using hu)
   rwa [show o+(j+1)=o+1+j by omega]
  ·rw[a4 i (by simp at hi;omega),Array.getElem?_setIfInBounds,aL (by simp at hi;omega)]
theorem I6(us):∀(w:World) (o:Nat) (B:Nat),B≤g→Below B w (AmY w g o us):=by
 induction us with
 |nil=>intro w o B _;exact aF _ _
 |cons u us ih=>intro w o B hB;exact((aF B w).setCell (p:=⟨g,o,none⟩) hB u).trans (ih _ _ _ hB)
theorem Ck.step(h:Ck T w g n k xs)(hk:k<xs.length)(hn:xs.length≤n){ecs}(he:El.el w w.heap.size xs[k] ecs):Ck T (AmY w g (k*El.size α) ecs) g n (k+1) xs:=by
 obtain⟨cs,h1,h2,h3⟩:=h;have pI:=El.len he;have BS:k*El.size α+El.size α≤n*El.size α:=ZUW
 obtain⟨ye,a1,a2,a3,a4⟩:=Ah8 T ecs w (k*El.size α) cs h1 ZA;refine⟨ye,a1,a2.trans h2,fun i hi IA=>?_⟩;by_cases UP:i<k
 ·obtain⟨es,e1,e2⟩:=h3 i hi UP
  refine⟨es,Flat.free e1,fun j u hu=>?_⟩;have hj:j<El.size α:=by rw[←El.len e1];exact(List.getElem?_eq_some_iff.1 hu).1
  have hm:i*El.size α+El.size α≤k*El.size α:=ZUW
  rw[a4 _ (.inl ZA)];exact e2 j u hu
 ·obtain rfl:i=k:=ZA
  exact⟨ecs,Flat.free he,a3⟩
theorem Ck.own(h:Ck T w g n n xs)(hn:n=xs.length){base}(hb:base≤g)(hm:n≤maxLen):own T base w (.slice (some ⟨g,0,none⟩) n n) xs:=by
 subst hn;obtain⟨cs,h1,h2,h3⟩:=h;have EZ:∀m,m≤xs.length→∃gg:List (List Value),gg.length=m∧(∀i (hi:i<xs.length) (tV:i<gg.length),El.el w w.heap.size xs[i] gg[i])∧cs.toList.take (m*El.size α)=gg.flatten:=by
  intro m
  induction m with
  |zero=>exact fun _=>⟨[],rfl,fun i _ tV=>absurd tV (aX i),ZE⟩
  |succ m ih=>
   intro qS;obtain⟨gg,c1,c2,c3⟩:=ih ZA;obtain⟨ecs,e1,e2⟩:=h3 m ZA ZA;refine⟨gg++[ecs],by simp[c1],fun i hi tV=>?_,?_⟩
   ·by_cases sg:i<m
    ·rw[bN ZA]
     exact c2 i hi ZA
    ·have hie:i=m:=by simp at tV;omega
     subst hie;refine' ZCC;simpa [c1]using e1
   ·have pI:=El.len e1
    rw[bT,←c3,cT,fR,eB,Nat.succ_mul,List.take_add]
    congr 1
    apply iZ;intro j;by_cases hj:j<El.size α
    ·rw[iX,aP hj,List.getElem?_drop]
     have hu:ecs[j]? =some (ecs[j]' ZA):=aR _;rw[hu,←e2 j _ hu,Array.getElem?_toList]
    ·rw[eX ZH,eX ZA]
 obtain⟨gg,c1,c2,c3⟩:=EZ xs.length (aD _);exact⟨gg,⟨by rw[←c3];simp[h2],.inr ⟨g,xs.length,cs,rfl,hb,h1,aD _,hm,h2,c3⟩⟩,c1,c2⟩
end
def dig(c:UInt8):Bool:=48≤c.toNat&&c.toNat≤57
def Ea(l:List UInt8):Bool:=l.all dig
def Ap(s:ByteArray):Bool:=s.size==7&&Ea s.data.toList
theorem Kf(s:ByteArray)(k)(h:k<s.size):Ea (s.data.toList.take (k+1))=(Ea (s.data.toList.take k)&&dig s[k]):=by unfold Ea;rw[aH zG,dS];simp;rfl
theorem Va(s:ByteArray)(k)(h:k<s.size)(hd:dig s[k]=false):Ea s.data.toList=false:=by unfold Ea;exact ZKT
theorem Mk(s w)(hs:s.size≤maxLen):
 Calls aB 220 #[.string s] w fun e w'=>e=.returned (.bool (Ea s.data.toList))∧w=w':=by
 unfold maxLen at hs;go_enter Tryz.func220,Tryz.ntmps220;refine' ZKU
 ·refine' ZC5;by_cases ab:k<s.size
  ·have ku:=Kf s k ab
   have am:=aA (Va s k ab);refine' ZEG;go_wp2
   ·go_ret
    exact⟨Al (am.out ZAg).symm,rfl⟩
   exact ZKV
   ·go_ret
    exact⟨Al (am.out ZAg).symm,rfl⟩
  ·refine' ZEH;refine' ZO;exact⟨Al HD.out.symm,rfl⟩
theorem Cw(s w)(hs:s.size≤maxLen):
 Calls aB 231 #[.string s] w fun e w'=>e=.returned (.bool (Ap s))∧w=w':=by
 go_enter Tryz.func231,Tryz.ntmps231;by_cases h7:s.size=7
 ·go_wp2_with (go_at_call 220;refine(Mk _ _ hs).mono ?_;refine' zN)
  go_ret;exact⟨Al (by simp[Ap,h7]),rfl⟩
 ·refine' ZO;exact⟨Al (by simp[Ap,h7]),rfl⟩
theorem D0(n a b w):Calls aB 167 #[.int .i64 n,.int .i64 a,.int .i64 b] w fun e w'=>e=.returned (.bool (decide (a≤n)&&decide (n≤b)))∧w=w':=by
 go_enter Tryz.func167,Tryz.ntmps167;by_cases h1:a≤n
 ·refine' ZO;exact⟨Al (by simp[h1]),rfl⟩
 ·refine' ZO;exact⟨Al (by rw[aO (p:=a≤n) ZA];rfl),rfl⟩
theorem Ip(s w)(hs:s.size≤maxLen):
 Calls aB 177 #[.string s] w fun e w'=>e=.returned (.bool (Ea s.data.toList&&decide (s.size≤20)))∧w=w':=by
 unfold maxLen at hs;go_enter Tryz.func177,Tryz.ntmps177;refine' ZKU
 ·refine' ZC5;by_cases ab:k<s.size
  ·have ku:=Kf s k ab
   have am:=aA (Va s k ab);refine' ZEG;go_wp2
   ·go_ret
    exact⟨Al (by rw[am.out ZAg];rfl),rfl⟩
   exact ZKV
   ·go_ret
    exact⟨Al (by rw[am.out ZAg];rfl),rfl⟩
  ·refine' ZEH;refine' ZO;exact⟨Al (by rw[HD.out,fC];congr 1;exact propext ZA),rfl⟩
theorem Cm(s w)(hs:s.size≤maxLen):
 Calls aB 94 #[.string s] w fun e w'=>e=.returned (.bool (Ap s))∧w=w':=by
 go_enter Tryz.func94,Tryz.ntmps94;cases hd:(Ea s.data.toList&&decide (s.size≤20))
 ·refine' ZEI;simp only[Ap,eH,eO]at this⊢;rcases this with h|h
  ·simp[h]
  ·have h7:s.size≠7:=ZA
   simp[h7]
 ·refine' ZEI;refine' ZGd;refine' ZAU;simp[Ap,this.1]
  try omega
structure Ltr where
 id:Int
 code:ByteArray
def Bj(n:Int):Prop:= -9223372036854775808≤n∧n≤9223372036854775807
def Ltr.ok(x:Ltr):Prop:=Bj x.id∧x.code.size≤maxLen
def Ltr.cells(x:Ltr):List Value:=[.int .i64 x.id,.string x.code]
instance elLtr:El Ltr where
 size:=2
 el _ _ x cs:=x.ok∧cs=x.cells
 len h:=ZDM
 more h _:=h
 keep h _:=h
 one h:=by rw[h.2];intro u hu;simp[Ltr.cells]at hu;rcases hu with rfl|rfl<;>rfl
instance flatLtr:Flat Ltr where
 free h:=h
theorem rdA.ltr{w B A}{xs:List Ltr}(h:rdA w B A xs)(k)(hk:k<xs.length):
 ∃b o,A=some ⟨b,o,none⟩∧b<B∧(xs[k]).ok∧w.cell? ⟨b,o+k*2,none⟩=some (.int .i64 (xs[k]).id)∧w.cell? ⟨b,o+k*2+1,none⟩=some (.string (xs[k]).code):=by refine' ZIC;exact⟨b,o,hA,hb,ag,by simpa [Ltr.cells,El.size]using hc 0 _ rfl,by simpa [Ltr.cells,El.size,jH]using hc 1 _ rfl⟩
def Ah0(xs:List Ltr)(k:Nat):Bool:=
 match xs[k]? with
 |none=>false
 |some x=>decide (1≤x.id)&&decide (x.id≤9999)&&Ap x.code&&(xs.take k).all (fun y=>y.id != x.id)
def okB(xs:List Ltr):Bool:=decide (xs.length≤60)&&(List.range xs.length).all (Ah0 xs)
theorem AtL{xs k}(hk:k<xs.length)(h:Ah0 xs k=false):okB xs=false:=by unfold okB;exact ZDV
theorem ApY{xs}(kl:xs.length≤60)(h:∀j,j<xs.length→Ah0 xs j=true):okB xs=true:=by unfold okB;simp[kl];exact h
theorem AaP{xs k}(hk:k<xs.length):Ah0 xs k=(decide (1≤xs[k].id)&&decide (xs[k].id≤9999)&&Ap xs[k].code&&(xs.take k).all (fun y=>y.id != xs[k].id)):=by unfold Ah0;exact ZCK
theorem Hv{α:Type}{p:α→Bool}(xs:List α)(m)(h:m<xs.length):(xs.take (m+1)).all p=((xs.take m).all p&&p xs[m]):=by rw[aH h,dS];simp
theorem Od{α:Type}{p:α→Bool}(xs:List α)(m k)(h:m<xs.length)(hk:m<k)(hp:p xs[m]=false):(xs.take k).all p=false:=by rw[List.all_eq_false];refine⟨xs[m],?_,by simp[hp]⟩;rw[dR];exact⟨m,ZA,rfl⟩
theorem Ep{xs:List Ltr}:okB xs=true↔xs.length≤60∧∀k (h:k<xs.length),1≤xs[k].id∧xs[k].id≤9999∧Ap xs[k].code=true∧∀j (hj:j<k),xs[j].id≠xs[k].id:=by
 unfold okB;refine' ZHG;refine and_congr Iff.rfl ⟨fun h k hk=>?_,fun h k hk=>?_⟩
 ·have:=h k zM
  rw[AaP hk]at this;refine' ZGd;refine⟨this.1.1.1,this.1.1.2,this.1.2,fun j hj=>?_⟩;have hh:=List.all_eq_true.1 this.2 xs[j] ZCF;simpa using hh
 ·have fu:k<xs.length:=zM
  obtain⟨h1,h2,h3,h4⟩:=h k fu;rw[AaP fu];simp only[aN,bB];refine⟨⟨⟨h1,h2⟩,h3⟩,List.all_eq_true.2 fun y hy=>?_⟩;rw[dR]at hy;obtain⟨j,hj,rfl⟩:=hy;simpa using h4 j ZA
theorem Cn(v xs w)(hv:rd w w.heap.size v xs):
 Calls aB 194 #[v] w fun e w'=>e=.returned (.bool (okB xs))∧Below w.heap.size w w':=by
 refine' ZA3;go_enter Tryz.func194,Tryz.ntmps194;by_cases kl:60<xs.length
 ·refine' ZO;exact⟨Al (by unfold okB;exact ZH),aF _ _⟩
 ·go_wp2
  go_loopw[12] (fun i wr=>∃k:Nat,k≤xs.length∧i=.int .i64 k∧Below w.heap.size w wr∧Hid (∀j,j<k→Ah0 xs j=true)) (fun i _=>xs.length - (intOf i).toNat)
  case atStart=>exact ZKW
  case round=>
   obtain⟨k,hk,rfl,au,HG⟩:=hrel;refine' ZC6;by_cases ab:k<xs.length
   ·refine' ZKX;have HX:Hid (∀j (h:j<k),xs[j]=xs[j]' ZA):=fun _ _=>rfl
    generalize hx:xs[k]=x at *;have HXK:=aA hx;clear hx;refine' ZEJ;clear c1 c2;by_cases h1:x.id<1
    exact ZCB;by_cases h2:9999<x.id
    exact ZCB;cases oe:Ap x.code
    ·refine' ZA4;go_wp2_with (go_at_call 231;refine(Cw _ _ o3).mono ?_;refine' ZA5)
     go_ret;exact⟨Al (am.out (by rw[hG.out,gj.out];simp)).symm,au.alloc ct _⟩
    ·refine' ZA4;go_wp2_with (go_at_call 231;refine(Cw _ _ o3).mono ?_;refine' ZA5)
     obtain⟨wo,ie⟩:∃wo:World,wo=w1.alloc (aC #[bC aI x.id,aK x.code] 119):=⟨_,rfl⟩;have g1:wo.cell? ⟨w1.heap.size,0,none⟩=some (.int .i64 x.id):=by subst ie;simp[go_sem]
     refine' ZKY;go_loopw[35] (fun i wi=>∃m:Nat,m≤k∧i=.int .i64 m∧Below wo.heap.size wo wi∧Hid ((xs.take m).all (fun y=>y.id != x.id)=true)) (fun i _=>k - (intOf i).toNat)
     case atStart=>exact⟨0,aM _,rfl,aF _ _,rfl⟩
     case round=>
      refine' ZKZ;have g1':wr.cell? ⟨w1.heap.size,0,none⟩=some (.int .i64 x.id):=(rM.cell (p:=⟨w1.heap.size,0,none⟩) CF).trans g1;clear g1;by_cases ez:m<k
      ·obtain⟨b',o',hA,_,⟨⟨p1,p2⟩,p3⟩,d1,d2⟩:=HR.out.ltr m ZA
       refine' ZKa;have d2':wr.cell? ⟨b,o+m*2+1,none⟩=some (.string y.code):=(nf.cell (p:=⟨b,o+m*2+1,none⟩) hb).trans d2;exact ZKb
      ·refine' ZEK;go_roundw
       case rel=>
        refine⟨k+1,ZA,ZJ,nf,fun j hj=>?_⟩;refine' ZBe
        ·refine' ZAE;rw[hG.out,gj.out,←HE.out,HA.out];exact ZH
       case measure=>exact ZK
   ·have pC:k=xs.length:=ZA
    have HE:=aA pC;clear pC;refine' ZO;exact⟨Al (ApY ZA ZAF).symm,au⟩
theorem C6(v xs w)(hv:rd w w.heap.size v xs):
 Calls aB 69 #[v] w fun e w'=>e=.returned (.bool (okB xs))∧Below w.heap.size w w':=by
 refine' ZA3;go_enter Tryz.func69,Tryz.ntmps69;go_wp2
 go_loopw[3] (fun i wr=>∃k:Nat,k≤xs.length∧i=.int .i64 k∧Below w.heap.size w wr∧Hid (∀j,j<k→Ah0 xs j=true)) (fun i _=>xs.length - (intOf i).toNat)
 case atStart=>exact ZKW
 case round=>
  obtain⟨k,hk,rfl,au,HG⟩:=hrel;refine' ZC6;by_cases ab:k<xs.length
  ·refine' ZKX;generalize hx:xs[k]=x at *;have HXK:=aA hx;clear hx;refine' ZEJ;cases oe:Ap x.code
   ·refine' ZA4;go_wp2_with (go_at_call 94;refine(Cm _ _ o3).mono ?_;refine' ZA5)
    go_ret;exact⟨Al (am.out (by rw[hG.out,gj.out];simp)).symm,au⟩
   refine' ZA4;cases hid:(decide (1≤x.id)&&decide (x.id≤9999))
   ·refine' ZKc;go_ret;exact⟨Al (am.out (by rw[hG.out,uz.out];simp)).symm,au⟩
   refine' ZKc;go_loopw[4] (fun i wr=>∃m:Nat,m≤k∧i=.int .i64 m∧Below w.heap.size w wr∧Hid ((xs.take m).all (fun y=>y.id != x.id)=true)) (fun i _=>k - (intOf i).toNat)
   case atStart=>exact⟨0,aM _,rfl,au,rfl⟩
   case round=>
    obtain⟨m,ly,rfl,nf,HA⟩:=hrel;clear oG nU;have oG:wr.cell? ⟨b,o+k*2,none⟩=some (.int .i64 x.id):=(nf.cell (p:=⟨b,o+k*2,none⟩) hb).trans c1;by_cases ez:m<k
    ·obtain⟨b',o',hA,_,_,d1,d2⟩:=HR.out.ltr m ZA
     refine' ZKa;clear d1 d2 c1 c2;have qS:(m:Int)<(xs.length:Int):=ZA
     have fy:(k:Int)<(xs.length:Int):=ZA
     by_cases kg:y.id=x.id
     ·refine' ZGe;refine' YP;refine' ZO;exact⟨Al (am.out ZKd).symm,Ba nf _⟩
     ·refine' ZGf;go_quiet (fail)
      go_wp2
      go_roundw
      case rel=>exact⟨m+1,ZA,ZJ,Ba nf _,ZKe⟩
      case measure=>exact ZK
    ·refine' ZEK;go_roundw
     case rel=>
      refine⟨k+1,ZA,ZJ,nf,fun j hj=>?_⟩;refine' ZBe
      ·refine' ZAE;rw[hG.out,gj.out,←HE.out,HA.out,uz.out];rfl
     case measure=>exact ZK
  ·have pC:k=xs.length:=ZA
   have HE:=aA pC;clear pC;refine' ZO;exact⟨Al (by
    by_cases kl:xs.length≤60
    ·rw[ApY kl ZAF,aJ ZA]
    ·rw[aO ZA];unfold okB;rw[aO kl];rfl),au⟩
instance elStr:El ByteArray where
 size:=1
 el _ _ x cs:=x.size≤maxLen∧cs=[.string x]
 len h:=ZDM
 more h _:=h
 keep h _:=h
 one h:=ZLj
instance flatStr:Flat ByteArray where
 free h:=h
theorem rdA.str{w B A xs}(h:rdA w B A xs)(k)(hk:k<xs.length):
 ∃b o,A=some ⟨b,o,none⟩∧b<B∧(xs[k]).size≤maxLen∧w.cell? ⟨b,o+k,none⟩=some (.string xs[k]):=ZLk
structure Mis where
 id:Int
 bin:Int
def Mis.ok(x:Mis):Prop:=Bj x.id∧Bj x.bin
def Mis.cells(x:Mis):List Value:=[.int .i64 x.id,.int .i64 x.bin]
instance elMis:El Mis where
 size:=2
 el _ _ x cs:=x.ok∧cs=x.cells
 len h:=ZDM
 more h _:=h
 keep h _:=h
 one h:=by rw[h.2];intro u hu;simp[Mis.cells]at hu;rcases hu with rfl|rfl<;>rfl
instance flatMis:Flat Mis where
 free h:=h
theorem rdA.mis{w B A}{xs:List Mis}(h:rdA w B A xs)(k)(hk:k<xs.length):
 ∃b o,A=some ⟨b,o,none⟩∧b<B∧(xs[k]).ok∧w.cell? ⟨b,o+k*2,none⟩=some (.int .i64 (xs[k]).id)∧w.cell? ⟨b,o+k*2+1,none⟩=some (.int .i64 (xs[k]).bin):=by refine' ZIC;exact⟨b,o,hA,hb,ag,by simpa [Mis.cells,El.size]using hc 0 _ rfl,by simpa [Mis.cells,El.size,jH]using hc 1 _ rfl⟩
structure Fwd where
 src:ByteArray
 dst:ByteArray
def Fwd.ok(x:Fwd):Prop:=x.src.size≤maxLen∧x.dst.size≤maxLen
def Fwd.cells(x:Fwd):List Value:=[.string x.src,.string x.dst]
instance elFwd:El Fwd where
 size:=2
 el _ _ x cs:=x.ok∧cs=x.cells
 len h:=ZDM
 more h _:=h
 keep h _:=h
 one h:=by rw[h.2];intro u hu;simp[Fwd.cells]at hu;rcases hu with rfl|rfl<;>rfl
instance flatFwd:Flat Fwd where
 free h:=h
theorem rdA.fwd{w B A}{xs:List Fwd}(h:rdA w B A xs)(k)(hk:k<xs.length):
 ∃b o,A=some ⟨b,o,none⟩∧b<B∧(xs[k]).ok∧w.cell? ⟨b,o+k*2,none⟩=some (.string (xs[k]).src)∧w.cell? ⟨b,o+k*2+1,none⟩=some (.string (xs[k]).dst):=by refine' ZIC;exact⟨b,o,hA,hb,ag,by simpa [Fwd.cells,El.size]using hc 0 _ rfl,by simpa [Fwd.cells,El.size,jH]using hc 1 _ rfl⟩
structure Pln where
 bins:Int
 passes:Int
 order:List ByteArray
def rdP(w:World)(B:Nat)(v:Value)(p:Pln):Prop:=
 ∃vo,v=.agg #[.int .i64 p.bins,.int .i64 p.passes,vo]∧Bj p.bins∧Bj p.passes∧rd w B vo p.order
theorem rdP.keep{w w' B v p}(h:rdP w B v p)(hk:∀q:Addr,q.block<B→w'.cell? q=w.cell? q):rdP w' B v p:=by obtain⟨vo,h1,h2,h3,h4⟩:=h;exact⟨vo,h1,h2,h3,h4.keep hk⟩
theorem rdP.below{w w' B v p}(h:rdP w B v p)(hb:Below B w w'):rdP w' B v p:=h.keep fun _ hp=>hb.cell hp
theorem rdP.more{w B B' v p}(h:rdP w B v p)(hB:B≤B'):rdP w B' v p:=by obtain⟨vo,h1,h2,h3,h4⟩:=h;exact⟨vo,h1,h2,h3,h4.more hB⟩
theorem rdP.on{w w' v p}(h:rdP w w.heap.size v p)(hb:Below w.heap.size w w'):rdP w' w'.heap.size v p:=(h.below hb).more hb.size
def Ad9(cs:List ByteArray)(k:Nat):Bool:=
 match cs[k]? with
 |none=>false
 |some c=>Ap c&&(cs.take k).all (fun d=> !sEq d c)
def La(cs:List ByteArray):Bool:=(List.range cs.length).all (Ad9 cs)
theorem AdD{cs k}(hk:k<cs.length)(h:Ad9 cs k=false):La cs=false:=
 List.all_eq_false.2 ⟨k,zM,by simp[h]⟩
theorem Yt{cs}(h:∀j,j<cs.length→Ad9 cs j=true):La cs=true:=
 List.all_eq_true.2 fun k hk=>h k zM
theorem U9{cs k}(hk:k<cs.length):Ad9 cs k=(Ap cs[k]&&(cs.take k).all (fun d=> !sEq d cs[k])):=by unfold Ad9;exact ZCK
def Ky(b:Int):Nat→Int
 |0=>1
 |n+1=>Ky b n*b
def Ms(b p:Int):Bool:=decide (2≤b)&&decide (b≤16)&&(decide (1≤p)&&decide (p≤4))
def Bq(p:Pln):Bool:=
 Ms p.bins p.passes&&(decide (1≤p.order.length)&&decide (p.order.length≤60))&&decide ((p.order.length:Int)≤Ky p.bins p.passes.toNat)&&La p.order
theorem Uy{b p}:Ms b p=true↔2≤b∧b≤16∧1≤p∧p≤4:=by unfold Ms;simp only[aN,bB];omega
theorem Px{b}(h1:2≤b)(h2:b≤16):∀n:Nat,n≤4→1≤Ky b n∧Ky b n≤65536:=by
 have h0:Ky b 0=1:=rfl;have e1:Ky b 1=Ky b 0*b:=rfl;have e2:Ky b 2=Ky b 1*b:=rfl;have e3:Ky b 3=Ky b 2*b:=rfl;have e4:Ky b 4=Ky b 3*b:=rfl;have st:∀x y M:Int,1≤x→x≤M→y=x*b→1≤y∧y≤M*16:=fun x y M hx hM hy=>by subst hy;have l1:1*2≤x*b:=Int.mul_le_mul hx h1 ZA ZA;have l2:x*b≤M*16:=Int.mul_le_mul hM h2 ZA ZA;omega
 have s1:=st _ _ 1 ZA ZA e1;have s2:=st _ _ (1*16) s1.1 s1.2 e2;have s3:=st _ _ (1*16*16) s2.1 s2.2 e3;have s4:=st _ _ (1*16*16*16) s3.1 s3.2 e4;intro n hn
 match n,hn with
 |0,_=>omega
 |1,_=>omega
 |2,_=>omega
 |3,_=>omega
 |4,_=>omega
def rk:List ByteArray→ByteArray→Nat
 |[],_=>0
 |d::ds,c=>if sEq d c then 0 else rk ds c+1
theorem At7(d ds c):rk (d::ds) c=if sEq d c then 0 else rk ds c+1:=rfl
theorem Ay1:∀(cs:List ByteArray) (c:ByteArray),rk cs c≤cs.length
 |[],_=>aD _
 |d::ds,c=>by
  unfold rk;split;·exact ZZ
  ·have:=Ay1 ds c;exact ZH
theorem V1:∀(cs:List ByteArray) (c:ByteArray) (k:Nat) (h:k<cs.length),k<rk cs c→sEq cs[k] c=false
 |[],_,k,h,_=>absurd h (aX k)
 |d::ds,c,0,_,hk=>by
  unfold rk at hk
  split at hk
  ·omega
  ·rename_i h
   exact zG
 |d::ds,c,k+1,h,hk=>by
  unfold rk at hk
  split at hk
  ·omega
  ·exact V1 ds c k zG ZA
theorem AsU:∀(cs:List ByteArray) (c:ByteArray) (h:rk cs c<cs.length),sEq cs[rk cs c] c=true
 |[],_,h=>absurd h (aX _)
 |d::ds,c,h=>by
  by_cases hd:sEq d c=true
  ·have e:rk (d::ds) c=0:=by rw[At7,aP hd]
   simp only[e];exact hd
  ·have e:rk (d::ds) c=rk ds c+1:=by rw[At7,aL hd]
   have h':rk ds c<ds.length:=by rw[e]at h;exact zG
   simp only[e];exact AsU ds c h'
theorem Ay4{cs:List ByteArray}{c:ByteArray}{k:Nat}(h:k<cs.length)(h1:∀j (hj:j<k),sEq cs[j] c=false)(h2:sEq cs[k] c=true):rk cs c=k:=by
 rcases eP (rk cs c) k with ab|qi|FM
 ·have:=h1 _ ab
  rw[AsU cs c ZA]at this;cases this
 ·exact qi
 ·have:=V1 cs c k h FM
  rw[h2]at this;cases this
theorem AeN{cs c}(h:∀j (hj:j<cs.length),sEq cs[j] c=false):rk cs c=cs.length:=by
 rcases Nat.lt_or_eq_of_le (Ay1 cs c)with ab|qi
 ·have:=h _ ab
  rw[AsU cs c ab]at this;cases this
 ·exact qi
def rkI(cs:List ByteArray)(c:ByteArray):Int:=if rk cs c<cs.length then(rk cs c:Int)else -1
theorem Yx{cs c}(h:rk cs c<cs.length):rkI cs c=(rk cs c:Int):=by unfold rkI;rw[aP h]
theorem AaV{cs c}(h:¬rk cs c<cs.length):rkI cs c= -1:=by unfold rkI;rw[aL h]
theorem Sc(cs c): -1≤rkI cs c∧rkI cs c<cs.length:=by
 unfold rkI
 split<;>omega
def Dm(p:Pln)(c:ByteArray)(QT:Nat):Int:=if rkI p.order c<0 then -1 else rkI p.order c/Ky p.bins QT%p.bins
def Zh(bins:Int)(ms:List Mis)(k:Nat):Bool:=
 match ms[k]? with
 |none=>false
 |some x=>(decide (1≤x.id)&&decide (x.id≤9999))&&(decide (0≤x.bin)&&decide (x.bin<bins))&&(ms.take k).all (fun y=>y.id != x.id)
def Jt(p:Pln)(ms:List Mis):Bool:=Bq p&&decide (ms.length≤60)&&(List.range ms.length).all (Zh p.bins ms)
theorem AkG{p ms k}(hk:k<ms.length)(h:Zh p.bins ms k=false):Jt p ms=false:=by unfold Jt;exact ZDV
theorem AgI{p ms}(hp:Bq p=true)(kl:ms.length≤60)(h:∀j,j<ms.length→Zh p.bins ms j=true):Jt p ms=true:=by unfold Jt;rw[hp,aJ kl];exact ZHF
theorem X8{p ms}(h:Bq p=false):Jt p ms=false:=by unfold Jt;rw[h];rfl
theorem AjG{p ms}(h:¬ms.length≤60):Jt p ms=false:=by unfold Jt;rw[aO h];simp
theorem Zn{bins ms k}(hk:k<ms.length):Zh bins ms k=((decide (1≤ms[k].id)&&decide (ms[k].id≤9999))&&(decide (0≤ms[k].bin)&&decide (ms[k].bin<bins))&&(ms.take k).all (fun y=>y.id != ms[k].id)):=by unfold Zh;exact ZCK
theorem De{p}:Bq p=true↔(2≤p.bins∧p.bins≤16∧1≤p.passes∧p.passes≤4)∧(1≤p.order.length∧p.order.length≤60)∧(p.order.length:Int)≤Ky p.bins p.passes.toNat∧La p.order=true:=by
 unfold Bq;simp only[aN,bB,Uy];constructor
 ·rintro⟨⟨⟨h1,h2⟩,h3⟩,h4⟩;exact⟨h1,h2,h3,h4⟩
 ·rintro⟨h1,h2,h3,h4⟩;exact⟨⟨⟨h1,h2⟩,h3⟩,h4⟩
def Ej(ms:List Mis)(x:Ltr)(b:Int):Int:=ms.foldl (fun b m=>if m.id=x.id then m.bin else b) b
def Bm(f:Ltr→Int)(n:Nat)(xs:List Ltr):List (List Ltr):=(List.range n).map fun(k:Nat)=>xs.filter fun x=>f x==(k:Int)
def Bn(f:Ltr→Int)(xs:List Ltr):List Ltr:=xs.filter fun x=>decide (f x<0)
theorem Hz(f:Ltr→Int)(n xs):(Bm f n xs).length=n:=by simp[Bm]
theorem Gj(f:Ltr→Int)(n xs k)(h:k<(Bm f n xs).length):(Bm f n xs)[k]=xs.filter fun x=>f x==(k:Int):=by simp[Bm]
theorem M6(f:Ltr→Int)(n):Bm f n []=List.replicate n []:=by
 apply dI
 ·simp[Bm]
 ·intro i h1 h2;simp[Bm]
theorem Ls{f:Ltr→Int}{n}{xs:List Ltr}{k d:Nat}(h:k<xs.length)(hf:f xs[k]=(d:Int))(hd:d<(Bm f n (xs.take k)).length):
 Bm f n (xs.take (k+1))=(Bm f n (xs.take k)).set d ((Bm f n (xs.take k))[d]++[xs[k]]):=by
 apply dI
 ·simp[Bm]
 ·intro i h1 h2
  simp only[iO,Gj];refine' ZG6;by_cases hi:d=i
  ·subst hi
   rw[aP rfl];simp[hf]
  ·rw[aL hi]
   have:(f xs[k]==(i:Int))=false:=beq_eq_false_iff_ne.2 ZA;simp[this]
theorem Qa{f:Ltr→Int}{n}{xs:List Ltr}{k}(h:k<xs.length)(hf:f xs[k]<0):Bm f n (xs.take (k+1))=Bm f n (xs.take k):=by
 apply dI
 ·simp[Bm]
 ·intro i h1 h2
  rw[Gj,Gj,aH h,gU];have:(f xs[k]==(i:Int))=false:=beq_eq_false_iff_ne.2 ZA;simp[this]
theorem L7{f:Ltr→Int}{xs:List Ltr}{k}(h:k<xs.length)(hf:f xs[k]<0):Bn f (xs.take (k+1))=Bn f (xs.take k)++[xs[k]]:=by unfold Bn;exact zn
theorem Lz{f:Ltr→Int}{xs:List Ltr}{k}(h:k<xs.length)(hf:0≤f xs[k]):Bn f (xs.take (k+1))=Bn f (xs.take k):=by unfold Bn;refine' ZG6;exact ZH
theorem E4{α:Type}(p:α→Bool)(xs:List α)(k):((xs.take k).filter p).length≤k:=by have h1:=bJ p (xs.take k);have h2:=List.length_take_le k xs;omega
theorem ApL{p c k}(h:rkI p.order c<0):Dm p c k= -1:=by unfold Dm;rw[aP h]
theorem AoZ{p c k}(h:¬rkI p.order c<0):Dm p c k=rkI p.order c/Ky p.bins k%p.bins:=by unfold Dm;rw[aL h]
theorem M2(p c k)(hb:2≤p.bins): -1≤Dm p c k∧Dm p c k<p.bins:=by
 unfold Dm
 split
 ·omega
 ·have h1:=Int.emod_nonneg (rkI p.order c/Ky p.bins k) (show p.bins≠0 by omega)
  have h2:=Int.emod_lt_of_pos (rkI p.order c/Ky p.bins k) (show 0<p.bins by omega);omega
theorem Zc{ms n}(h:∀m∈ms,0≤m.bin∧m.bin<n)(x):∀b, -1≤b∧b<n→ -1≤Ej ms x b∧Ej ms x b<n:=by
 unfold Ej
 induction ms with
 |nil=>intro b hb;exact hb
 |cons m ms ih=>
  intro b hb;simp only[List.foldl_cons];refine ih (fun m' ly=>h m' (bK _ ly)) _ ?_
  split
  ·have:=h m (fU ..);omega
  ·exact hb
theorem AoD{ms:List Mis}{k}(h:k<ms.length)(x b):Ej (ms.take (k+1)) x b=if ms[k].id=x.id then ms[k].bin else Ej (ms.take k) x b:=by unfold Ej;exact ZEZ
def Kr(p:Pln)(k:Nat)(xs:List Ltr):List Ltr:=(Bm (fun x=>Dm p x.code k) p.bins.toNat xs).flatten
def Cd(p:Pln):Nat→Nat→List Ltr→List Ltr
 |_,0,xs=>xs
 |k,n+1,xs=>Cd p (k+1) n (Kr p k xs)
theorem Mc(p):∀(n k:Nat) (xs:List Ltr),Cd p k (n+1) xs=Kr p (k+n) (Cd p k n xs)
 |0,k,xs=>rfl
 |n+1,k,xs=>by show Cd p (k+1) (n+1) (Kr p k xs)=Kr p (k+(n+1)) (Cd p (k+1) n (Kr p k xs));rw[Mc p n (k+1),show k+1+n=k+(n+1) by omega]
def Q3(p:Pln):Nat→Nat→List Ltr→List Ltr
 |_,0,_=>[]
 |k,n+1,xs=>Bn (fun x=>Dm p x.code k) xs++Q3 p (k+1) n (Kr p k xs)
theorem Al0(p):∀(n k:Nat) (xs:List Ltr),Q3 p k (n+1) xs=Q3 p k n xs++Bn (fun x=>Dm p x.code (k+n)) (Cd p k n xs)
 |0,k,xs=>by show Bn _ xs++[]=[]++Bn _ xs;simp
 |n+1,k,xs=>by show Bn _ xs++Q3 p (k+1) (n+1) (Kr p k xs)=(Bn _ xs++Q3 p (k+1) n (Kr p k xs))++Bn (fun x=>Dm p x.code (k+(n+1))) (Cd p (k+1) n (Kr p k xs));rw[Al0 p n (k+1),show k+1+n=k+(n+1) by omega,bY]
theorem AhV{f:Ltr→Int}{n xs x}:x∈(Bm f n xs).flatten↔x∈xs∧0≤f x∧f x<n:=by
 simp only[Bm,List.mem_flatten,List.mem_map,List.mem_range];constructor
 ·rintro⟨l,⟨k,hk,rfl⟩,hx⟩
  simp only[List.mem_filter,dE]at hx;exact⟨hx.1,ZA,ZA⟩
 ·rintro⟨h1,h2,h3⟩
  obtain⟨k,hk⟩:=aQ h2;exact⟨_,⟨k,ZA,rfl⟩,by simp[h1,hk]⟩
theorem Vz{p c k}(hb:2≤p.bins):Dm p c k<0↔rkI p.order c<0:=by
 unfold Dm
 split
 ·rename_i h;simp[h]
 ·rename_i h
  have h1:=Int.emod_nonneg (rkI p.order c/Ky p.bins k) (show p.bins≠0 by omega);omega
theorem Ez{f:Ltr→Int}{n}(xs):(Bm f n xs).flatten.length≤xs.length:=by
 induction xs with
 |nil=>rw[M6];simp
 |cons x xs ih=>
  have jm:∀m,((List.range m).map fun(k:Nat)=>((x::xs).filter fun y=>f y==(k:Int))).flatten.length=((List.range m).map fun(k:Nat)=>(xs.filter fun y=>f y==(k:Int))).flatten.length+(if 0≤f x∧f x<m then 1 else 0):=fun m=>by
   induction m with
   |zero=>simp
   |succ m ihm=>
    rw[fK,cQ,cQ,bT,bT,aS,aS,ihm];simp only[cD,gC,cT,fR,eB,gO];by_cases h:f x=(m:Int)
    ·simp only[h,beq_self_eq_true,if_true,bZ]
     refine' ZG7;omega
    ·have hb:(f x==(m:Int))=false:=beq_eq_false_iff_ne.2 h
     simp only[hb,iW,if_false];by_cases h2:0≤f x∧f x<m
     ·rw[aP h2,aP ZA];omega
     ·rw[aL h2,aL ZA];omega
  unfold Bm at *;rw[jm n,bZ]
  split<;>omega
theorem AjY(p k xs):(Kr p k xs).length≤xs.length:=Ez xs
theorem Lr(p):∀(n k:Nat) (xs:List Ltr),(Cd p k n xs).length≤xs.length
 |0,_,_=>aD _
 |n+1,k,xs=>aG (Lr p n (k+1) _) (AjY p k xs)
theorem As4{p}(hb:2≤p.bins)(j k xs):Bn (fun x=>Dm p x.code j) (Kr p k xs)=[]:=by unfold Bn;rw[List.filter_eq_nil_iff];intro x hx;have h:=(AhV.1 hx).2.1;have h2:=(Vz (p:=p) (c:=x.code) (k:=j) hb);have h3:=(Vz (p:=p) (c:=x.code) (k:=k) hb);simp only[dQ];intro h4;have:=h3.2 (h2.1 h4);omega
theorem AqU{p}(hb:2≤p.bins)(k n xs):Q3 p k (n+1) xs=Bn (fun x=>Dm p x.code k) xs:=by
 have h:∀(n j k:Nat) (ys:List Ltr),Q3 p j n (Kr p k ys)=[]:=by
  intro n
  induction n with
  |zero=>intro j k ys;rfl
  |succ n ih=> intro j k ys;show Bn _ (Kr p k ys)++Q3 p (j+1) n (Kr p j (Kr p k ys))=[];rw[As4 hb,ih];rfl
 show Bn _ xs++Q3 p (k+1) n (Kr p k xs)=_;rw[h,eB]
def Ku(p:Pln)(k:Int):Bool:=Bq p&&(decide (0≤k)&&decide (k<p.passes))
theorem Jz{p k}:Ku p k=true↔Bq p=true∧0≤k∧k<p.passes:=by unfold Ku;simp only[aN,bB]
theorem Dz{p}(h:Bq p=true):2≤p.bins∧p.bins≤16∧1≤p.passes∧p.passes≤4∧p.order.length≤60:=by unfold Bq Ms at h;refine' YS;omega
theorem U2{α:Type}{n}:∀{l:List (List α)} (_:∀x∈l,x.length=n) {k j:Nat} (hk:k<l.length) (_:j<n) (u:α),l.flatten.set (k*n+j) u=(l.set k ((l[k]).set j u)).flatten
 |[],_,k,j,hk,_,_=>absurd hk (aX k)
 |x::l,h,0,j,_,hj,u=>by refine' ZGX;simp only[fD,bW,cT,dL,List.set_cons_zero];rw[List.set_append_left _ _ ZA]
 |x::l,h,k+1,j,hk,hj,u=>by
  refine' ZGX;simp only[cT,gV,List.set_cons_succ];rw[List.set_append_right _ _ (by rw[hx,eU];omega),hx,show(k+1)*n+j - n=k*n+j by rw[eU];omega,
   U2 (fun y hy=>h y (bK _ hy)) zM hj u]
section
variable{α:Type}[Flat α]{T:TypeId}{base:Nat}{w w':World}{xs:List α}{g n c:Nat}
theorem own.setCell(h:own T base w (.slice (some ⟨g,0,none⟩) n c) xs){k j}(hk:k<xs.length)(hj:j<El.size α)(u)(y:α)
 (he:∀ecs,El.el w w.heap.size xs[k] ecs→El.el w w.heap.size y (ecs.set j u)):
 own T base (w.setCell ⟨g,k*El.size α+j,none⟩ u) (.slice (some ⟨g,0,none⟩) n c) (xs.set k y):=by
 refine' ZGY;have ax:∀x∈gg,x.length=El.size α:=fun x hx=>by refine' ZEa;exact El.len (h4 i ZA hi)
 refine⟨gg.set k ((gg[k]' ZA).set j u),⟨?_,.inr ?_⟩,by simp[h3],fun i hi tV=>?_⟩
 ·rw[←U2 ax ZA hj u,eT,eT]
  exact h1
 ·refine' ZJ6
  ·refine' ZJ7;subst e1 e2 e3;refine⟨g,c,bu.setIfInBounds (k*El.size α+j) u,ZE,hg,by simp[World.setCell,Array.getElem?_modify,hh],by simpa using hc,hm,by simpa using hs,?_⟩;rw[←U2 ax ZA hj u,←ht,eT,Array.toList_setIfInBounds];rw[List.take_set]
 ·by_cases IA:i=k
  ·subst IA
   refine' ZCf;exact Flat.free (he _ (h4 i ZDt ZA))
  ·refine' ZIN;exact Flat.free (h4 i ZDt (by simpa using tV))
theorem own.cellAt(h:own T base w (.slice (some ⟨g,0,none⟩) n c) xs){j}(hj:j<xs.length*El.size α):∃u,w.cell? ⟨g,j,none⟩=some u:=by
 refine' ZGY;refine' ZJ6
 ·refine' ZJ7;subst e1;have pI:xs.length*El.size α≤cap*El.size α:=iK _ hc;exact⟨bu[j]' ZA,by rw[fH _ _ _ _ _ _ hh];exact Array.getElem?_eq_getElem _⟩
theorem own.freeAt(h:own T base w (.slice (some ⟨g,0,none⟩) n c) xs)(j):w.frozen? ⟨g,j,none⟩=false:=by
 refine' ZGY;refine' ZJ6
 ·refine' ZJ7;subst e1;simp[World.frozen?,hh]
end
theorem Vo{a w w':World}{row}(h:a.grownBy w row)(hb:Below w.heap.size w w'):a.grownBy w' row:=
 ⟨hb.os.trans h.os,hb.tape.trans h.tape,hb.output.trans h.output,aG h.size hb.size,fun i hi bj=>(hb.block i (bU hi h.size)).trans (h.block i hi bj)⟩
theorem Gc{a w:World}{g}(h:a.grownBy w (some g)){p}(hp:p.block=g∨a.heap.size≤p.block)(u):a.grownBy (w.setCell p u) (some g):=
 ⟨h.os,h.tape,h.output,by simpa [World.setCell]using h.size,fun i hi bj=>(bP w p u i (by
   rintro rfl;rcases hp with hp|hp
   ·exact bj (by rw[hp])
   ·omega)).trans (h.block i hi bj)⟩
theorem Pd{a w row B}(h:a.grownBy w row)(hB:B≤a.heap.size)(hr:∀k,row=some k→B≤k):Below B a w:=
 (aF B a).grown h hB hr
theorem own.made0{α:Type}[El α](w:World)(T:TypeId){base}(hb:base≤w.heap.size):own T base (w.alloc (.cells #[] T)) (.slice (some ⟨w.heap.size,0,none⟩) 0 0) ([]:List α):=
 ⟨[],World.ownsRow_made w #[] 0 hb (aM _) ZE,rfl,fun k h=>absurd h (aX k)⟩
theorem Bz(w:World)(T:TypeId)(cs:List Value):∀j u,cs[j]? =some u→(w.alloc (.cells cs.toArray T)).cell? ((⟨w.heap.size,0,none⟩:Addr).add j)=some u:=fun j u hu=>by rw[Ii,bW,AhC];simpa using hu
theorem Ay{base w w' v}{α:Type}[El α]{T:TypeId}{xs:List α}(h:own T base w v xs)(hg:w.grownBy w' v.ownBlock)(hb:base≤w.heap.size):Below base w w':=
 Pd hg hb fun k hk=>(h.blk k hk).1
def apart(v v':Value):Prop:=v.ownBlock=none∨v.ownBlock≠v'.ownBlock
theorem R8{α β:Type}[El α][El β]{T T':TypeId}{b b' w w' v v'}{xs:List α}{ys:List β}(h:own T b w v xs)(h':own T' b' w' v' ys)(pI:w.heap.size≤b'):apart v v':=by
 unfold apart;cases hv:v.ownBlock with
 |none=>exact .inl rfl
 |some k=> refine' YR;have h1:=(h.blk k hv).2;have h2:=(h'.blk k e.symm).1;omega
theorem Dd{α β:Type}[El α][El β]{T T':TypeId}{b b' w w' v v'}{xs:List α}{ys:List β}(h:own T b w v xs)(h':own T' b' w' v' ys)(pI:w'.heap.size≤b):apart v v':=by
 unfold apart;cases hv:v.ownBlock with
 |none=>exact .inl rfl
 |some k=> refine' YR;have h1:=(h.blk k hv).1;have h2:=(h'.blk k e.symm).2;omega
theorem Tryz.infoLtr:(aB.info? 119).map (fun i=>(i.zero,i.size,i.bytes))=some (some (.agg #[.int .i64 0,.string ⟨#[]⟩]),2,24):=ZB
def J1:Nat→List UInt8
 |0=>[]
 |n+1=>J1 ((n+1)/10)++[UInt8.ofNat (48+(n+1)%10)]
 decreasing_by omega
theorem I2{n}(h:0<n):J1 n=J1 (n/10)++[UInt8.ofNat (48+n%10)]:=by
 cases n with
 |zero=>omega
 |succ n=>rw[J1]
def b8(n:Int):UInt8:=UInt8.ofNat n.toNat
theorem AfW(W:World)(n):(convert 24 9 (.slice (some ⟨W.heap.size,0,none⟩) 1 1)).run aB (W.alloc (.cells #[.int .u8 n] 5))=.ok (.string ⟨#[b8 n]⟩) (W.alloc (.cells #[.int .u8 n] 5)):=by
 refine' ZMg;rw[run_bytesToString _ _ _ _ [n] (by
  refine run_loadCells_list _ _ [bC .u8 n] fun j v hj=>?_
  rw[Ii,bW,AhC];exact ZDU)]
 rfl
theorem Cv{a b:ByteArray}(h:a.data.toList=b.data.toList):a=b:=WideShapes.bytes_inj h
theorem B6(a b:ByteArray):(a++b).data.toList=a.data.toList++b.data.toList:=ZE
instance elByte:El UInt8 where
 size:=1
 el _ _ x cs:=cs=[.int .u8 x.toNat]
 len h:=by rw[h];rfl
 more h _:=h
 keep h _:=h
 one h:=by rw[h];intro u hu;simp at hu;rw[hu];rfl
instance flatByte:Flat UInt8 where
 free h:=h
instance elInt:El Int where
 size:=1
 el _ _ x cs:=Bj x∧cs=[.int .i64 x]
 len h:=ZDM
 more h _:=h
 keep h _:=h
 one h:=ZLj
instance flatInt:Flat Int where
 free h:=h
theorem rdA.int{w B A xs}(h:rdA w B A xs)(k)(hk:k<xs.length):
 ∃b o,A=some ⟨b,o,none⟩∧b<B∧Bj xs[k]∧w.cell? ⟨b,o+k,none⟩=some (.int .i64 xs[k]):=ZLk
theorem Aa{a b c}(h:Below a.heap.size a b)(k:Below b.heap.size b c):Below a.heap.size a c:=h.trans (k.mono h.size)
theorem Ae{a b}(h:Below a.heap.size a b)(o):Below a.heap.size a (b.alloc o):=h.alloc h.size o
theorem Ag{a b}(h:Below a.heap.size a b):Below a.heap.size a b.drew:=h.drew
theorem Cx{a b}(h:Below a.heap.size a b)(n):Below a.heap.size a (b.drewN n):=Ba h n
theorem Ai{a b}(h:Below a.heap.size a b){p}(hp:a.heap.size≤p.block)(u):Below a.heap.size a (b.setCell p u):=h.setCell hp u
attribute [go_sem] Ae Ag Cx
theorem Af{w w0:World}{cs}{T:TypeId}(h:w0=w.alloc (.cells cs T))(i u)(hu:cs[i]? =some u):∀W,Below w0.heap.size w0 W→W.cell? ⟨w.heap.size,i,none⟩=some u:=fun W hW=>by
 have h1:w.heap.size<w0.heap.size:=by subst h;simp
 rw[hW.cell (p:=⟨w.heap.size,i,none⟩) h1];subst h;rw[AhC];exact hu
theorem Aw{w w0 o}(h:w0=w.alloc o):Below w.heap.size w w0∧w.heap.size<w0.heap.size:=by subst h;exact⟨(aF _ _).alloc (aD _) _,ZE⟩
theorem rdA.ltrU{w A}{xs:List Ltr}(h:rdA w w.heap.size A xs)(k)(hk:k<xs.length):
 ∃b o,A=some ⟨b,o,none⟩∧b<w.heap.size∧(xs[k]).ok∧(∀W,Below w.heap.size w W→W.cell? ⟨b,o+k*2,none⟩=some (.int .i64 (xs[k]).id))∧(∀W,Below w.heap.size w W→W.cell? ⟨b,o+k*2+1,none⟩=some (.string (xs[k]).code)):=by obtain⟨b,o,hA,hb,ag,c1,c2⟩:=h.ltr k hk;exact ZJ8
theorem rdA.misU{w A}{xs:List Mis}(h:rdA w w.heap.size A xs)(k)(hk:k<xs.length):
 ∃b o,A=some ⟨b,o,none⟩∧b<w.heap.size∧(xs[k]).ok∧(∀W,Below w.heap.size w W→W.cell? ⟨b,o+k*2,none⟩=some (.int .i64 (xs[k]).id))∧(∀W,Below w.heap.size w W→W.cell? ⟨b,o+k*2+1,none⟩=some (.int .i64 (xs[k]).bin)):=by obtain⟨b,o,hA,hb,ag,c1,c2⟩:=h.mis k hk;exact ZJ8
theorem rdA.fwdU{w A}{xs:List Fwd}(h:rdA w w.heap.size A xs)(k)(hk:k<xs.length):
 ∃b o,A=some ⟨b,o,none⟩∧b<w.heap.size∧(xs[k]).ok∧(∀W,Below w.heap.size w W→W.cell? ⟨b,o+k*2,none⟩=some (.string (xs[k]).src))∧(∀W,Below w.heap.size w W→W.cell? ⟨b,o+k*2+1,none⟩=some (.string (xs[k]).dst)):=by obtain⟨b,o,hA,hb,ag,c1,c2⟩:=h.fwd k hk;exact ZJ8
theorem rdA.strU{w A xs}(h:rdA w w.heap.size A xs)(k)(hk:k<xs.length):
 ∃b o,A=some ⟨b,o,none⟩∧b<w.heap.size∧(xs[k]).size≤maxLen∧(∀W,Below w.heap.size w W→W.cell? ⟨b,o+k,none⟩=some (.string xs[k])):=by obtain⟨b,o,hA,hb,ag,c1⟩:=h.str k hk;exact⟨b,o,hA,hb,ag,fun W hW=>(hW.cell (p:=⟨b,o+k,none⟩) hb).trans c1⟩
theorem rdA.intU{w A xs}(h:rdA w w.heap.size A xs)(k)(hk:k<xs.length):
 ∃b o,A=some ⟨b,o,none⟩∧b<w.heap.size∧Bj xs[k]∧(∀W,Below w.heap.size w W→W.cell? ⟨b,o+k,none⟩=some (.int .i64 xs[k])):=by obtain⟨b,o,hA,hb,ag,c1⟩:=h.int k hk;exact⟨b,o,hA,hb,ag,fun W hW=>(hW.cell (p:=⟨b,o+k,none⟩) hb).trans c1⟩
theorem Gx{w B v p}(h:rdP w B v p):∃A c,v=.agg #[.int .i64 p.bins,.int .i64 p.passes,.slice A p.order.length c]:=by obtain⟨vo,rfl,_,_,A,n,c,rfl,rfl,_⟩:=h;exact⟨A,c,rfl⟩
theorem Dv{w:World}{g cs}{T:TypeId}(h:w.heap[g]? =some (.cells cs T (0,0)))(i u)(hu:cs[i]? =some u):w.cell? ⟨g,i,none⟩=some u:=by rw[fH _ _ _ _ _ _ h];exact hu
theorem Nx{w:World}{g cs}{T:TypeId}(h:w.heap[g]? =some (.cells cs T (0,0)))(i):w.frozen? ⟨g,i,none⟩=false:=ZAt
theorem BcM{w:World}{g o}(h:w.heap[g]? =some o):g<w.heap.size:=(Array.getElem?_eq_some_iff.1 h).1
theorem E3{w w'}{g:Nat}{o}(h:w.heap[g]? =some o)(hb:Below w.heap.size w w'):w'.heap[g]? =some o:=(hb.block g (BcM h)).trans h
theorem Mu{w:World}{g cs}{T:TypeId}(h:w.heap[g]? =some (.cells cs T (0,0)))(i u):(w.setCell ⟨g,i,none⟩ u).heap[g]? =some (.cells (cs.setIfInBounds i u) T (0,0)):=ZUV
theorem Bd{α:Type}[Flat α]{T:TypeId}{base w v}{xs:List α}(h:own T base w v xs)(p u)(hp:p.block<base):own T base (w.setCell p u) v xs:=
 h.grown (Gc (cU w (some p.block)) (.inl rfl) u) (by
  cases hv:v.ownBlock with
  |none=>exact .inl rfl
  |some k=> refine' YR;have:=(h.blk k hv).1;exact YJ)
theorem Aq3(s t):sEq s t=sEq t s:=by rw[iU,Ec,Ec];exact eq_comm
theorem Nf(v xs c w)(hv:rd w w.heap.size v xs):
 Calls aB 226 #[v,.string c] w fun e w'=>e=.returned (.int .i64 (rkI xs c))∧w=w':=by
 refine' ZAu;refine' zk;go_enter Tryz.func226,Tryz.ntmps226;go_wp2
 go_loop[8] (fun i=>∃k:Nat,k≤xs.length∧i=.int .i64 k∧Hid (∀j (h:j<xs.length),j<k→sEq xs[j] c=false)) (fun i=>xs.length - (intOf i).toNat)
 case atStart=>exact ZAn
 case round=>
  refine' YE;by_cases ab:k<xs.length
  ·refine' ZNx;cases he:sEq x c
   ·refine' zg;have hq:(c.toList==x.toList)=false:=by rw[←he];exact Aq3 c x
    clear he;go_wp2
    exact ZBl
   ·refine' zg;have hq:(c.toList==x.toList)=true:=by rw[←he];exact Aq3 c x
    clear he;exact ZCW
  exact ZNy
theorem M5(v xs c w)(hv:rd w w.heap.size v xs):
 Calls aB 281 #[v,.string c] w fun e w'=>e=.returned (.bool (decide (0≤rkI xs c)))∧w=w':=by
 go_enter Tryz.func281,Tryz.ntmps281
 refine' ZC;refine(Nf v xs c w hv).mono ?_;refine' ZW;obtain⟨r,HR⟩:∃r,Hid (rkI xs c=r):=⟨_,rfl⟩;rw[HR.out]
 refine' ZI;exact⟨Al (by rw[HR.out]),rfl⟩
theorem Uu(n w):Calls aB 272 #[.int .i64 n] w fun e w'=>e=.returned (.bool (decide (2≤n)&&decide (n≤16)))∧w=w':=by
 go_enter Tryz.func272,Tryz.ntmps272;by_cases h1:2≤n
 ·refine' ZO;exact⟨Al (by simp[h1]),rfl⟩
 ·refine' ZO;exact⟨Al (by rw[aO (p:=2≤n) ZA];rfl),rfl⟩
theorem Rv(n w):Calls aB 273 #[.int .i64 n] w fun e w'=>e=.returned (.bool (decide (1≤n)&&decide (n≤4)))∧w=w':=by
 go_enter Tryz.func273,Tryz.ntmps273;by_cases h1:1≤n
 ·refine' ZO;exact⟨Al (by simp[h1]),rfl⟩
 ·refine' ZO;exact⟨Al (by rw[aO (p:=1≤n) ZA];rfl),rfl⟩
theorem Xh(b)(n:Nat)(w)(h1:2≤b)(h2:b≤16)(hn:n≤4):
 Calls aB 317 #[.int .i64 b,.int .i64 n] w fun e w'=>e=.returned (.int .i64 (Ky b n))∧w=w':=by
 go_enter Tryz.func317,Tryz.ntmps317;go_wp2
 go_loop[5,7] (fun t i=>∃(k:Nat) (m:Int),k≤n∧i=.int .i64 k∧t=.int .i64 m∧1≤m∧m≤65536∧Hid (m=Ky b k)) (fun _ i=>n - (intOf i).toNat)
 case atStart=>exact⟨0,1,aM _,rfl,rfl,ZA,ZA,rfl⟩
 case round=>
  obtain⟨k,m,hk,rfl,rfl,m0,m1,HM⟩:=hrel;by_cases ab:k<n
  ·refine' ZNz;go_wp2
   go_round
   case rel=>exact⟨k+1,_,ZA,ZJ,rfl,p1,p2,HP.out.symm⟩
   case measure=>exact ZK
  exact ZN0
theorem AdX(b p w)(h:Ms b p=true):
 Calls aB 274 #[.int .i64 b,.int .i64 p] w fun e w'=>e=.returned (.int .i64 (Ky b p.toNat))∧w=w':=by
 obtain⟨h1,h2,h3,h4⟩:=Uy.1 h;clear h;obtain⟨n,rfl⟩:=aQ (show 0≤p by omega);have e1:(decide (2≤b)&&decide (b≤16))=true:=by rw[aJ h1,aJ h2];rfl
 have e2:(decide ((1:Int)≤(n:Int))&&decide ((n:Int)≤4))=true:=by rw[aJ h3,aJ h4];rfl
 have E1:=aA e1;clear e1;have E2:=aA e2;clear e2;go_enter Tryz.func274,Tryz.ntmps274
 refine' ZC;refine(Uu b w).mono ?_;rw[E1.out];refine' ZW;refine' ZC;refine(Rv n w).mono ?_;rw[E2.out];refine' ZW;refine' ZC;refine(Xh b n w h1 h2 ZA).mono ?_;refine' ZW;refine' ZI;exact⟨Bo (by rw[bE]),rfl⟩
theorem BcA(cs c):cs.all (fun d=> !sEq d c)= !decide (0≤rkI cs c):=by
 rw[iU,dN];constructor
 ·intro h
  have:rk cs c=cs.length:=AeN fun j hj=>by simpa using h _ (aU hj)
  rw[AaV ZA];decide
 ·intro h x hx
  refine' ZEh;have hn:¬0≤rkI cs c:=zG
  have hk:¬rk cs c<cs.length:=fun ab=>by rw[Yx ab]at hn;omega
  have:=V1 cs c j hj ZA;simp[this]
theorem AbK(v cs w)(hv:rd w w.heap.size v cs):
 Calls aB 275 #[v] w fun e w'=>e=.returned (.bool (La cs))∧w=w':=by
 have ev:=aA hv;refine' ZAu;refine' zk;go_enter Tryz.func275,Tryz.ntmps275;go_wp2
 go_loop[7] (fun i=>∃k:Nat,k≤cs.length∧i=.int .i64 k∧Hid (∀j,j<k→Ad9 cs j=true)) (fun i=>cs.length - (intOf i).toNat)
 case atStart=>exact ZEi
 case round=>
  refine' YE;by_cases ab:k<cs.length
  ·obtain⟨b,o,rfl,hb,ag,c1⟩:=HR.out.str k ab
   have hG:=aA (U9 ab);have am:=aA (fun h=>AdD ab h);have hA:=aA (BcA (cs.take k) cs[k]);generalize cs[k]=c at *;cases oe:Ap c
   ·refine' ZA4;go_wp2_with (go_at_call 231;refine(Cw _ _ ag).mono ?_;refine' ZA5)
    go_ret;exact⟨Al (am.out (by rw[hG.out,gj.out];rfl)).symm,rfl⟩
   refine' ZA4;cases hd:decide (0≤rkI (cs.take k) c)
   ·refine' ZN1;go_round
    case rel=>
     refine' ZHk
     ·refine' ZAE;rw[hG.out,gj.out,hA.out,mE.out];rfl
    case measure=>exact ZK
   ·refine' ZN1;go_ret;exact⟨Al (am.out (by rw[hG.out,gj.out,hA.out,mE.out];rfl)).symm,rfl⟩
  ·have HE:=aA (show k=cs.length by omega)
   refine' ZO;exact⟨Al (Yt ZAF).symm,rfl⟩
theorem Fq(v p w)(hv:rdP w w.heap.size v p):
 Calls aB 202 #[v] w fun e w'=>e=.returned (.bool (Bq p))∧Below w.heap.size w w':=by
 obtain⟨vo,rfl,jO,kP,hr⟩:=hv;have f9:=hr;obtain⟨A,n,cp,rfl,hn,hc,hm,_⟩:=hr;refine' ZBk;have rz:=aA (fun o=>f9.on ((aF _ _).alloc (aD _) o));refine' ZN2;have e0:Bq p=(((decide (2≤p.bins)&&decide (p.bins≤16))&&(decide (1≤p.passes)&&decide (p.passes≤4)))&&(decide (1≤p.order.length)&&decide (p.order.length≤60))&&decide ((p.order.length:Int)≤Ky p.bins p.passes.toNat)&&La p.order):=rfl;have E0:=aA e0;clear e0;go_enter Tryz.func202,Tryz.ntmps202
 refine' ZC;refine(Uu _ _).mono ?_;refine' ZW;cases h1:(decide (2≤p.bins)&&decide (p.bins≤16))
 ·refine' zS;refine' ZI;exact⟨Al (by rw[E0.out,H1.out];rfl),HB.out⟩
 refine' zP;refine(Rv _ _).mono ?_;refine' ZW;cases h2:(decide (1≤p.passes)&&decide (p.passes≤4))
 ·refine' zA;refine' ZI;exact⟨Al ZHl,HB.out⟩
 refine' zA;have xV:Ms p.bins p.passes=true:=by unfold Ms;rw[H1.out,H2.out];rfl
 have HSH:=aA xV;clear xV;by_cases h3:1≤p.order.length
 case neg=>
  have H3:=aA h3;clear h3;have GE:¬(1:Int)≤(p.order.length:Int):=by have:=H3.out;omega
  refine' ZI;exact⟨Al (by rw[E0.out,aO H3.out];simp),HB.out⟩
 by_cases h4:p.order.length≤60
 case neg=>
  have H4:=aA h4;clear h4;have h4i:¬(p.order.length:Int)≤60:=by have:=H4.out;omega
  refine' ZI;exact⟨Al (by rw[E0.out,aO H4.out];simp),HB.out⟩
 refine' ZC;refine(AdX _ _ _ HSH.out).mono ?_;refine' ZW;obtain⟨q,HQ⟩:∃q,Hid (Ky p.bins p.passes.toNat=q):=⟨_,rfl⟩;rw[HQ.out];by_cases h5:(p.order.length:Int)≤q
 case neg=>
  have H5:=aA (aO h5)
  refine' ZI;exact⟨Al (by rw[E0.out,HQ.out,H5.out];simp),HB.out⟩
 have H5:=aA (aJ h5)
 refine' ZC;refine(AbK _ p.order _ (rz.out _)).mono ?_;refine' ZW;refine' ZI;exact⟨Al (by rw[E0.out,HQ.out,H1.out,H2.out,H5.out,aJ h3,aJ h4];rfl),HB.out⟩
theorem Da{P}{f:FuncId}{args}{w:World}{n v}
 (h:Calls P f args (w.drewN n) fun e w'=>e=.returned v∧w.drewN n=w'):Calls P f args (w.drewN n) fun e w''=>e=.returned v∧∃m,w''=w.drewN m:=
 h.mono fun _ _ ⟨he,hm⟩=>⟨he,n,hm.symm⟩
theorem Y2(n p w):Calls aB 169 #[.int .i64 n,.int .i64 p] w fun e w'=>e=.returned (.bool (Ms n p))∧w=w':=by
 have e0:Ms n p=(decide (2≤n)&&decide (n≤16)&&(decide (1≤p)&&decide (p≤4))):=rfl;have E0:=aA e0;clear e0;go_enter Tryz.func169,Tryz.ntmps169
 refine' ZC;refine(D0 n 2 16 w).mono ?_;refine' ZW;cases h1:(decide (2≤n)&&decide (n≤16))
 ·refine' zS;refine' ZI;exact⟨Al (by rw[E0.out,H1.out];rfl),rfl⟩
 ·refine' zP;refine(D0 p 1 4 w).mono ?_;refine' ZW;cases h2:(decide (1≤p)&&decide (p≤4))
  ·refine' zA;refine' ZI;exact⟨Al ZHl,rfl⟩
  ·refine' zA;refine' ZI;exact⟨Al ZHl,rfl⟩
theorem AaN(b)(n:Nat)(w)(h1:2≤b)(h2:b≤16)(hn:n≤4):
 Calls aB 170 #[.int .i64 b,.int .i64 n] w fun e w'=>e=.returned (.int .i64 (Ky b n))∧w=w':=by
 go_enter Tryz.func170,Tryz.ntmps170;go_wp2
 go_loop[5,6] (fun t i=>∃(k:Nat) (m:Int),k≤n∧i=.int .i64 k∧t=.int .i64 m∧1≤m∧m≤65536∧Hid (m=Ky b k)) (fun _ i=>n - (intOf i).toNat)
 case atStart=>exact⟨0,1,aM _,rfl,rfl,ZA,ZA,rfl⟩
 case round=>
  obtain⟨k,m,hk,rfl,rfl,m0,m1,HM⟩:=hrel;by_cases ab:k<n
  ·refine' ZNz;have hlm:¬(100000:Int)<m*b:=ZA
   go_wp2
   go_round
   case rel=>exact⟨k+1,m*b,ZA,ZJ,by first|rfl|exact aT (bC .i64) (by omega),p1,p2,HP.out.symm⟩
   case measure=>exact ZK
  exact ZN0
theorem AbB{p}(h:0≤p):((p.toNat:Nat):Int)=p:=iS h
theorem Fo(v p w)(hv:rdP w w.heap.size v p):
 Calls aB 72 #[v] w fun e w'=>e=.returned (.bool (Bq p))∧Below w.heap.size w w':=by
 obtain⟨vo,rfl,jO,kP,hr⟩:=hv;have f9:=hr;obtain⟨A,n,cp,rfl,hn,hc,hm,tq⟩:=hr;refine' ZBk;have HRA:=aA tq;clear tq;refine' ZN2;have e0:Bq p=(Ms p.bins p.passes&&(decide (1≤p.order.length)&&decide (p.order.length≤60))&&decide ((p.order.length:Int)≤Ky p.bins p.passes.toNat)&&La p.order):=rfl;have E0:=aA e0;clear e0;cases xV:Ms p.bins p.passes
 ·have HS:=aA xV;clear xV
  have DY:=aA (fun w=>HS.out▸Y2 p.bins p.passes w);go_enter Tryz.func72,Tryz.ntmps72;go_wp2
  go_quiet (first|(go_at_call 169;refine Da (DY.out _)))
  refine' ZO;exact⟨Al (by rw[E0.out,HS.out];rfl),Ba HB.out _⟩
 have HS:=aA xV;have DY:=aA (fun w=>HS.out▸Y2 p.bins p.passes w);obtain⟨q1,q2,q3,q4⟩:=Uy.1 xV;clear xV;cases jb:(decide ((1:Int)≤(p.order.length:Int))&&decide ((p.order.length:Int)≤60))
 ·have HL:=aA jb;clear jb
  have JI:=aA (fun w=>HL.out▸D0 (p.order.length:Int) 1 60 w);have wT:(decide (1≤p.order.length)&&decide (p.order.length≤60))=false:=by have:=HL.out;rw[eH,eO,eO]at this⊢;omega
  have gi:=aA wT;clear wT;go_enter Tryz.func72,Tryz.ntmps72;go_wp2
  go_quiet (first|(go_at_call 169;refine Da (DY.out _))|(go_at_call 167;refine Da (JI.out _)))
  refine' ZO;exact⟨Al (by rw[E0.out,gi.out];simp),Ba HB.out _⟩
 have HL:=aA jb;have JI:=aA (fun w=>HL.out▸D0 (p.order.length:Int) 1 60 w);have wT:1≤p.order.length∧p.order.length≤60:=by rw[aN,bB,bB]at jb;omega
 clear jb;obtain⟨l1,l2⟩:=wT;have tc:(decide (1≤p.order.length)&&decide (p.order.length≤60))=true:=by rw[aJ l1,aJ l2];rfl
 have j7:=aA tc;clear tc;obtain⟨q,HQ⟩:∃q,Hid (Ky p.bins p.passes.toNat=q):=⟨_,rfl⟩;have IP:∀w:World,Calls aB 170 #[.int .i64 p.bins,.int .i64 p.passes] w fun e w'=>e=.returned (.int .i64 q)∧w=w':=fun w=>by have:=AaN p.bins p.passes.toNat w q1 q2 ZA;rw[HQ.out,AbB ZA]at this;exact this
 have SR:=aA IP;clear IP;by_cases h5:(p.order.length:Int)≤q
 case neg=> have H5:=aA (aO h5);have h5':decide ((p.order.length:Int) > q)=true:=aJ ZA;clear h5;refine' ZN3;refine' ZO;exact⟨Al (by rw[E0.out,HQ.out,H5.out];simp),Ba HB.out _⟩
 have H5:=aA (aJ h5);have h5':decide ((p.order.length:Int) > q)=false:=aO ZA;clear h5;have JJ:Bq p=La p.order:=by rw[E0.out,HS.out,j7.out,HQ.out,H5.out];rfl
 have BV:=aA JJ;clear JJ;refine' ZN3;clear h5' SR HQ H5 HL JI DY HS E0 j7;have lJ:Below w.heap.size w ((w.alloc (aC #[bC aI p.bins,bC aI p.passes,Value.slice A p.order.length cp] 30)).drewN nq):=Ba HB.out _;have xW:((w.alloc (aC #[bC aI p.bins,bC aI p.passes,Value.slice A p.order.length cp] 30)).drewN nq).cell? ⟨w.heap.size,2,none⟩=some (.slice A p.order.length cp):=zB
 clear HB;generalize((w.alloc (aC #[bC aI p.bins,bC aI p.passes,Value.slice A p.order.length cp] 30)).drewN nq)=w0 at *;generalize p.order=cs at *;go_wp2
 go_loopw[3] (fun i wr=>∃k:Nat,k≤cs.length∧i=.int .i64 k∧Below w.heap.size w wr∧wr.cell? ⟨w.heap.size,2,none⟩=some (.slice A cs.length cp)∧Hid (∀j,j<k→Ad9 cs j=true)) (fun i _=>cs.length - (intOf i).toNat)
 case atStart=>exact⟨0,aM _,rfl,lJ,xW,fun j hj=>absurd hj (aX j)⟩
 case round=>
  obtain⟨k,hk,rfl,au,ij,HG⟩:=hrel;refine' ZC6;clear lJ xW;by_cases ab:k<cs.length
  ·obtain⟨b,o,rfl,hb,ag,c1⟩:=HRA.out.str k ab
   have hG:=aA (U9 ab);have am:=aA (fun h=>AdD ab h);generalize hx:cs[k]=c at *;have HXK:=aA hx;clear hx;have oG:w1.cell? ⟨b,o+k,none⟩=some (.string c):=(au.cell (p:=⟨b,o+k,none⟩) hb).trans c1;cases oe:Ap c
   ·refine' ZA4;go_wp2_with (go_at_call 94;refine(Cm _ _ ag).mono ?_;refine' ZA5)
    go_ret;exact⟨Al (by rw[BV.out];exact(am.out (by rw[hG.out,gj.out];rfl)).symm),au⟩
   refine' ZA4;go_wp2_with (go_at_call 94;refine(Cm _ _ ag).mono ?_;refine' ZA5)
   go_loopw[4] (fun i wr=>∃m:Nat,m≤k∧i=.int .i64 m∧Below w.heap.size w wr∧wr.cell? ⟨w.heap.size,2,none⟩=some (.slice (some ⟨b,o,none⟩) cs.length cp)∧Hid ((cs.take m).all (fun y=> !sEq y c)=true)) (fun i _=>k - (intOf i).toNat)
   case atStart=>exact⟨0,aM _,rfl,au,ij,rfl⟩
   case round=>
    obtain⟨m,ly,rfl,nf,hcw,HA⟩:=hrel;clear oG ij;have oG:wr.cell? ⟨b,o+k,none⟩=some (.string c):=(nf.cell (p:=⟨b,o+k,none⟩) hb).trans c1;by_cases ez:m<k
    ·obtain⟨b',o',hA,_,_,d1⟩:=HRA.out.str m ZA
     have hT:=aA (Hv (p:=fun y:ByteArray=> !sEq y c) cs m ZA);have hI:=aA (Od (p:=fun y:ByteArray=> !sEq y c) cs m k ZA ez);generalize cs[m]=y at *;refine' ZAr;have SS:wr.cell? ⟨b,o+m,none⟩=some (.string y):=(nf.cell (p:=⟨b,o+m,none⟩) hb).trans d1;clear d1 c1;have qS:(m:Int)<(cs.length:Int):=ZA
     have fy:(k:Int)<(cs.length:Int):=ZA
     cases kg:sEq y c
     ·have HY:=aA kg
      have oU:(y.toList==c.toList)=false:=kg;clear kg;refine' YP;go_wp2
      go_roundw
      case rel=>exact⟨m+1,ZA,ZJ,Ba nf _,zB,by show _=true;rw[hT.out,HA.out,HY.out];rfl⟩
      case measure=>exact ZK
     ·have HY:=aA kg
      have oU:(y.toList==c.toList)=true:=kg;clear kg;refine' YP;refine' ZO;exact⟨Al (by rw[BV.out];exact(am.out (by rw[hG.out,hI.out (by rw[HY.out];rfl)];simp)).symm),Ba nf _⟩
    ·refine' ZEK;go_roundw
     case rel=>
      refine⟨k+1,ZA,ZJ,nf,hcw,fun j hj=>?_⟩;refine' ZBe
      ·refine' ZAE;rw[hG.out,gj.out,←HE.out,HA.out];rfl
     case measure=>exact ZK
  ·have HE:=aA (show k=cs.length by omega)
   refine' ZO;exact⟨Al (by rw[BV.out];exact(Yt ZAF).symm),au⟩
theorem Lw(v xs c w)(hv:rd w w.heap.size v xs):
 Calls aB 161 #[v,.string c] w fun e w'=>e=.returned (.int .i64 (rkI xs c))∧w=w':=by
 refine' ZAu;refine' zk;go_enter Tryz.func161,Tryz.ntmps161;go_wp2
 go_loop[5] (fun i=>∃k:Nat,k≤xs.length∧i=.int .i64 k∧Hid (∀j (h:j<xs.length),j<k→sEq xs[j] c=false)) (fun i=>xs.length - (intOf i).toNat)
 case atStart=>exact ZAn
 case round=>
  refine' YE;by_cases ab:k<xs.length
  ·refine' ZNx;cases he:sEq x c
   ·refine' zg;have hq:(x.toList==c.toList)=false:=he;clear he;go_wp2
    exact ZBl
   ·refine' zg;have hq:(x.toList==c.toList)=true:=he;clear he;exact ZCW
  exact ZNy
theorem Ok(v vb p xs w)(hv:rdP w w.heap.size v p)(hb:rd w w.heap.size vb xs):
 Calls aB 73 #[v,vb] w fun e w'=>e=.returned (.bool (Bq p&&okB xs))∧Below w.heap.size w w':=by
 have ev:=aA hv;have bg:=aA hb;refine' ZEy;refine' ZN9;go_enter Tryz.func73,Tryz.ntmps73
 refine' ZC;refine(Fo _ p _ (ev.out.on HB.out)).mono ?_;refine' ZT;have B1:=HB.out.trans (b1.mono HB.out.size);cases hp:Bq p
 ·refine' YG;refine' ZI;exact⟨Al (by rw[HP.out];rfl),B1⟩
 ·refine' YG;obtain⟨r,aj⟩:∃r,Hid (okB xs=r):=⟨_,rfl⟩
  refine' ZC;refine(C6 _ xs _ (bg.out.on B1)).mono ?_;refine' zK;rw[aj.out]
  refine' ZI;exact⟨Al (by rw[HP.out,aj.out];rfl),B1.trans (b2.mono B1.size)⟩
def fiI{α:Type}(p:α→Bool)(xs:List α):Int:=if xs.findIdx p<xs.length then(xs.findIdx p:Int)else -1
theorem Sk{α:Type}{p:α→Bool}{xs}{k:Nat}(h:k<xs.length)(h1:∀j (hj:j<xs.length),j<k→p xs[j]=false)(h2:p xs[k]=true):fiI p xs=k:=by have e:xs.findIdx p=k:=(List.findIdx_eq h).2 ⟨h2,fun j hj=>by simpa using h1 j ZA hj⟩;unfold fiI;rw[e,aP h]
theorem Pk{α:Type}{p:α→Bool}{xs}(h:∀j (hj:j<xs.length),p xs[j]=false):fiI p xs= -1:=by
 have e:xs.findIdx p=xs.length:=List.findIdx_eq_length.2 fun x hx=>ZHE
 unfold fiI;rw[e,aL ZA]
theorem AbC{α:Type}(p:α→Bool)(xs): -1≤fiI p xs∧fiI p xs<xs.length:=by unfold fiI;split<;>omega
theorem AeP{α:Type}{p:α→Bool}{xs}{k:Nat}(h:fiI p xs=k):∃hk:k<xs.length,p xs[k]=true∧∀j (hj:j<xs.length),j<k→p xs[j]=false:=by
 unfold fiI at h
 split at h
 ·rename_i ab
  have e:xs.findIdx p=k:=ZA
  subst e;exact⟨ab,by simpa using List.findIdx_getElem (w:=ab),fun j hj di=>by simpa using List.not_of_lt_findIdx di⟩
 ·omega
theorem BaW{α:Type}{p:α→Bool}{xs}(h:fiI p xs<0):∀x∈xs,p x=false:=by
 unfold fiI at h
 split at h
 ·omega
 ·rename_i ab
  intro x hx;cases hp:p x
  ·rfl
  ·exact absurd (List.findIdx_lt_length_of_exists ⟨x,hx,hp⟩) ab
theorem ArO{α:Type}(p:α→Bool)(xs):decide (0≤fiI p xs)= !xs.all (fun y=> !p y):=by
 by_cases h:fiI p xs<0
 ·rw[aO ZA,List.all_eq_true.2 (fun x hx=>by rw[BaW h x hx];rfl)];rfl
 ·replace h:0≤fiI p xs:=ZA
  obtain⟨k,hk⟩:=aQ h;obtain⟨h1,h2,_⟩:=AeP hk;rw[aJ h,List.all_eq_false.2 ⟨xs[k],aU _,by simp[h2]⟩];rfl
theorem An4{α:Type}{p:α→Bool}{xs}{k:Nat}(h:k<xs.length)(hp:p xs[k]=true):(fiI p xs==(k:Int))=(xs.take k).all (fun y=> !p y):=by
 by_cases ha:(xs.take k).all (fun y=> !p y)=true
 ·rw[ha,dE]
  refine Sk h (fun j hj di=>?_) hp;have:=List.all_eq_true.1 ha xs[j] ZCF;exact zT
 ·rw[eY]at ha
  rw[ha,beq_eq_false_iff_ne];intro e;obtain⟨_,_,h3⟩:=AeP e;obtain⟨x,hx,tm⟩:=List.all_eq_false.1 ha;rw[dR]at hx;obtain⟨j,hj,rfl⟩:=hx;rw[h3 j ZA ZA]at tm;simp at tm
def Gg(fs:List Fwd)(c:ByteArray):Int:=fiI (fun x=>sEq x.src c) fs
def Vt(fs:List Fwd)(c:ByteArray):ByteArray:=((fs[(Gg fs c).toNat]?).map Fwd.dst).getD ⟨#[]⟩
def Gb(fs:List Fwd):Nat→ByteArray→Nat→ByteArray×Nat×Bool
 |0,_,_=>(⟨#[]⟩,0,false)
 |f+1,c,n=>if Gg fs c<0 then(c,n,true)else Gb fs f (Vt fs c) (n+1)
def Bc(fs:List Fwd)(c:ByteArray):ByteArray×Nat×Bool:=Gb fs (fs.length+1) c 0
theorem Ah6{fs c}{k:Nat}(h:Gg fs c=k)(hk:k<fs.length):Vt fs c=fs[k].dst:=by unfold Vt;rw[h,bE,aR hk];rfl
theorem Zx{fs}(hf:∀x∈fs,x.dst.size≤maxLen):∀(f:Nat) (c:ByteArray) (n:Nat),c.size≤maxLen→(Gb fs f c n).1.size≤maxLen∧(Gb fs f c n).2.1≤n+f
 |0,c,n,_=>⟨aM _,aM _⟩
 |f+1,c,n,hc=>by
  unfold Gb
  split
  ·exact⟨hc,ZE⟩
  ·have h:=Zx hf f (Vt fs c) (n+1) ZMh
   exact⟨h.1,ZA⟩
def AeV(fs:List Fwd)(k:Nat):Bool:=
 match fs[k]? with
 |none=>false
 |some x=>Ap x.src&&Ap x.dst&&(fs.take k).all (fun y=> !sEq y.src x.src)
def Be(fs:List Fwd):Bool:=decide (fs.length≤30)&&(List.range fs.length).all (AeV fs)
theorem Zd{fs k}(hk:k<fs.length):AeV fs k=(Ap fs[k].src&&Ap fs[k].dst&&(fs.take k).all (fun y=> !sEq y.src fs[k].src)):=by unfold AeV;exact ZCK
theorem AhG{fs k}(hk:k<fs.length)(h:AeV fs k=false):Be fs=false:=by unfold Be;exact ZDV
theorem Ad0{fs}(pH:fs.length≤30)(h:∀j,j<fs.length→AeV fs j=true):Be fs=true:=by unfold Be;rw[aJ pH];exact ZHF
theorem AhW{fs}(h:¬fs.length≤30):Be fs=false:=by unfold Be;rw[aO h];rfl
theorem Ch{fs:List Fwd}:Be fs=true↔fs.length≤30∧∀k (h:k<fs.length),Ap fs[k].src=true∧Ap fs[k].dst=true∧∀j (hj:j<k),fs[j].src≠fs[k].src:=by
 unfold Be;refine' ZHG;refine and_congr Iff.rfl ⟨fun h k hk=>?_,fun h k hk=>?_⟩
 ·have:=h k zM
  rw[Zd hk]at this;exact ZMi
 ·have fu:k<fs.length:=zM
  obtain⟨h1,h2,h3⟩:=h k fu;rw[Zd fu];exact ZMj
def Ee(hs:List ByteArray):Bool:=decide (hs.length≤30)&&hs.all Ap
def Fp(n:Int):Bool:=decide (1≤n)&&decide (n≤20)
structure Dy where
 plan:Pln
 fwds:List Fwd
 held:List ByteArray
 size:Int
def Mi(d:Dy):Bool:=Bq d.plan&&Be d.fwds&&Ee d.held&&Fp d.size
def Lv(n:Nat):ByteArray:=match n with
 |0=>⟨#[]⟩
 |1=>⟨#[115,116,117,99,107]⟩
 |2=>⟨#[104,101,108,100]⟩
 |3=>⟨#[114,111,117,110,100]⟩
 |_=>⟨#[115,116,114,97,110,103,101]⟩
def Nh(d:Dy)(c:ByteArray):ByteArray×ByteArray:=
 if Mi d&&Ap c then
  if(Bc d.fwds c).2.2=true then
   if 0≤rkI d.held (Bc d.fwds c).1 then((Bc d.fwds c).1,Lv 2)
   else if 0≤rkI d.plan.order (Bc d.fwds c).1 then((Bc d.fwds c).1,Lv 3)
   else((Bc d.fwds c).1,Lv 4)
  else(c,Lv 1)
 else(⟨#[]⟩,⟨#[]⟩)
def rdD(w:World)(B:Nat)(v:Value)(d:Dy):Prop:=
 ∃vo vf vh,v=.agg #[.int .i64 d.plan.bins,.int .i64 d.plan.passes,vo,vf,vh,.int .i64 d.size]∧Bj d.plan.bins∧Bj d.plan.passes∧Bj d.size∧rd w B vo d.plan.order∧rd w B vf d.fwds∧rd w B vh d.held
theorem rdD.below{w w' B v d}(h:rdD w B v d)(hb:Below B w w'):rdD w' B v d:=by obtain⟨vo,vf,vh,h1,h2,h3,h4,h5,h6,h7⟩:=h;exact⟨vo,vf,vh,h1,h2,h3,h4,h5.below hb,h6.below hb,h7.below hb⟩
theorem rdD.more{w B B' v d}(h:rdD w B v d)(hB:B≤B'):rdD w B' v d:=by obtain⟨vo,vf,vh,h1,h2,h3,h4,h5,h6,h7⟩:=h;exact⟨vo,vf,vh,h1,h2,h3,h4,h5.more hB,h6.more hB,h7.more hB⟩
theorem rdD.on{w w' v d}(h:rdD w w.heap.size v d)(hb:Below w.heap.size w w'):rdD w' w'.heap.size v d:=(h.below hb).more hb.size
theorem Aa3{w B v d}(h:rdD w B v d):∃A0 c0 A1 c1 A2 c2,v=.agg #[.int .i64 d.plan.bins,.int .i64 d.plan.passes,.slice A0 d.plan.order.length c0,.slice A1 d.fwds.length c1,.slice A2 d.held.length c2,.int .i64 d.size]:=by obtain⟨vo,vf,vh,rfl,_,_,_,⟨A,n,c,rfl,rfl,_⟩,⟨A',n',c',rfl,rfl,_⟩,⟨A'',n'',c'',rfl,rfl,_⟩⟩:=h;exact⟨A,c,A',c',A'',c'',rfl⟩
theorem AbR{w B d A0 A1 A2 c0 c1 c2}(h:rdD w B (.agg #[.int .i64 d.plan.bins,.int .i64 d.plan.passes,.slice A0 d.plan.order.length c0,.slice A1 d.fwds.length c1,.slice A2 d.held.length c2,.int .i64 d.size]) d):
 rdP w B (.agg #[.int .i64 d.plan.bins,.int .i64 d.plan.passes,.slice A0 d.plan.order.length c0]) d.plan∧rd w B (.slice A0 d.plan.order.length c0) d.plan.order∧rd w B (.slice A1 d.fwds.length c1) d.fwds∧rd w B (.slice A2 d.held.length c2) d.held∧Bj d.size:=by obtain⟨vo,vf,vh,h1,h2,h3,h4,h5,h6,h7⟩:=h;refine' ZEW;obtain⟨rfl,rfl,rfl⟩:=h1;exact⟨⟨_,rfl,h2,h3,h5⟩,h5,h6,h7,h4⟩
def ixI(ms:List Mis)(c:Int):Int:=if ms.findIdx (fun y=>y.id==c)<ms.length then(ms.findIdx (fun y=>y.id==c):Int)else -1
theorem AtF{ms:List Mis}{c:Int}{k:Nat}(hk:k<ms.length)(h1:∀j (hj:j<k),(ms[j].id==c)=false)(h2:(ms[k].id==c)=true):ixI ms c=k:=by have e:ms.findIdx (fun y=>y.id==c)=k:=(List.findIdx_eq hk).2 ⟨h2,h1⟩;unfold ixI;rw[e,aP hk]
theorem AyE{ms c}(h:∀j (hj:j<ms.length),(ms[j].id==c)=false):ixI ms c= -1:=by
 have e:ms.findIdx (fun y=>y.id==c)=ms.length:=List.findIdx_eq_length.2 fun x hx=>ZHE
 unfold ixI;rw[e,aL ZA]
theorem BaD{ms}{k:Nat}(hk:k<ms.length):(ixI ms ms[k].id==(k:Int))=(ms.take k).all (fun y=>y.id != ms[k].id):=by
 rw[iU,dN];constructor
 ·intro h x hx
  refine' ZEh;rw[bH]at hj;have di:j<k:=ZA
  rw[jC];have h':ixI ms ms[k].id=(k:Int):=zG
  unfold ixI at h'
  split at h'
  ·have e:ms.findIdx (fun y=>y.id==ms[k].id)=k:=ZA
   have:=((List.findIdx_eq hk).1 e).2 j di;exact zT
  ·omega
 ·intro h
  rw[AtF hk (fun j hj=>by have:=h ms[j] ZCF;exact zT) ZE]
  simp
theorem Am8(v ms c w)(hv:rd w w.heap.size v ms):
 Calls aB 344 #[v,.int .i64 c] w fun e w'=>e=.returned (.int .i64 (ixI ms c))∧w=w':=by
 refine' ZAu;refine' zk;go_enter Tryz.func344,Tryz.ntmps344;go_wp2
 go_loop[5] (fun i=>∃k:Nat,k≤ms.length∧i=.int .i64 k∧Hid (∀j (h:j<ms.length),j<k→(ms[j].id==c)=false)) (fun i=>ms.length - (intOf i).toNat)
 case atStart=>exact ZAn
 case round=>
  refine' YE;by_cases ab:k<ms.length
  ·refine' ZHm;have HX:Hid (∀h:(ms[k].id==c)=false,∀j (h1:j<ms.length),j<k+1→(ms[j].id==c)=false):=fun h j h1 hj=>ZA9
   have HY:Hid (∀h:(ms[k].id==c)=true,ixI ms c=k):=fun h=>AtF ab (fun j hj=>HG.out j ZA hj) h
   generalize ms[k]=x at *;cases he:(x.id==c)
   ·refine' zg;go_wp2
    exact ZBl
   ·refine' zg;exact ZCW
  ·have HE:Hid (ixI ms c= -1):=AyE (fun j hj=>HG.out j hj ZA)
   exact ZDf
theorem AeL{n a b r w}(h:(decide (a≤n)&&decide (n≤b))=r):Calls aB 167 #[.int .i64 n,.int .i64 a,.int .i64 b] w fun e w'=>e=.returned (.bool r)∧w=w':=by rw[←h];exact D0 n a b w
theorem X3{v ms c r w}(hv:rd w w.heap.size v ms)(h:ixI ms c=r):Calls aB 344 #[v,.int .i64 c] w fun e w'=>e=.returned (.int .i64 r)∧w=w':=by rw[←h];exact Am8 v ms c w hv
theorem AmG{p ms k}(hk:k<ms.length)(h:Bq p=true→Zh p.bins ms k=false):Jt p ms=false:=by
 cases hp:Bq p
 ·exact X8 hp
 ·exact AkG hk (h hp)
theorem Xu(v vm p ms w)(hv:rdP w w.heap.size v p)(MM:rd w w.heap.size vm ms):
 Calls aB 306 #[v,vm] w fun e w'=>e=.returned (.bool (Jt p ms))∧Below w.heap.size w w':=by
 have ev:=aA hv;have sU:=aA MM;refine' ZEy;obtain⟨A,n,cp,rfl,hn,hc,hm,hr⟩:=MM;refine' zk;obtain⟨M,HM⟩:∃M,aI.wrap (p.bins - 1)=M:=⟨_,rfl⟩;have HMB:Hid (Bq p=true→M=p.bins - 1):=fun h=>by have hb:=(De.1 h).1;rw[←HM];exact bI _ ZA
 go_enter Tryz.func306,Tryz.ntmps306;go_wp2
 go_loopw[5] (fun i wr=>∃k:Nat,k≤ms.length∧i=.int .i64 k∧Below w.heap.size w wr∧(wr.cell? ⟨w.heap.size,0,none⟩=some (.int .i64 p.bins)∧wr.cell? ⟨w.heap.size,1,none⟩=some (.int .i64 p.passes)∧wr.cell? ⟨w.heap.size,2,none⟩=some (.slice Ao p.order.length mF))∧Hid (Bq p=true→∀j,j<k→Zh p.bins ms j=true)) (fun i _=>ms.length - (intOf i).toNat)
 case atStart=>exact⟨0,aM _,rfl,(aF _ _).alloc (aD _) _,⟨zB,zB,zB⟩,fun _ j hj=>absurd hj (aX j)⟩
 case round=>
  obtain⟨k,hk,rfl,au,⟨g0,g1,g2⟩,HG⟩:=hrel;refine' ZC6;by_cases ab:k<ms.length
  ·refine' ZHm;have hG:=aA (Zn (bins:=p.bins) ab);have hO:=aA (BaD ab);have am:=aA (fun h=>AmG (p:=p) ab h);generalize ms[k]=x at *;refine' ZN4;have fy:(k:Int)<(ms.length:Int):=ZA
   have KX:=aA (fun n=>(sU.out.on au).on (Ba (aF _ _) n));cases h1:(decide (0≤x.bin)&&decide (x.bin≤M))
   ·refine' zS;have C1:=aA (fun w=>AeL (w:=w) H1.out);go_wp2
    go_quiet (first|(go_at_call 167;exact ZBB))
    refine' ZO;exact⟨Al (am.out fun hp=>by have e:=HMB.out hp;have:=H1.out;rw[e]at this;rw[hG.out,show decide (x.bin<p.bins)=decide (x.bin≤p.bins - 1)from ZCX,this];simp).symm,Ba au _⟩
   refine' zS;have C1:=aA (fun w=>AeL (w:=w) H1.out);cases h2:(decide (1≤x.id)&&decide (x.id≤9999))
   ·refine' zA;have C2:=aA (fun w=>AeL (w:=w) H2.out);go_wp2
    go_quiet (first|(go_at_call 167;exact ZHM))
    refine' ZO;exact⟨Al (am.out fun hp=>by rw[hG.out,H2.out];rfl).symm,Ba au _⟩
   refine' zA;have C2:=aA (fun w=>AeL (w:=w) H2.out);obtain⟨q,HQ⟩:∃q,Hid (ixI ms x.id=q):=⟨_,rfl⟩;have C3:=aA (fun n=>X3 (KX.out n) HQ.out);cases h3:(q==(k:Int))
   ·have H3:=aA h3
    have sO:(q != (k:Int))=true:=ZEz
    refine' ZN5;refine' ZO;exact⟨Al (am.out fun hp=>by rw[hG.out,←hO.out,HQ.out,H3.out];simp).symm,Ba au _⟩
   ·have H3:=aA h3
    have sO:(q != (k:Int))=false:=ZEz
    refine' ZN5;go_wp2
    go_roundw
    case rel=>
     refine⟨k+1,ZA,ZJ,Ba au _,⟨zB,zB,zB⟩,fun hp j hj=>?_⟩;by_cases di:j<k
     ·exact HG.out hp j di
     ·refine' ZAE;have e:=HMB.out hp;have:=H1.out;rw[e]at this;rw[hG.out,show decide (x.bin<p.bins)=decide (x.bin≤p.bins - 1)from ZCX,this,H2.out,←hO.out,HQ.out,H3.out];rfl
    case measure=>exact ZK
  ·have HE:=aA (show k=ms.length by omega)
   refine' ZC;refine(Fo _ p _ (ev.out.on au)).mono ?_;refine' zK;have B2:=au.trans (b2.mono au.size);cases hp:Bq p
   ·refine' YG;refine' ZI;exact⟨Al (X8 HP.out).symm,B2⟩
   ·refine' YG;by_cases kl:(ms.length:Int)≤60
    ·have wJ:=aA kl
     refine' ZI;exact⟨Al (by rw[AgI HP.out (by have:=wJ.out;omega) (by rw[←HE.out];exact HG.out HP.out)]),B2⟩
    ·have wJ:=aA (show¬ms.length≤60 by omega)
     have H61:=aA (aO kl)
     refine' ZI;exact⟨Al (by rw[AjG wJ.out,H61.out]),B2⟩
theorem Xv(v vm p ms w)(hv:rdP w w.heap.size v p)(MM:rd w w.heap.size vm ms):
 Calls aB 302 #[v,vm] w fun e w'=>e=.returned (.bool (Jt p ms))∧Below w.heap.size w w':=by
 have ev:=aA hv;refine' ZEy;obtain⟨A,n,cp,rfl,hn,hc,hm,hr⟩:=MM;refine' zk;have HW:=aA (fun o=>ev.out.on ((aF _ _).alloc (aD _) o));have bg:Below w.heap.size w (w.alloc (aC #[bC aI p.bins,bC aI p.passes,Value.slice Ao p.order.length mF] 30)):=(aF _ _).alloc (aD _) _;have gb:(w.alloc (aC #[bC aI p.bins,bC aI p.passes,Value.slice Ao p.order.length mF] 30)).cell? ⟨w.heap.size,0,none⟩=some (.int .i64 p.bins):=zB
 have GB:=aA gb;clear gb;have fi:=aA bg;clear bg;refine' ZN6;have jP:=aA ah;clear ah;go_enter Tryz.func302,Tryz.ntmps302
 refine' ZC;refine(Fq _ p _ (HW.out _)).mono ?_;refine' ZN7;have g0:w0.cell? ⟨w.heap.size,0,none⟩=some (.int .i64 p.bins):=(b0.cell (p:=⟨w.heap.size,0,none⟩) (by rw[jP.out];simp)).trans GB.out;have uw:w.heap.size<w0.heap.size:=by have h:=b0.size;rw[jP.out]at h;omega
 clear HW jP GB fi b0;cases hp:Bq p
 ·refine' YG;refine' ZI;exact⟨Al (X8 HP.out).symm,B0⟩
 refine' YG;by_cases kl:(60:Int)<(ms.length:Int)
 ·have wJ:=aA (show¬ms.length≤60 by omega)
  refine' ZI;exact⟨Al (AjG wJ.out).symm,B0⟩
 have JN:ms.length≤60:=ZA
 have wJ:=aA JN;clear JN
 refine' ZC;go_loopw[19] (fun i wr=>∃k:Nat,k≤ms.length∧i=.int .i64 k∧Below w.heap.size w wr∧wr.cell? ⟨w.heap.size,0,none⟩=some (.int .i64 p.bins)∧w.heap.size<wr.heap.size∧Hid (∀j,j<k→Zh p.bins ms j=true)) (fun i _=>ms.length - (intOf i).toNat)
 case atStart=>exact⟨0,aM _,rfl,B0,g0,uw,fun j hj=>absurd hj (aX j)⟩
 case round=>
  obtain⟨k,hk,rfl,au,g1,ey,HG⟩:=hrel;refine' ZC6;clear g0 B0;by_cases ab:k<ms.length
  ·refine' ZHm;have hG:=aA (Zn (bins:=p.bins) ab);have am:=aA (fun h=>AkG (p:=p) ab h);generalize hx:ms[k]=x at *;clear hx;refine' ZN4;by_cases h1:x.id<1
   exact ZCB;by_cases h2:9999<x.id
   exact ZCB;by_cases h3:x.bin<0
   exact ZCB;by_cases h4:p.bins≤x.bin
   exact ZCB;have h1':1≤x.id:=ZA
   have h2':x.id≤9999:=ZA
   have sO:0≤x.bin:=ZA
   have h4':x.bin<p.bins:=ZA
   have mw:((decide (1≤x.id)&&decide (x.id≤9999))&&(decide (0≤x.bin)&&decide (x.bin<p.bins)))=true:=by rw[aJ h1',aJ h2',aJ sO,aJ h4'];rfl
   have oh:=aA mw;clear mw;go_wp2;obtain⟨wo,ie⟩:∃wo:World,wo=w1.alloc (aC #[bC aI x.id,bC aI x.bin] 170):=⟨_,rfl⟩;have g2:wo.cell? ⟨w1.heap.size,0,none⟩=some (.int .i64 x.id):=by subst ie;simp[go_sem]
   have g3:wo.cell? ⟨w.heap.size,0,none⟩=some (.int .i64 p.bins):=by subst ie;go_simp
   refine' ZKY;go_loopw[48] (fun i wi=>∃m:Nat,m≤k∧i=.int .i64 m∧Below wo.heap.size wo wi∧Hid ((ms.take m).all (fun y=>y.id != x.id)=true)) (fun i _=>k - (intOf i).toNat)
   case atStart=>exact⟨0,aM _,rfl,aF _ _,rfl⟩
   case round=>
    refine' ZKZ;have g2':wr.cell? ⟨w1.heap.size,0,none⟩=some (.int .i64 x.id):=(rM.cell (p:=⟨w1.heap.size,0,none⟩) CF).trans g2;have g3':wr.cell? ⟨w.heap.size,0,none⟩=some (.int .i64 p.bins):=(rM.cell (p:=⟨w.heap.size,0,none⟩) ZH).trans g3;clear g2 g3 g1;by_cases ez:m<k
    ·obtain⟨b',o',hA,_,⟨p1,p2⟩,d1,d2⟩:=HR.out.mis m ZA
     have hT:=aA (Hv (p:=fun y:Mis=>y.id != x.id) ms m ZA);have hI:=aA (Od (p:=fun y:Mis=>y.id != x.id) ms m k ZA ez);generalize ms[m]=y at *;refine' ZN8;have d2':wr.cell? ⟨b,o+m*2+1,none⟩=some (.int .i64 y.bin):=(nf.cell (p:=⟨b,o+m*2+1,none⟩) hb).trans d2;exact ZKb
    ·refine' ZEK;go_roundw
     case rel=>
      refine⟨k+1,ZA,ZJ,nf,g3',ZA,fun j hj=>?_⟩;refine' ZBe
      ·refine' ZAE;rw[hG.out,oh.out,←HE.out,HA.out];rfl
     case measure=>exact ZK
  ·have HE:=aA (show k=ms.length by omega)
   refine' ZO;exact⟨Al (AgI HP.out wJ.out ZAF).symm,au⟩
theorem Bf{a b}(h:a=b):Ending.returned a=.returned b:=ZAb
theorem Mn(v fs c w)(hv:rd w w.heap.size v fs):
 Calls aB 228 #[v,.string c] w fun e w'=>e=.returned (.int .i64 (Gg fs c))∧Below w.heap.size w w':=by refine' ZAJ;go_enter Tryz.func228,Tryz.ntmps228;exact ZMk
theorem Om(v fs c w)(hv:rd w w.heap.size v fs):
 Calls aB 162 #[v,.string c] w fun e w'=>e=.returned (.int .i64 (Gg fs c))∧w=w':=by refine' ZAJ;go_enter Tryz.func162,Tryz.ntmps162;exact ZMl
theorem Hj(v fs c w)(hv:rd w w.heap.size v fs)(ax:c.size≤maxLen)(hl:fs.length≤1048576):
 Calls aB 205 #[v,.string c] w fun e w'=>e=.returned (.tuple #[.string (Bc fs c).1,.int .i64 ((Bc fs c).2.1:Nat),.bool (Bc fs c).2.2])∧Below w.heap.size w w':=by
 refine' ZMm;go_enter Tryz.func205,Tryz.ntmps205;refine' ZMn
 ·obtain⟨k,d,hk,rfl,rfl,kN,lr,HG⟩:=hrel;refine' zR;clear l0;by_cases ab:k<fs.length+1
  ·refine' ZMo;refine(Mn _ fs d _ (ev.out.on lr)).mono ?_;rw[aj.out];refine' zK;have l2:=Aa lr b2;exact ZMp
  exact ZMq
theorem It(v fs c w)(hv:rd w w.heap.size v fs)(ax:c.size≤maxLen)(hl:fs.length≤1048576):
 Calls aB 78 #[v,.string c] w fun e w'=>e=.returned (.tuple #[.string (Bc fs c).1,.int .i64 ((Bc fs c).2.1:Nat),.bool (Bc fs c).2.2])∧Below w.heap.size w w':=by
 refine' ZMm;go_enter Tryz.func78,Tryz.ntmps78;refine' ZMn
 ·obtain⟨k,d,hk,rfl,rfl,kN,lr,HG⟩:=hrel;refine' zR;clear l0;by_cases ab:k<fs.length+1
  ·refine' ZMo;refine(Om _ fs d _ (ev.out.on lr)).mono ?_;rw[aj.out];refine' zo;have l2:=lr;exact ZMp
  exact ZMq
theorem Me(n w):Calls aB 232 #[.int .i64 n] w fun e w'=>e=.returned (.bool (Fp n))∧w=w':=by
 go_enter Tryz.func232,Tryz.ntmps232;by_cases h1:1≤n
 ·refine' ZO;exact⟨Al (by simp[Fp,h1]),rfl⟩
 ·refine' ZO;exact⟨Al (by unfold Fp;rw[aO (p:=1≤n) ZA];rfl),rfl⟩
theorem Nm(n w):Calls aB 92 #[.int .i64 n] w fun e w'=>e=.returned (.bool (Fp n))∧w=w':=by
 go_enter Tryz.func92,Tryz.ntmps92
 refine' ZC;refine(D0 n 1 20 w).mono ?_;refine' ZW;obtain⟨r,HR⟩:∃r,Hid ((decide (1≤n)&&decide (n≤20))=r):=⟨_,rfl⟩;rw[HR.out]
 refine' ZI;exact⟨Al HR.out.symm,rfl⟩
theorem Ug(v xs w)(hv:rd w w.heap.size v xs):
 Calls aB 280 #[v] w fun e w'=>e=.returned (.bool (Ee xs))∧w=w':=by
 refine' ZAJ;go_enter Tryz.func280,Tryz.ntmps280;by_cases pH:(30:Int)<(xs.length:Int)
 ·have HF:Hid (Ee xs=false):=by show _=_;unfold Ee;rw[aO ZA];rfl
  refine' ZO;exact⟨Al HF.out.symm,rfl⟩
 have rS:=aA (show xs.length≤30 by omega);go_wp2
 go_loop[10] (fun i=>∃k:Nat,k≤xs.length∧i=.int .i64 k∧Hid (∀j (h:j<xs.length),j<k→Ap xs[j]=true)) (fun i=>xs.length - (intOf i).toNat)
 case atStart=>exact ZAn
 case round=>
  refine' YE;by_cases ab:k<xs.length
  ·obtain⟨b,o,rfl,hb,ag,c1⟩:=HR.out.strU k ab
   have HX:Hid (∀h:Ap xs[k]=true,∀j (h1:j<xs.length),j<k+1→Ap xs[j]=true):=fun h j h1 hj=>ZA9
   have HY:Hid (∀h:Ap xs[k]=false,Ee xs=false):=fun h=>ZMr
   refine' zp;obtain⟨r,aj⟩:∃r,Hid (Ap x=r):=⟨_,rfl⟩
   refine' ZC;refine(Cw x _ ag).mono ?_;rw[aj.out];refine' ZW;cases r
   ·refine' ZI;exact⟨Al (HY.out aj.out).symm,rfl⟩
   exact ZMs
  ·have HE:Hid (Ee xs=true):=by show _=_;unfold Ee;rw[aJ rS.out];exact List.all_eq_true.2 fun x hx=>by refine' ZEh;exact HG.out j hj ZA
   refine' ZO;exact⟨Al HE.out.symm,rfl⟩
theorem Tryz.infoStr:(aB.info? 9).map (fun i=>(i.zero,i.size,i.bytes))=some (some (.string ⟨#[]⟩),1,16):=ZB
theorem Tryz.infoFwd:(aB.info? 128).map (fun i=>(i.zero,i.size,i.bytes))=some (some (.agg #[.string ⟨#[]⟩,.string ⟨#[]⟩]),2,32):=ZB
end Go.Proofs.YtfadhdacjpmmeaaGreatDoor

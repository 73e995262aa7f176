/- Parts. -/
import Derived.Test.YtfadhdacjpmmeaaGreatDoorQ6
set_option linter.unusedVariables false
set_option linter.unusedSimpArgs false
namespace Go.Proofs.YtfadhdacjpmmeaaGreatDoor
open Go.IntKind renaming i64→aI
open Go.Obj renaming cells→aC
open Go.Proofs.Tryz renaming prog→aB
open Go.Value renaming string→aK,int→bC
open Go.RowKit
theorem As8{α:Type}{p:Nat→α→Prop}:∀{n:Nat},(∀i,i<n→∃y,p i y)→∃xs:List α,xs.length=n∧∀i (h:i<xs.length),p i xs[i]
 |0,_=>⟨[],rfl,fun i h=>absurd h (aX i)⟩
 |n+1,h=>by
  obtain⟨xs,hl,hp⟩:=As8 (n:=n) (fun i hi=>h i ZA);obtain⟨y,hy⟩:=h n ZA;refine⟨xs++[y],ZBP,fun i hi=>?_⟩;by_cases pJ:i<xs.length
  ·rw[bN pJ]
   exact hp i pJ
  ·have:i=n:=by simp at hi;omega
   subst this;refine' ZCC;simpa [hl]using hy
theorem Zb{P}(w base)(t ty e:TypeId)(i:TypeInfo)(size)(ht:P.underlying t=some (.slice e))(hi:P.info? e=some i)
 (v n xs) (fc:w.ownsRow base e size v n xs) (c):(Builtin.append_ #[t,t] ty #[v,.slice none 0 c]).run P w=.ok v w:=by
 rcases fc.2 with⟨rfl,rfl⟩|⟨g,cap,bu,rfl,_,_,yP,_⟩
 ·simp[Builtin.append_,run_underlying ht,sizeOf,typeInfo,hi,Builtin.lenOf,Builtin.firstCells]
 ·simp[Builtin.append_,run_underlying ht,sizeOf,typeInfo,hi,Builtin.lenOf,Builtin.firstCells,yP,storeCells]
theorem Ai4{α:Type}[Flat α]{P}(w base)(t ty e:TypeId)(i:TypeInfo)(z bytes)(ht:P.underlying t=some (.slice e))(hi:P.info? e=some i)(hz:i.zero=some z)
 (cj:i.size=El.size α) (nP:i.bytes=bytes) (fx:z.cells.size=El.size α) (ct:0<El.size α)
 (v xs) (fc:own e base w v xs) (vx) (ys:List α) (B) (hr:rd w B vx ys)
 (nG:xs.length+ys.length≤maxLen) (cv:(xs.length+ys.length)*bytes≤140737488355328) (du:base≤w.heap.size):
 ∃v' w',(Builtin.append_ #[t,t] ty #[v,vx]).run P w=.ok v' w'∧own e base w' v' (xs++ys)∧w.grownBy w' v.ownBlock∧(v'.ownBlock=v.ownBlock∨v'.ownBlock=some w.heap.size):=by
 refine' ZCg;obtain⟨A,n,c,rfl,hn,hc,hm,pB⟩:=hr;refine' ZPJ;have tH:∀v' w',w'.ownsRow base e (El.size α) v' (xs.length+ys.length) (gg.flatten++lX.flatten)→own e base w' v' (xs++ys):=fun v' w' ho=>by
  refine⟨gg++lX,by simpa using ho,by simp[hl,qq],fun k h1 h2=>?_⟩;refine' ZUX
  ·have fy:k - xs.length<ys.length:=by simp at h1;omega
   refine' ZGi;obtain⟨_,_,_,h,_⟩:=kN (k - xs.length) ZA fy;simp only[hl];exact Flat.free h
 cases A with
 |none=> refine' ZPL;exact⟨v,w,Zb w base t ty e i _ ht hi v _ _ jL c,tH v w (by simpa using jL),cU w _,.inl rfl⟩
 |some ad=>
  refine' ZPM;obtain⟨v',w',mQ,h2,h3,_,h5⟩:=run_append_own_at (P:=P) w base t ty e i z (El.size α) bytes ht hi hz cj nP fx ct v xs.length gg.flatten jL ad ys.length c lX.flatten (by rw[J8 mP,qq]) mM
   (fun u hu=>ZPK) nG cv du
  exact⟨v',w',mQ,tH v' w' h2,h3,h5⟩
theorem Yv{α:Type}[Flat α]{P w}{o:Oper}{a}{K:Act→World→Prop}{Q:Exit→Act→World→Prop}(s x:Operand)(t:TypeId)
 (ho:o.op=.call {callee:=.builtin .append,args:=#[s,x],argTypes:=#[t,t]})
 (base) (e:TypeId) (i:TypeInfo) (z bytes) (ht:P.underlying t=some (.slice e)) (hi:P.info? e=some i) (hz:i.zero=some z)
 (cj:i.size=El.size α) (nP:i.bytes=bytes) (fx:z.cells.size=El.size α) (ct:0<El.size α)
 (v) (xs:List α) (hs:a.eval s=v) (fc:own e base w v xs) (vx ys) (hx:a.eval x=vx) (B) (hr:rd w B vx ys)
 (nG:xs.length+ys.length≤maxLen) (cv:(xs.length+ys.length)*bytes≤140737488355328) (du:base≤w.heap.size)
 (h:∀v' w',own e base w' v' (xs++ys)→w.grownBy w' v.ownBlock→(v'.ownBlock=v.ownBlock∨v'.ownBlock=some w.heap.size)→K (a.put o.dst v') w'):o.wp P a w K Q:=by obtain⟨v',w',mQ,h2,h3,h4⟩:=Ai4 (P:=P) w base t o.type e i z bytes ht hi hz cj nP fx ct v xs fc vx ys B hr nG cv du;refine' ZIO;exact h v' w' h2 h3 h4
theorem Cu{α:Type}[Flat α]{P w ops rest o a}{Q:Exit→Act→World→Prop}(mw:o.guard=none)(s x:Operand)(t:TypeId)
 (ho:o.op=.call {callee:=.builtin .append,args:=#[s,x],argTypes:=#[t,t]})
 (base) (e:TypeId) (i:TypeInfo) (z bytes) (ht:P.underlying t=some (.slice e)) (hi:P.info? e=some i) (hz:i.zero=some z)
 (cj:i.size=El.size α) (nP:i.bytes=bytes) (fx:z.cells.size=El.size α) (ct:0<El.size α)
 (v xs) (hs:a.eval s=v) (fc:own e base w v xs) (vx) (ys:List α) (hx:a.eval x=vx) (B) (hr:rd w B vx ys)
 (nG:xs.length+ys.length≤maxLen) (cv:(xs.length+ys.length)*bytes≤140737488355328) (du:base≤w.heap.size)
 (h:∀v' w',own e base w' v' (xs++ys)→w.grownBy w' v.ownBlock→(v'.ownBlock=v.ownBlock∨v'.ownBlock=some w.heap.size)→wpList P ops Q rest (a.put o.dst v') w'):wpList P ops Q (o::rest) a w:=
 wpList_plain mw fun _ hK=>Yv s x t ho base e i z bytes ht hi hz cj nP fx ct v xs hs fc vx ys hx B hr nG cv du fun v' w' h2 h3 h4=>hK _ _ (h v' w' h2 h3 h4)
theorem AoR{α:Type}[El α]{T base n c:Nat}{A w}{xs:List α}(h:own T base w (.slice A n c) xs)(h0:0<xs.length):
 ∃g,A=some ⟨g,0,none⟩∧base≤g∧g<w.heap.size∧xs.length≤c∧c≤maxLen:=by
 rcases h.form with⟨_,h1⟩|⟨g,c',h1,h2,h3,h4,h5⟩
 ·subst h1;simp at h0
 ·injection h1 with e1 e2 e3
  subst e1 e3;exact⟨g,rfl,h2,h3,h4,h5⟩
end Go.Proofs.YtfadhdacjpmmeaaGreatDoor

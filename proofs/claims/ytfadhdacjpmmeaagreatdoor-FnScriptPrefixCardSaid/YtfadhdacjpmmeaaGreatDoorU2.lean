/- Parts. -/
import Derived.Test.YtfadhdacjpmmeaaGreatDoorU1
set_option linter.unusedVariables false
set_option linter.unusedSimpArgs false
open Go.Proofs.Tryz
open Go renaming madeCells->bF
open Go.IntKind renaming i64->aD
open Go.Obj renaming cells->aB
open Go.Value renaming string->aG,int->aH
namespace Go.Proofs.YtfadhdacjpmmeaaGreatDoor
open Go.RowKit
theorem As8{α:Type}{p:Nat->α->Prop}:∀{n:Nat},(∀i,i<n->∃y,p i y)->∃xs:List α,xs.length=n/\∀i (h:i<xs.length),p i xs[i]
 |0,_=>⟨[],rfl,fun i h=>absurd h (aX i)⟩
 |n+1,h=>by obtain⟨xs,hl,hp⟩:=As8 (n:=n) (fun i hi=>h i ZA);exact ZUj
theorem ZDO{P}(w base)(t ty e:TypeId)(i:TypeInfo)(size)(ht:P.underlying t=some (.slice e))(hi:P.info? e=some i)
 (v n xs) (ft:w.ownsRow base e size v n xs) (c):(Builtin.append_ #[t,t] ty #[v,.slice none 0 c]).run P w=.ok v w:=by
 rcases ft.2 with⟨rfl,rfl⟩|⟨g,cap,bw,rfl,_,_,DX,_⟩
 .simp[Builtin.append_,run_underlying ht,sizeOf,typeInfo,hi,Builtin.lenOf,Builtin.firstCells]
 .simp[Builtin.append_,run_underlying ht,sizeOf,typeInfo,hi,Builtin.lenOf,Builtin.firstCells,DX,storeCells]
theorem Ai4{α:Type}[Flat α]{P}(w base)(t ty e:TypeId)(i:TypeInfo)(z bytes)(ht:P.underlying t=some (.slice e))(hi:P.info? e=some i)(hz:i.zero=some z)
 (cw:i.size=El.size α) (pz:i.bytes=bytes) (gu:z.cells.size=El.size α) (cm:0<El.size α)
 (v xs) (ft:own e base w v xs) (vx) (ys:List α) (B) (hr:rd w B vx ys)
 (pA:xs.length+ys.length<=maxLen) (cz:(xs.length+ys.length)*bytes<=140737488355328) (ee:base<=w.heap.size):
 ∃v' w',(Builtin.append_ #[t,t] ty #[v,vx]).run P w=.ok v' w'/\own e base w' v' (xs++ys)/\w.grownBy w' v.ownBlock/\(v'.ownBlock=v.ownBlock\/v'.ownBlock=some w.heap.size):=by
 refine' Tz;obtain⟨A,n,c,rfl,hn,hc,hm,nU⟩:=hr;refine' ZSS;have vn:∀v' w',w'.ownsRow base e (El.size α) v' (xs.length+ys.length) (ic.flatten++np.flatten)->own e base w' v' (xs++ys):=fun v' w' ho=>by
  refine⟨ic++np,by simpa using ho,by simp[hl,rQ],fun k h1 h2=>?_⟩;refine' ZZF
  .have gq:k - xs.length<ys.length:=ZIK
   refine' ZHa;obtain⟨_,_,_,h,_⟩:=lY (k - xs.length) ZA gq;simp only[hl];exact Flat.free h
 cases A with
 |none=> refine' ZSU;exact⟨v,w,ZDO w base t ty e i _ ht hi v _ _ hrow c,vn v w (by simpa using hrow),bK w _,.inl rfl⟩
 |some ad=>
  refine' ZSV;obtain⟨v',w',oC,h2,h3,_,h5⟩:=run_append_own_at (P:=P) w base t ty e i z (El.size α) bytes ht hi hz cw pz gu cm v xs.length ic.flatten hrow ad ys.length c np.flatten (by rw[J8 oy,rQ]) ow
   (fun u hu=>ZST) pA cz ee
  exact⟨v',w',oC,vn v' w' h2,h3,h5⟩
theorem ZDM{α:Type}[Flat α]{P w}{o:Oper}{a}{K:Act->World->Prop}{Q:Exit->Act->World->Prop}(s x:Operand)(t:TypeId)
 (ho:o.op=.call {callee:=.builtin .append,args:=#[s,x],argTypes:=#[t,t]})
 (base) (e:TypeId) (i:TypeInfo) (z bytes) (ht:P.underlying t=some (.slice e)) (hi:P.info? e=some i) (hz:i.zero=some z)
 (cw:i.size=El.size α) (pz:i.bytes=bytes) (gu:z.cells.size=El.size α) (cm:0<El.size α)
 (v) (xs:List α) (hs:a.eval s=v) (ft:own e base w v xs) (vx ys) (hx:a.eval x=vx) (B) (hr:rd w B vx ys)
 (pA:xs.length+ys.length<=maxLen) (cz:(xs.length+ys.length)*bytes<=140737488355328) (ee:base<=w.heap.size)
 (h:∀v' w',own e base w' v' (xs++ys)->w.grownBy w' v.ownBlock->(v'.ownBlock=v.ownBlock\/v'.ownBlock=some w.heap.size)->K (a.put o.dst v') w'):o.wp P a w K Q:=by obtain⟨v',w',oC,h2,h3,h4⟩:=Ai4 (P:=P) w base t o.type e i z bytes ht hi hz cw pz gu cm v xs ft vx ys B hr pA cz ee;refine' ZJn;exact h v' w' h2 h3 h4
theorem Cu{α:Type}[Flat α]{P w ops rest o a}{Q:Exit->Act->World->Prop}(nW:o.guard=none)(s x:Operand)(t:TypeId)
 (ho:o.op=.call {callee:=.builtin .append,args:=#[s,x],argTypes:=#[t,t]})
 (base) (e:TypeId) (i:TypeInfo) (z bytes) (ht:P.underlying t=some (.slice e)) (hi:P.info? e=some i) (hz:i.zero=some z)
 (cw:i.size=El.size α) (pz:i.bytes=bytes) (gu:z.cells.size=El.size α) (cm:0<El.size α)
 (v xs) (hs:a.eval s=v) (ft:own e base w v xs) (vx) (ys:List α) (hx:a.eval x=vx) (B) (hr:rd w B vx ys)
 (pA:xs.length+ys.length<=maxLen) (cz:(xs.length+ys.length)*bytes<=140737488355328) (ee:base<=w.heap.size)
 (h:∀v' w',own e base w' v' (xs++ys)->w.grownBy w' v.ownBlock->(v'.ownBlock=v.ownBlock\/v'.ownBlock=some w.heap.size)->wpList P ops Q rest (a.put o.dst v') w'):wpList P ops Q (o::rest) a w:=
 wpList_plain nW fun _ hK=>ZDM s x t ho base e i z bytes ht hi hz cw pz gu cm v xs hs ft vx ys hx B hr pA cz ee fun v' w' h2 h3 h4=>hK _ _ (h v' w' h2 h3 h4)
theorem AoR{α:Type}[El α]{T base n c:Nat}{A w}{xs:List α}(h:own T base w (.slice A n c) xs)(h0:0<xs.length):
 ∃g,A=some ⟨g,0,none⟩/\base<=g/\g<w.heap.size/\xs.length<=c/\c<=maxLen:=by
 rcases h.form with⟨_,h1⟩|⟨g,c',h1,h2,h3,h4,h5⟩
 .subst h1;simp at h0
 .injection h1 with e1 e2 e3
  subst e1 e3;exact⟨g,rfl,h2,h3,h4,h5⟩
end Go.Proofs.YtfadhdacjpmmeaaGreatDoor

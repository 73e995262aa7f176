/- Parts. -/
import Derived.Test.YtfadhdacjpmmeaaGreatDoorU2
import Derived.Test.YtfadhdacjpmmeaaGreatDoorU3
set_option linter.unusedVariables false
set_option linter.unusedSimpArgs false
open Go.Proofs.Tryz
open Go renaming madeCells->bF
open Go.IntKind renaming i64->aD
open Go.Obj renaming cells->aB
open Go.Value renaming string->aG,int->aH
namespace Go.Proofs.YtfadhdacjpmmeaaGreatDoor
open Go.RowKit
instance elVal:El Value where
 size:=1
 el _ _ x cs:=cs=[x]/\x.oneCell'=true
 len h:=by rw[h.1];rfl
 more h _:=h
 keep h _:=h
 one h:=by rw[h.1];intro u hu;simp at hu;rw[hu];exact h.2
instance flatVal:Flat Value where
 free h:=h
instance elRow {α:Type} [El α]:El (List α) where
 size:=1
 el w B x cs:=∃v,cs=[v]/\rd w B v x
 len h:=by obtain⟨v,rfl,_⟩:=h;rfl
 more h hB:=by obtain⟨v,h1,h2⟩:=h;exact⟨v,h1,h2.more hB⟩
 keep h hk:=by obtain⟨v,h1,h2⟩:=h;exact⟨v,h1,h2.keep hk⟩
 one h:=by obtain⟨v,rfl,A,n,c,rfl,_⟩:=h;intro u hu;simp at hu;rw[hu];rfl
theorem rdA.rowU{α:Type}[El α]{w A}{xss:List (List α)}(h:rdA w w.heap.size A xss)(k)(hk:k<xss.length):
 ∃b o v,A=some ⟨b,o,none⟩/\b<w.heap.size/\R_ w v xss[k]/\(∀W,B_ w W->W.cell? ⟨b,o+k,none⟩=some v):=by
 obtain⟨b,o,cs,hA,hb,⟨v,rfl,hv⟩,hc⟩:=h k hk;have c1:w.cell? ⟨b,o+k,none⟩=some v:=Rn
 exact⟨b,o,v,hA,hb,hv,fun W hW=>(hW.cell (p:=⟨b,o+k,none⟩) hb).trans c1⟩
theorem Br{v v'}(h:apart v v'):apart v' v:=by
 unfold apart at *;rcases h with h|h
 .rw[h]
  cases v'.ownBlock with
  |none=>exact .inl rfl
  |some k=>exact .inr ZF
 .exact .inr (Ne.symm h)
def Fi{α:Type}[El α](T1 T2:TypeId)(base:Nat)(w:World)(v:Value)(xss:List (List α))(vs:List Value):Prop:=
 own T1 base w v vs/\vs.length=xss.length/\(∀k (h:k<vs.length) (h':k<xss.length),own T2 base w vs[k] xss[k])/\(∀j k (hj:j<vs.length) (hk:k<vs.length),j≠k->apart vs[j] vs[k])/\(∀k (h:k<vs.length),apart vs[k] v)
def Fu{α:Type}[El α](T1 T2:TypeId)(base:Nat)(w:World)(v:Value)(xss:List (List α)):Prop:=∃vs:List Value,Fi T1 T2 base w v xss vs
def D7(u v:Value)(vs:List Value):Prop:=apart u v/\∀k (h:k<vs.length),apart u vs[k]
section
variable{α:Type}[Flat α]{T1 T2:TypeId}{base:Nat}{w w':World}{v:Value}{xss:List (List α)}
theorem Fi.below{vs}(h:Fi T1 T2 base w v xss vs)(hb:B_ w w'):Fi T1 T2 base w' v xss vs:=by refine' fQ;exact⟨h1.below hb,h2,fun k a b=>(h3 k a b).below hb,h4,h5⟩
theorem Fi.grown{vs row}(h:Fi T1 T2 base w v xss vs)(hg:w.grownBy w' row)(hv:v.ownBlock=none\/v.ownBlock≠row)(CL:∀k (h:k<vs.length),vs[k].ownBlock=none\/vs[k].ownBlock≠row):Fi T1 T2 base w' v xss vs:=by refine' fQ;exact⟨h1.grown hg hv,h2,fun k a b=>(h3 k a b).grown hg (CL k a),h4,h5⟩
theorem Fi.base_{base' vs}(h:Fi T1 T2 base w v xss vs)(hb:base'<=base):Fi T1 T2 base' w v xss vs:=by refine' fQ;exact⟨h1.base_ hb,h2,fun k a b=>(h3 k a b).base_ hb,h4,h5⟩
theorem Fu.base_{base'}(h:Fu T1 T2 base w v xss)(hb:base'<=base):Fu T1 T2 base' w v xss:=by obtain⟨vs,h1,h2,h3,h4,h5⟩:=h;exact⟨vs,h1.base_ hb,h2,fun k a b=>(h3 k a b).base_ hb,h4,h5⟩
theorem Fu.form(h:Fu T1 T2 base w v xss):v=.slice none 0 0/\xss=[]\/∃g c,v=.slice (P_ g) xss.length c/\base<=g/\g<w.heap.size/\xss.length<=c/\c<=maxLen:=by obtain⟨vs,h1,h2,_⟩:=h;exact ZSO
theorem Ff{g n c vs}(h:own T1 base w (.slice (P_ g) n c) vs)(k)(hk:k<vs.length):w.cell? ⟨g,k,none⟩=some vs[k]:=by refine' Rj;obtain⟨b,o,cs,hA,_,⟨rfl,_⟩,hc⟩:=nU k hk;refine' V0;exact Rn
theorem Fu.rd(h:Fu T1 T2 base w v xss):R_ w v xss:=by
 refine' ZSP
 .obtain⟨vs,h1,h2,h3,_⟩:=h
  refine⟨_,_,_,rfl,rfl,hc,hm,fun k hk=>⟨g,0,[vs[k]' ZA],rfl,ab,⟨_,rfl,(h3 k ZA hk).rd⟩,fun j u hu=>?_⟩⟩;refine' ZJZ;have:=Ff h1 k ZA;rw[show 0+(k*El.size (List α)+0)=k by show 0+(k*1+0)=k;omega];exact this
end
theorem I3{α:Type}[Flat α](w:World)(T1 T2:TypeId)(n base)(hb:base<=w.heap.size)(hn:n<=maxLen):Fu (α:=α) T1 T2 base (w.alloc (.cells (bF #[.slice none 0 0] n) T1)) (.slice (P_ w.heap.size) n n) (List.replicate n []):=by
 have hf:Ck T1 (w.alloc (.cells (bF #[.slice none 0 0] n) T1)) w.heap.size n n (List.replicate n (Value.slice none 0 0)):=by refine⟨bF #[.slice none 0 0] n,bC w _,iG,fun i hi pT=>⟨[.slice none 0 0],⟨ZF,by rw[ZDV];rfl⟩,fun j u hu=>?_⟩⟩;refine' ZJZ;rw[show i*El.size Value+0=i from eF i];simp[bF,Nat.mod_one,show i<n by exact Sr]
 refine⟨List.replicate n (.slice none 0 0),hf.own ZF hb hn,ZF,fun k h h'=>?_,fun j k hj hk _=>.inl ?_,fun k h=>.inl ?_⟩
 .simp only[ZDV];exact zj
 .simp only[ZDV];rfl
 .simp only[ZDV];rfl
theorem Fi.push{α:Type}[Flat α]{T1 T2 base G n c:Nat}{w w1 vs xss}{y:α}{v' d}
 (h:Fi T1 T2 base w (.slice (P_ G) n c) xss vs)
 (hd:d<vs.length) (oe:d<xss.length) (ho:own T2 base w1 v' (xss[d]++[y])) (hg:w.grownBy w1 vs[d].ownBlock) (ha:v'.ownBlock=vs[d].ownBlock\/v'.ownBlock=some w.heap.size):
 Fi T1 T2 base (w1.setCell ⟨G,d,none⟩ v') (.slice (P_ G) n c) (xss.set d (xss[d]++[y])) (vs.set d v'):=by
 refine' fQ;have je:v'.oneCell'=true:=by rcases ho.form with⟨rfl,_⟩|⟨g,c,rfl,_⟩<;>rfl
 have hbG:(Value.slice (P_ G) n c).ownBlock=some G:=rfl;have hG:=h1.blk G rfl;have q1:own T1 base w1 (.slice (P_ G) n c) vs:=h1.grown hg (.inr (by
  have:=h5 d hd;unfold apart at this;rcases this with h|h
  .rw[h,hbG];simp
  .exact Ne.symm h))
 have q2:=q1.setCell (k:=d) (j:=0) hd ZE v' v' (fun ecs he=>by obtain⟨rfl,_⟩:=he;exact⟨rfl,je⟩)
 rw[show d*El.size Value+0=d from eF d]at q2;have NY:w1.grownBy (w1.setCell ⟨G,d,none⟩ v') (some G):=Gc (bK _ _) (.inl rfl) _;have hvG:apart v' (.slice (P_ G) n c):=by
  unfold apart;rcases ha with h|h
  .rw[h];exact h5 d hd
  .rw[h,hbG];refine' YQ;exact ZY
 refine⟨q2,by simp[h2],fun k h h'=>?_,fun j k hj hk ay=>?_,fun k h=>?_⟩
 .by_cases yU:k=d
  .subst yU
   refine' U2;exact ho.grown NY hvG
  .refine' ZJm;have lv:k<vs.length:=zI
   have jp:k<xss.length:=by{simpa using h'};exact((h3 k lv jp).grown hg (h4 k d lv hd yU)).grown NY (h5 k lv)
 .have vQ:j<vs.length:=Qy
  have gj:k<vs.length:=zP
  have NZ:∀i (hi:i<vs.length),i≠d->apart vs[i] v':=fun i hi hid=>by
   rcases ha with h|h
   .have:=h4 i d hi hd hid
    unfold apart at *;rw[h];exact this
   .unfold apart
    cases hb:vs[i].ownBlock with
    |none=>exact .inl rfl
    |some b=> refine' YQ;rw[h]at e;refine' YC;have:=((h3 i hi ZA).blk b hb).2;omega
  by_cases hjd:j=d
  .subst hjd
   refine' U2;rw[fP ZA];exact Br (NZ k gj ZA)
  .by_cases yU:k=d
   .subst yU
    refine' U2;rw[fP ZA];exact NZ j vQ hjd
   .refine' ZJm;exact h4 j k vQ gj ay
 .by_cases yU:k=d
  .subst yU;refine' U2;exact hvG
  .rw[fP ZA];exact h5 k zI
theorem AuV{v g n c}(h:some g≠v.ownBlock):apart (.slice (P_ g) n c) v:=.inr h
theorem Dg{u v g n c B}(h:apart u v)(hg:some g=u.ownBlock\/g=B)(hv:∀j,v.ownBlock=some j->j<B):apart (.slice (P_ g) n c) v:=by
 refine AuV fun e=>?_
 rcases hg with hg|hg
 .unfold apart at h
  rcases h with h|h
  .rw[h]at hg;cases hg
  .exact h (hg.symm.trans e)
 .have:=hv g e.symm
  omega
theorem Kj{α:Type}[Flat α]{T1 T2 base:Nat}{w v u}{xss:List (List α)}{vs g n c B}(h:Fi T1 T2 base w v xss vs)(hf:D7 u v vs)(hg:some g=u.ownBlock\/g=B)(hB:w.heap.size<=B):D7 (.slice (P_ g) n c) v vs:=by refine' fQ;exact⟨Dg hf.1 hg fun j hj=>bR (h1.blk j hj).2 hB,fun k hk=>Dg (hf.2 k hk) hg fun j hj=>bR ((h3 k hk ZA).blk j hj).2 hB⟩
theorem AuZ{u v vs d v'}(hf:D7 u v vs)(h:apart u v'):D7 u v (vs.set d v'):=by
 refine⟨hf.1,fun k hk=>?_⟩;by_cases yU:d=k
 .subst yU;refine' U2;exact h
 .rw[fP yU];exact hf.2 k zP
theorem Eh{α:Type}[Flat α]{T1 T2 base G n c d g m cap:Nat}{w3 W w4 vs xss}{zs rest:List α}{x:α}{u o}
 (hB:Fi T1 T2 base w3 (.slice (P_ G) n c) xss vs) (hO:own T2 base w3 o rest) (hF:D7 o (.slice (P_ G) n c) vs) (hW:B_ w3 W)
 (hd:d<vs.length) (oe:d<xss.length) (hu:u=vs[d]) (hz:zs=xss[d]) (ho:own T2 base w4 (.slice (P_ g) m cap) (zs++[x])) (hg:W.grownBy w4 u.ownBlock) (ha:some g=u.ownBlock\/g=W.heap.size):
 Fi T1 T2 base (w4.setCell ⟨G,d,none⟩ (.slice (P_ g) m cap)) (.slice (P_ G) n c) (xss.set d (xss[d]++[x])) (vs.set d (.slice (P_ g) m cap))
 /\own T2 base (w4.setCell ⟨G,d,none⟩ (.slice (P_ g) m cap)) o rest/\D7 o (.slice (P_ G) n c) (vs.set d (.slice (P_ g) m cap)):=by
 subst hu hz;have yk:=hB.below hW;have hOW:=hO.below hW;refine⟨yk.push hd oe ho hg ?_,?_,?_⟩
 .rcases ha with h|h
  .exact .inl h
  .exact .inr (by rw[h];rfl)
 .exact(hOW.grown hg (hF.2 d hd)).grown (Gc (bK _ _) (.inl rfl) _) hF.1
 .exact AuZ hF (Br (Dg (Br (hF.2 d hd)) ha fun j hj=>(hOW.blk j hj).2))
theorem Ex{a W w4 G d g m cap row}(hW:B_ a W)(hg:W.grownBy w4 row)(hr:∀k,row=some k->a.heap.size<=k)(hG:a.heap.size<=G):B_ a (w4.setCell ⟨G,d,none⟩ (.slice (P_ g) m cap)):=
 (hW.grown hg hW.size hr).setCell (p:=⟨G,d,none⟩) hG _
theorem Ft(w:World)(T:TypeId)(cs:List Value):∀j u,cs[j]? =some u->(w.alloc (.cells cs.toArray T)).drew.cell? ((⟨w.heap.size,0,none⟩:Addr).add j)=some u:=Bz w T cs
section
variable{α:Type}[Flat α]{P:Program}{w:World}
theorem ApW(base)(t ty e:TypeId)(i:TypeInfo)(z bytes)(ht:P.underlying t=some (.slice e))(hi:P.info? e=some i)(hz:i.zero=some z)
 (cw:i.size=El.size α) (pz:i.bytes=bytes) (gu:z.cells.size=El.size α) (cm:0<El.size α)
 (v xs) (y:α) (ft:own e base w v xs)
 (ad c cs) (lx:El.el w w.heap.size y cs) (fa:∀j u,cs[j]? =some u->w.cell? (ad.add j)=some u)
 (pA:xs.length+1<=maxLen) (cz:(xs.length+1)*bytes<=140737488355328) (ee:base<=w.heap.size):
 ∃g cap w',(Builtin.append_ #[t,t] ty #[v,.slice (some ad) 1 c]).run P w=.ok (.slice (P_ g) (xs.length+1) cap) w'/\own e base w' (.slice (P_ g) (xs.length+1) cap) (xs++[y])/\w.grownBy w' v.ownBlock/\(some g=v.ownBlock\/g=w.heap.size)/\g<w'.heap.size:=by
 refine' Tz;obtain⟨v',w',oC,h2,h3,_,h5⟩:=run_append_own_at (P:=P) w base t ty e i z (El.size α) bytes ht hi hz cw pz gu cm v xs.length ic.flatten hrow ad 1 c cs ZGB fa (El.one lx) pA cz ee;have ho:own e base w' v' (xs++[y]):=⟨ic++[cs],V2,X2,fun k h1 h2=>Sq⟩
 rcases ho.form with⟨_,hx⟩|⟨g,cap,hv,_,ab,_⟩
 .exact Wt
 .rw[aT,cE]at hv
  subst hv;refine⟨g,cap,w',oC,ho,h3,?_,ab⟩;rcases h5 with h|h
  .exact .inl h
  .injection h with h;exact .inr h
theorem AfN{o:Oper}{a}{K:Act->World->Prop}{Q:Exit->Act->World->Prop}(s x:Operand)(t:TypeId)
 (ho:o.op=.call {callee:=.builtin .append,args:=#[s,x],argTypes:=#[t,t]})
 (base) (e:TypeId) (i:TypeInfo) (z bytes) (ht:P.underlying t=some (.slice e)) (hi:P.info? e=some i) (hz:i.zero=some z)
 (cw:i.size=El.size α) (pz:i.bytes=bytes) (gu:z.cells.size=El.size α) (cm:0<El.size α)
 (v xs) (y:α) (hs:a.eval s=v) (ft:own e base w v xs)
 (ad c cs) (hx:a.eval x=.slice (some ad) 1 c) (lx:El.el w w.heap.size y cs) (fa:∀j u,cs[j]? =some u->w.cell? (ad.add j)=some u)
 (pA:xs.length+1<=maxLen) (cz:(xs.length+1)*bytes<=140737488355328) (ee:base<=w.heap.size)
 (h:∀g cap w',own e base w' (.slice (P_ g) (xs.length+1) cap) (xs++[y])->w.grownBy w' v.ownBlock->(some g=v.ownBlock\/g=w.heap.size)->g<w'.heap.size->K (a.put o.dst (.slice (P_ g) (xs.length+1) cap)) w'):o.wp P a w K Q:=by obtain⟨g,cap,w',oC,h2,h3,h4,h5⟩:=ApW (P:=P) base t o.type e i z bytes ht hi hz cw pz gu cm v xs y ft ad c cs lx fa pA cz ee;refine' ZJn;exact h g cap w' h2 h3 h4 h5
theorem Ce{ops o a}{K:Act->World->Prop}{Q:Exit->Act->World->Prop}{E:Prop}(nW:o.guard=none)(s x:Operand)(t:TypeId)
 (ho:o.op=.call {callee:=.builtin .append,args:=#[s,x],argTypes:=#[t,t]})
 (base) (e:TypeId) (i:TypeInfo) (z bytes) (ht:P.underlying t=some (.slice e)) (hi:P.info? e=some i) (hz:i.zero=some z)
 (cw:i.size=El.size α) (pz:i.bytes=bytes) (gu:z.cells.size=El.size α) (cm:0<El.size α)
 (v xs) (y:α) (hs:a.eval s=v) (ft:own e base w v xs)
 (ad c cs) (hx:a.eval x=.slice (some ad) 1 c) (lx:El.el w w.heap.size y cs) (fa:∀j u,cs[j]? =some u->w.cell? (ad.add j)=some u)
 (pA:xs.length+1<=maxLen) (cz:(xs.length+1)*bytes<=140737488355328) (ee:base<=w.heap.size)
 (h:∀g cap w',own e base w' (.slice (P_ g) (xs.length+1) cap) (xs++[y])->w.grownBy w' v.ownBlock->(some g=v.ownBlock\/g=w.heap.size)->g<w'.heap.size->K (a.put o.dst (.slice (P_ g) (xs.length+1) cap)) w'):
 if Region.wanted o (yielded ops a.tmps)=true then Oper.wp P o a w K Q else E:=by refine' ZSQ;exact AfN s x t ho base e i z bytes ht hi hz cw pz gu cm v xs y hs ft ad c cs hx lx fa pA cz ee h
theorem An{ops rest o a}{Q:Exit->Act->World->Prop}(nW:o.guard=none)(s x:Operand)(t:TypeId)
 (ho:o.op=.call {callee:=.builtin .append,args:=#[s,x],argTypes:=#[t,t]})
 (base) (e:TypeId) (i:TypeInfo) (z bytes) (ht:P.underlying t=some (.slice e)) (hi:P.info? e=some i) (hz:i.zero=some z)
 (cw:i.size=El.size α) (pz:i.bytes=bytes) (gu:z.cells.size=El.size α) (cm:0<El.size α)
 (v xs) (y:α) (hs:a.eval s=v) (ft:own e base w v xs)
 (ad c cs) (hx:a.eval x=.slice (some ad) 1 c) (lx:El.el w w.heap.size y cs) (fa:∀j u,cs[j]? =some u->w.cell? (ad.add j)=some u)
 (pA:xs.length+1<=maxLen) (cz:(xs.length+1)*bytes<=140737488355328) (ee:base<=w.heap.size)
 (h:∀g cap w',own e base w' (.slice (P_ g) (xs.length+1) cap) (xs++[y])->w.grownBy w' v.ownBlock->(some g=v.ownBlock\/g=w.heap.size)->g<w'.heap.size->wpList P ops Q rest (a.put o.dst (.slice (P_ g) (xs.length+1) cap)) w'):wpList P ops Q (o::rest) a w:=
 wpList_plain nW fun _ hK=>AfN s x t ho base e i z bytes ht hi hz cw pz gu cm v xs y hs ft ad c cs hx lx fa pA cz ee fun g cap w' h2 h3 h4 h5=>hK _ _ (h g cap w' h2 h3 h4 h5)
end
end Go.Proofs.YtfadhdacjpmmeaaGreatDoor

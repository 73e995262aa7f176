/- Parts. -/
import Derived.Test.YtfadhdacjpmmeaaGreatDoorY
import Derived.WalkSpells
import Derived.WalkLawsBesides
import Derived.Deep.AppendLies
import Derived.Test.YtfadhdacjpmmeaaGreatDoorRows
import Derived.BigQuiet
set_option linter.unusedVariables false
set_option linter.unusedSimpArgs false
set_option maxHeartbeats 16000000
open Go.Proofs.Tryz
open Go renaming madeCells->bF
open Go.IntKind renaming i64->aD
open Go.Obj renaming cells->aB
open Go.Value renaming string->aG,int->aH
namespace Go.Proofs.YtfadhdacjpmmeaaGreatDoor
open Go.RowKit
theorem Al{a b}(h:a=b):Ending.returned (.bool a)=.returned (.bool b):=eO
theorem Bo{k a b}(h:a=b):Ending.returned (.int k a)=.returned (.int k b):=eO
theorem B8{a b}(h:a=b):Ending.returned (.string a)=.returned (.string b):=eO
theorem toList_inj{s t:Y_}:s.toList=t.toList↔s=t:=
 ⟨fun h=>by rw[bU,bU]at h;exact WideShapes.bytes_inj h,fun h=>eO⟩
def zU(s t:Y_):Bool:=s.toList==t.toList
theorem Ec{s t}:zU s t=true↔s=t:=by unfold zU;rw[dI,toList_inj]
theorem Mq(s):zU s s=true:=Ec.2 rfl
theorem F6{s t}:zU s t=false↔s≠t:=by rw[<-fC,Ec]
theorem BdW(a:Addr)(n):(a.add n).block=a.block:=by unfold Addr.add;exact gU
theorem Ii(b o n):(⟨b,o,none⟩:Addr).add n=⟨b,o+n,none⟩:=by unfold Addr.add;split<;>simp_all
class El (α:Type) where
 size:Nat
 el:World->Nat->α->List Value->Prop
 len:∀{w B x cs},el w B x cs->cs.length=size
 more:∀{w B B' x cs},el w B x cs->B<=B'->el w B' x cs
 keep:∀{w w' B x cs},el w B x cs->(∀p:Addr,p.block<B->w'.cell? p=w.cell? p)->el w' B x cs
 one:∀{w B x cs},el w B x cs->∀u∈cs,u.oneCell'=true
def rdA{α:Type}[El α](w:World)(B:Nat)(A:Option Addr)(xs:List α):Prop:=
 ∀k (h:k<xs.length),∃b o cs,A=some ⟨b,o,none⟩/\b<B/\El.el w B xs[k] cs/\∀j u,cs[j]? =some u->w.cell? ⟨b,o+(k*El.size α+j),none⟩=some u
def rd{α:Type}[El α](w:World)(B:Nat)(v:Value)(xs:List α):Prop:=
 ∃(A:Option Addr) (n c:Nat),v=.slice A n c/\n=xs.length/\n<=c/\c<=maxLen/\rdA w B A xs
abbrev R_{α}[El α](w:World)(v:Value)(xs:List α):Prop:=rd w w.heap.size v xs
section
variable{α:Type}[El α]{w w':World}{B B':Nat}{A:Option Addr}{v:Value}{xs:List α}
theorem rdA.keep(h:rdA w B A xs)(hk:∀p:Addr,p.block<B->w'.cell? p=w.cell? p):rdA w' B A xs:=fun k hl=>by obtain⟨b,o,cs,hA,hb,he,hc⟩:=h k hl;exact⟨b,o,cs,hA,hb,El.keep he hk,fun j u hu=>(hk _ hb).trans (hc j u hu)⟩
theorem rdA.more(h:rdA w B A xs)(hB:B<=B'):rdA w B' A xs:=fun k hl=>by obtain⟨b,o,cs,hA,hb,he,hc⟩:=h k hl;exact⟨b,o,cs,hA,bR hb hB,El.more he hB,hc⟩
theorem rdA.below(h:rdA w B A xs)(hb:Below B w w'):rdA w' B A xs:=h.keep fun _ hp=>hb.cell hp
theorem rdA.nil_:rdA w B A ([]:List α):=fun k h=>absurd h (aX k)
theorem rd.keep(h:rd w B v xs)(hk:∀p:Addr,p.block<B->w'.cell? p=w.cell? p):rd w' B v xs:=by obtain⟨A,n,c,h1,h2,h3,h4,h5⟩:=h;exact⟨A,n,c,h1,h2,h3,h4,h5.keep hk⟩
theorem rd.more(h:rd w B v xs)(hB:B<=B'):rd w B' v xs:=by obtain⟨A,n,c,h1,h2,h3,h4,h5⟩:=h;exact⟨A,n,c,h1,h2,h3,h4,h5.more hB⟩
theorem rd.below(h:rd w B v xs)(hb:Below B w w'):rd w' B v xs:=h.keep fun _ hp=>hb.cell hp
theorem rd.on(h:R_ w v xs)(hb:B_ w w'):R_ w' v xs:=(h.below hb).more hb.size
theorem rdA.on(h:rdA w w.heap.size A xs)(hb:B_ w w'):rdA w' w'.heap.size A xs:=(h.below hb).more hb.size
theorem rd.nil_:rd w B (.slice none 0 0) ([]:List α):=⟨none,0,0,rfl,rfl,aC _,aN _,rdA.nil_⟩
theorem rd.mk{n c}(hn:n=xs.length)(hc:n<=c)(hm:c<=maxLen)(h:rdA w B A xs):rd w B (.slice A n c) xs:=⟨A,n,c,rfl,hn,hc,hm,h⟩
theorem rdA.take(h:rdA w B A xs)(k):rdA w B A (xs.take k):=fun j hj=>by
 have vQ:j<xs.length:=Wx
 obtain⟨b,o,cs,hA,hb,he,hc⟩:=h j vQ;exact⟨b,o,cs,hA,hb,by simpa using he,hc⟩
theorem rd.take{n c A}(h:rd w B (.slice A n c) xs){k}(hk:k<=xs.length):rd w B (.slice A k c) (xs.take k):=by refine' ZZC;exact⟨A,k,c,rfl,ZH,ZA,h4,h5.take k⟩
theorem rdA.drop(h:rdA w B A xs)(k):rdA w B (A.map (·.add (k*El.size α))) (xs.drop k):=fun j hj=>by
 have vQ:k+j<xs.length:=Wx
 obtain⟨b,o,cs,hA,hb,he,hc⟩:=h (k+j) vQ;subst hA;refine⟨b,o+k*El.size α,cs,by simp[Ii],hb,by simpa using he,fun i u hu=>?_⟩;rw[show o+k*El.size α+(j*El.size α+i)=o+((k+j)*El.size α+i) by rw[eW];omega];exact hc i u hu
theorem rd.drop{n c A}(h:rd w B (.slice A n c) xs){k}(hk:k<=xs.length):
 rd w B (.slice (if c=k then A else A.map (·.add (k*El.size α))) (n - k) (c - k)) (xs.drop k):=by
 refine' ZZC;refine⟨_,_,_,rfl,ZH,ZA,ZA,?_⟩;by_cases e:c=k
 .rw[aQ e]
  intro j hj;exact Wx
 .rw[aM e]
  exact h5.drop k
end
theorem Ba{B a w}(h:Below B a w)(n):Below B a (w.drewN n):=⟨h.os,h.tape,h.output,h.size,h.block⟩
theorem AhC(w:World)(cs)(T:TypeId)(i):(w.alloc (.cells cs T)).cell? ⟨w.heap.size,i,none⟩=cs[i]? :=by rw[eG _ _ _ _ _ _ (bC w _)]
def own{α:Type}[El α](T:TypeId)(base:Nat)(w:World)(v:Value)(xs:List α):Prop:=
 ∃ic:List (List Value),w.ownsRow base T (El.size α) v xs.length ic.flatten/\ic.length=xs.length/\∀k (h:k<xs.length) (h':k<ic.length),El.el w w.heap.size xs[k] ic[k]
theorem J8{α:Type}{n}:∀{l:List (List α)},(∀x∈l,x.length=n)->l.flatten.length=l.length*n
 |[],_=>ZF
 |x::l,h=>by rw[dC,aT,J8 (fun y hy=>h y (bN _ hy)),h x (fY ..),dA,eW];omega
theorem ZBU{α:Type}{n}:∀{l:List (List α)} (_:∀x∈l,x.length=n) {k j:Nat} (hk:k<l.length) (_:j<n),l.flatten[k*n+j]? =(l[k])[j]?
 |[],_,k,j,hk,_=>absurd hk (aX k)
 |x::l,h,0,j,_,hj=>by refine' ZHH;simp only[fG,bV,dC,dE];rw[ZDy ZA]
 |x::l,h,k+1,j,hk,hj=>by refine' ZHH;simp only[dC,ZBi];rw[List.getElem?_append_right (by rw[hx,eW];omega),hx,show(k+1)*n+j - n=k*n+j by rw[eW];omega];exact ZBU (fun y hy=>h y (bN _ hy)) zP hj
section
variable{α:Type}[El α]{T:TypeId}{base:Nat}{w w':World}{v:Value}{xs:List α}
theorem own.nil_(w)(T:TypeId)(base):own T base w (.slice none 0 0) ([]:List α):=⟨[],World.ownsRow_nil _ _ _ _,rfl,fun k h=>absurd h (aX k)⟩
theorem own.form(h:own T base w v xs):v=.slice none 0 0/\xs=[]\/∃g c,v=.slice (P_ g) xs.length c/\base<=g/\g<w.heap.size/\xs.length<=c/\c<=maxLen:=by
 refine' ZHI;rcases h2 with⟨rfl,hn⟩|⟨g,cap,bw,rfl,hg,hh,hc,hm,_⟩
 .exact .inl ⟨rfl,bW hn⟩
 .exact .inr ⟨g,cap,rfl,hg,(Array.getElem?_eq_some_iff.1 hh).1,hc,hm⟩
theorem own.rd(h:own T base w v xs):R_ w v xs:=by
 have hf:=h.form;obtain⟨ic,ho,hl,he⟩:=h;rcases hf with⟨rfl,rfl⟩|⟨g,c,rfl,hg,ab,hc,hm⟩
 .exact rd.nil_
 .refine⟨_,_,_,rfl,rfl,hc,hm,fun k hk=>⟨g,0,ic[k]' ZA,rfl,ab,he k hk ZA,fun j u hu=>?_⟩⟩
  have ax:∀x∈ic,x.length=El.size α:=fun x hx=>by refine' ZEu;exact El.len (he i ZA hi)
  have hj:j<El.size α:=by have:=(List.getElem?_eq_some_iff.1 hu).1;rw[ax _ (aS ..)]at this;exact this
  have:=ho.cells (g:=g) rfl (k*El.size α+j) u (by rw[ZBU ax ZA hj];exact hu)
  rwa [Ii]at this
theorem AiB{E:TypeId}{size n cs}(h:w.ownsRow base E size v n cs)(hb:B_ w w'):w'.ownsRow base E size v n cs:=
 h.kept (row:=none) ⟨hb.os,hb.tape,hb.output,hb.size,fun k hk _=>hb.block k hk⟩ (by cases hv:v.ownBlock<;>simp)
theorem own.below(h:own T base w v xs)(hb:B_ w w'):own T base w' v xs:=by obtain⟨ic,ho,hl,he⟩:=h;exact⟨ic,AiB ho hb,hl,fun k h1 h2=>El.more (El.keep (he k h1 h2) fun _ hp=>hb.cell hp) hb.size⟩
theorem own.base_{base'}(h:own T base w v xs)(hb:base'<=base):own T base' w v xs:=by
 obtain⟨ic,⟨h1,h2⟩,hl,he⟩:=h;refine⟨ic,⟨h1,?_⟩,hl,he⟩;rcases h2 with h2|⟨g,cap,bw,hv,hg,r⟩
 .exact .inl h2
 .exact .inr ⟨g,cap,bw,hv,aI hb hg,r⟩
theorem own.alloc(h:own T base w v xs)(o):own T base (w.alloc o) v xs:=h.below ((aF _ _).alloc (aC _) o)
theorem own.drew(h:own T base w v xs):own T base w.drew v xs:=h.below (aF _ _).drew
theorem own.blk(h:own T base w v xs):∀k,v.ownBlock=some k->base<=k/\k<w.heap.size:=by obtain⟨ic,ho,_⟩:=h;exact ho.lt
end
class Flat (α:Type) extends El α where
 free:∀{w w' B B' x cs},toEl.el w B x cs->toEl.el w' B' x cs
theorem own.grown{α:Type}[Flat α]{T:TypeId}{base w w' v}{xs:List α}{row}(h:own T base w v xs)(hg:w.grownBy w' row)(ay:v.ownBlock=none\/v.ownBlock≠row):own T base w' v xs:=by obtain⟨ic,ho,hl,he⟩:=h;exact⟨ic,ho.kept hg ay,hl,fun k h1 h2=>Flat.free (he k h1 h2)⟩
theorem Vk{α:Type}[Flat α]{P w ops rest o a}{Q:Exit->Act->World->Prop}(nW:o.guard=none)(s x:Operand)(t:TypeId)
 (ho:o.op=.call {callee:=.builtin .append,args:=#[s,x],argTypes:=#[t,t]})
 (base) (e:TypeId) (i:TypeInfo) (z bytes) (ht:P.underlying t=some (.slice e)) (hi:P.info? e=some i) (hz:i.zero=some z)
 (cw:i.size=El.size α) (pz:i.bytes=bytes) (gu:z.cells.size=El.size α) (cm:0<El.size α)
 (v xs) (y:α) (hs:a.eval s=v) (ft:own e base w v xs)
 (ad c cs) (hx:a.eval x=.slice (some ad) 1 c) (lx:El.el w w.heap.size y cs) (fa:∀j u,cs[j]? =some u->w.cell? (ad.add j)=some u)
 (pA:xs.length+1<=maxLen) (cz:(xs.length+1)*bytes<=140737488355328) (ee:base<=w.heap.size)
 (h:∀v' w',own e base w' v' (xs++[y])->w.grownBy w' v.ownBlock->(v'.ownBlock=v.ownBlock\/v'.ownBlock=some w.heap.size)->wpList P ops Q rest (a.put o.dst v') w'):wpList P ops Q (o::rest) a w:=by
 refine' Tz;obtain⟨v',w',oC,h2,h3,_,h5⟩:=run_append_own_at (P:=P) w base t o.type e i z (El.size α) bytes ht hi hz cw pz gu cm v xs.length ic.flatten hrow ad 1 c cs ZGB fa (El.one lx) pA cz ee;refine wpList_plain nW fun K hK=>?_
 refine' ZJn;refine hK _ _ (h v' w' ⟨ic++[cs],V2,X2,fun k h1 h2=>?_⟩ h3 h5);exact Sq
theorem Ed{P}(t e:TypeId)(i:TypeInfo)(z)(ht:P.underlying t=some (.slice e))(hi:P.info? e=some i)(hz:i.zero=some z)
 (n) (cz:i.bytes*n<=281474976710656) (pA:n<=9223372036854775807) (w):
 (Instr.makeSlice t (.int .i64 (n:Int)) (.int .i64 (n:Int))).run P w=.ok (.slice (P_ w.heap.size) n n) (w.alloc (.cells (bF z.cells (n*i.size)) e)):=by
 have hb:(i.bytes:Int)*(n:Int)<=281474976710656:=by
  have h:((i.bytes*n:Nat):Int)<=281474976710656:=ZA
  rwa [Int.natCast_mul]at h
 have hr:=run_make (P:=P) w t e i z ht hi hz .i64 .i64 n n ZA ZA hb ZA;simp only[bE]at hr;exact hr
def Ck{α:Type}[El α](T:TypeId)(w:World)(g n k:Nat)(xs:List α):Prop:=
 ∃cs:Array Value,w.heap[g]? =some (.cells cs T (0,0))/\cs.size=n*El.size α/\
  ∀i (h:i<xs.length),i<k->∃ecs,El.el w w.heap.size xs[i] ecs/\∀j u,ecs[j]? =some u->cs[i*El.size α+j]? =some u
section
variable{α:Type}[Flat α]{T:TypeId}{w w':World}{g n k:Nat}{xs:List α}
theorem Ck.lt(h:Ck T w g n k xs):g<w.heap.size:=by obtain⟨cs,h1,_⟩:=h;exact ZH8
theorem Ck.below(h:Ck T w g n k xs)(hb:B_ w w'):Ck T w' g n k xs:=by have ab:=h.lt;obtain⟨cs,h1,h2,h3⟩:=h;exact⟨cs,(hb.block g ab).trans h1,h2,fun i hi hk=>by obtain⟨ecs,he,hc⟩:=h3 i hi hk;exact⟨ecs,Flat.free he,hc⟩⟩
theorem Ck.made(w:World)(T:TypeId)(cs n)(hs:cs.size=n*El.size α)(xs:List α):Ck T (w.alloc (.cells cs T)) w.heap.size n 0 xs:=
 ⟨cs,bC w _,hs,fun i _ hk=>absurd hk (aX i)⟩
theorem Ck.cell(h:Ck T w g n k xs){j}(hj:j<n*El.size α):∃u,w.cell? ⟨g,j,none⟩=some u:=by obtain⟨cs,h1,h2,_⟩:=h;exact⟨cs[j],by rw[eG _ _ _ _ _ _ h1];exact Array.getElem?_eq_getElem ZA⟩
theorem Ck.free(h:Ck T w g n k xs)(j):w.frozen? ⟨g,j,none⟩=false:=by obtain⟨cs,h1,_⟩:=h;simp[World.frozen?,h1]
def ID(w:World)(g o:Nat):List Value->World
 |[]=>w
 |u::us=>ID (w.setCell ⟨g,o,none⟩ u) g (o+1) us
theorem Ah8(T:TypeId):∀(us:List Value) (w:World) (o:Nat) (cs:Array Value),w.heap[g]? =some (.cells cs T (0,0))->o+us.length<=cs.size->
 ∃wH:Array Value,(ID w g o us).heap[g]? =some (.cells wH T (0,0))/\wH.size=cs.size/\(∀j u,us[j]? =some u->wH[o+j]? =some u)/\∀i,i<o\/o+us.length<=i->wH[i]? =cs[i]?
 |[],w,o,cs,h,_=>⟨cs,h,rfl,fun j u hu=>by simp at hu,fun _ _=>rfl⟩
 |x::us,w,o,cs,h,hl=>by
  refine' ZF1;have h1:(w.setCell ⟨g,o,none⟩ x).heap[g]? =some (.cells (cs.setIfInBounds o x) T (0,0)):=ZZD
  obtain⟨wH,a1,a2,a3,a4⟩:=Ah8 T us (w.setCell ⟨g,o,none⟩ x) (o+1) _ h1 ZH;refine⟨wH,a1,by simpa using a2,fun j u hu=>?_,fun i hi=>?_⟩
  .cases j with
   |zero=> simp only[List.getElem?_cons_zero,AcG]at hu;subst hu;rw[a4 _ (.inl ZA),dF,Array.getElem?_setIfInBounds,aQ rfl,aQ ZA]
   |succ j=>
   have:=a3 j u (by simpa using hu)
   rwa [show o+(j+1)=o+1+j by omega]
  .rw[a4 i ZLo,Array.getElem?_setIfInBounds,aM ZLo]
theorem I6(us):∀(w:World) (o:Nat) (B:Nat),B<=g->Below B w (ID w g o us):=by
 induction us with
 |nil=>intro w o B _;exact aF _ _
 |cons u us ih=>intro w o B hB;exact((aF B w).setCell (p:=⟨g,o,none⟩) hB u).trans (ih _ _ _ hB)
theorem Ck.step(h:Ck T w g n k xs)(hk:k<xs.length)(hn:xs.length<=n){ecs}(he:El.el w w.heap.size xs[k] ecs):Ck T (ID w g (k*El.size α) ecs) g n (k+1) xs:=by
 obtain⟨cs,h1,h2,h3⟩:=h;have qT:=El.len he;have FQ:k*El.size α+El.size α<=n*El.size α:=ZZE
 obtain⟨wH,a1,a2,a3,a4⟩:=Ah8 T ecs w (k*El.size α) cs h1 ZA;refine⟨wH,a1,a2.trans h2,fun i hi MY=>?_⟩;by_cases hik':i<k
 .obtain⟨es,e1,e2⟩:=h3 i hi hik'
  refine⟨es,Flat.free e1,fun j u hu=>?_⟩;have hj:j<El.size α:=by rw[<-El.len e1];exact(List.getElem?_eq_some_iff.1 hu).1
  have hm:i*El.size α+El.size α<=k*El.size α:=ZZE
  rw[a4 _ (.inl ZA)];exact e2 j u hu
 .obtain rfl:i=k:=ZA
  exact⟨ecs,Flat.free he,a3⟩
theorem Ck.own(h:Ck T w g n n xs)(hn:n=xs.length){base}(hb:base<=g)(hm:n<=maxLen):own T base w (.slice (P_ g) n n) xs:=by
 subst hn;obtain⟨cs,h1,h2,h3⟩:=h;have KN:∀m,m<=xs.length->∃ic:List (List Value),ic.length=m/\(∀i (hi:i<xs.length) (vP:i<ic.length),El.el w w.heap.size xs[i] ic[i])/\cs.toList.take (m*El.size α)=ic.flatten:=by
  intro m
  induction m with
  |zero=>exact fun _=>⟨[],rfl,fun i _ vP=>absurd vP (aX i),ZF⟩
  |succ m ih=>
   intro ru;obtain⟨ic,c1,c2,c3⟩:=ih ZA;obtain⟨ecs,e1,e2⟩:=h3 m ZA ZA;refine⟨ic++[ecs],N0,fun i hi vP=>?_,?_⟩
   .by_cases tR:i<m
    .rw[bZ ZA]
     exact c2 i hi ZA
    .have hie:i=m:=by{simp at vP;omega};subst hie;refine' Wy;simpa [c1]using e1
   .have qT:=El.len e1
    rw[bX,<-c3,dC,fU,eI,Nat.succ_mul,List.take_add]
    congr 1
    apply ZB8;intro j;by_cases hj:j<El.size α
    .rw[ZCy,aQ hj,List.getElem?_drop]
     have hu:ecs[j]? =some (ecs[j]' ZA):=aR _;rw[hu,<-e2 j _ hu,Array.getElem?_toList]
    .rw[eZ ZH,eZ ZA]
 obtain⟨ic,c1,c2,c3⟩:=KN xs.length (aC _);exact⟨ic,⟨by rw[<-c3];simp[h2],.inr ⟨g,xs.length,cs,rfl,hb,h1,aC _,hm,h2,c3⟩⟩,c1,c2⟩
end
def Td(c:UInt8):Bool:=48<=c.toNat&&c.toNat<=57
def Ea(l:List UInt8):Bool:=l.all Td
def Ap(s:Y_):Bool:=s.size==7&&Ea s.data.toList
theorem AcR(s:Y_)(k)(h:k<s.size):Ea (s.data.toList.take (k+1))=(Ea (s.data.toList.take k)&&Td s[k]):=by unfold Ea;exact ZMG
theorem ZB9(s:Y_)(k)(h:k<s.size)(hd:Td s[k]=false):Ea s.data.toList=false:=by unfold Ea;exact ZMH
theorem AsW(s w)(hs:s.size<=maxLen):
 ya 220 #[.string s] w (.bool (Ea s.data.toList)):=by
 unfold maxLen at hs;go_enter func220,ntmps220;refine' ZMI
 .refine' Se;by_cases ab:k<s.size
  .have lG:=AcR s k ab
   have ao:=aA (ZB9 s k ab);refine' ZEX;go_wp2
   .go_ret
    exact⟨Al (ao.out Yn).symm,rfl⟩
   exact ZMJ
   .go_ret
    exact⟨Al (ao.out Yn).symm,rfl⟩
  .refine' ZEY;refine' ZO;exact⟨Al HD.out.symm,rfl⟩
theorem Cw(s w)(hs:s.size<=maxLen):
 ya 231 #[.string s] w (.bool (Ap s)):=by
 go_enter func231,ntmps231;by_cases h7:s.size=7
 .refine' ZMK;exact⟨Al (by simp[Ap,h7]),rfl⟩
 .refine' ZO;exact⟨Al (by simp[Ap,h7]),rfl⟩
theorem D0(n a b w):ya 167 #[.int .i64 n,.int .i64 a,.int .i64 b] w (.bool (decide (a<=n)&&decide (n<=b))):=by
 go_enter func167,ntmps167;by_cases h1:a<=n
 exact ZHV
 .refine' ZO;exact⟨Al (by rw[aP (p:=a<=n) ZA];rfl),rfl⟩
theorem ZAz(s w)(hs:s.size<=maxLen):
 ya 177 #[.string s] w (.bool (Ea s.data.toList&&decide (s.size<=20))):=by
 unfold maxLen at hs;go_enter func177,ntmps177;refine' ZMI
 .refine' Se;by_cases ab:k<s.size
  .have lG:=AcR s k ab
   have ao:=aA (ZB9 s k ab);refine' ZEX;go_wp2
   .go_ret
    exact⟨Al ZML,rfl⟩
   exact ZMJ
   .go_ret
    exact⟨Al ZML,rfl⟩
  .refine' ZEY;refine' ZO;exact⟨Al (by rw[HD.out,fF];congr 1;exact propext ZA),rfl⟩
theorem Cm(s w)(hs:s.size<=maxLen):
 ya 94 #[.string s] w (.bool (Ap s)):=by
 go_enter func94,ntmps94;cases hd:(Ea s.data.toList&&decide (s.size<=20))
 .refine' ZEZ;simp only[Ap,eM,eQ]at this⊢;rcases this with h|h
  .simp[h]
  .have h7:s.size≠7:=ZA
   simp[h7]
 .refine' ZEZ;refine' ZHW;refine' fV;simp[Ap,this.1]
  try omega
structure Ltr where
 id:Int
 code:ByteArray
def Bj(n:Int):Prop:= -9223372036854775808<=n/\n<=9223372036854775807
def Ltr.ok(x:Ltr):Prop:=Bj x.id/\x.code.size<=maxLen
def Ltr.cells(x:Ltr):List Value:=[.int .i64 x.id,.string x.code]
instance elLtr:El Ltr where
 size:=2
 el _ _ x cs:=x.ok/\cs=x.cells
 len h:=Ro
 more h _:=h
 keep h _:=h
 one h:=by rw[h.2];intro u hu;simp[Ltr.cells]at hu;rcases hu with rfl|rfl<;>rfl
instance flatLtr:Flat Ltr where
 free h:=h
theorem rdA.ltr{w B A}{xs:List Ltr}(h:rdA w B A xs)(k)(hk:k<xs.length):
 ∃b o,A=some ⟨b,o,none⟩/\b<B/\(xs[k]).ok/\w.cell? ⟨b,o+k*2,none⟩=some (.int .i64 (xs[k]).id)/\w.cell? ⟨b,o+k*2+1,none⟩=some (.string (xs[k]).code):=by refine' ZJY;exact⟨b,o,hA,hb,ag,by simpa [Ltr.cells,El.size]using hc 0 _ rfl,by simpa [Ltr.cells,El.size,jT]using hc 1 _ rfl⟩
def Xf(xs:List Ltr)(k:Nat):Bool:=
 match xs[k]? with
 |none=>false
 |some x=>decide (1<=x.id)&&decide (x.id<=9999)&&Ap x.code&&(xs.take k).all (fun y=>y.id != x.id)
def z_(xs:List Ltr):Bool:=decide (xs.length<=60)&&(List.range xs.length).all (Xf xs)
theorem AtL{xs k}(hk:k<xs.length)(h:Xf xs k=false):z_ xs=false:=by unfold z_;exact Qx
theorem ApY{xs}(lh:xs.length<=60)(h:∀j,j<xs.length->Xf xs j=true):z_ xs=true:=by unfold z_;simp[lh];exact h
theorem AaP{xs k}(hk:k<xs.length):Xf xs k=(decide (1<=xs[k].id)&&decide (xs[k].id<=9999)&&Ap xs[k].code&&(xs.take k).all (fun y=>y.id != xs[k].id)):=by unfold Xf;exact Uv
theorem Hv{α:Type}{p:α->Bool}(xs:List α)(m)(h:m<xs.length):(xs.take (m+1)).all p=((xs.take m).all p&&p xs[m]):=by rw[aJ h,eH];simp
theorem ZCO{α:Type}{p:α->Bool}(xs:List α)(m k)(h:m<xs.length)(hk:m<k)(hp:p xs[m]=false):(xs.take k).all p=false:=by rw[List.all_eq_false];refine⟨xs[m],?_,by simp[hp]⟩;rw[eB];exact⟨m,ZA,rfl⟩
theorem Ep{xs:List Ltr}:z_ xs=true↔xs.length<=60/\∀k (h:k<xs.length),1<=xs[k].id/\xs[k].id<=9999/\Ap xs[k].code=true/\∀j (hj:j<k),xs[j].id≠xs[k].id:=by
 unfold z_;refine' ZIN;refine and_congr Iff.rfl ⟨fun h k hk=>?_,fun h k hk=>?_⟩
 .have:=h k zP
  rw[AaP hk]at this;refine' ZHW;refine⟨this.1.1.1,this.1.1.2,this.1.2,fun j hj=>?_⟩;have hh:=List.all_eq_true.1 this.2 xs[j] V3;simpa using hh
 .have gj:k<xs.length:=zP
  obtain⟨h1,h2,h3,h4⟩:=h k gj;rw[AaP gj];simp only[aO,bD];refine⟨⟨⟨h1,h2⟩,h3⟩,List.all_eq_true.2 fun y hy=>?_⟩;rw[eB]at hy;obtain⟨j,hj,rfl⟩:=hy;simpa using h4 j ZA
theorem Cn(v xs w)(hv:R_ w v xs):
 C_ 194 #[v] w (.bool (z_ xs)):=by
 refine' zl;refine' fS;go_enter func194,ntmps194;by_cases lh:60<xs.length
 .refine' ZO;exact⟨Al (by unfold z_;exact ZH),aF _ _⟩
 .go_wp2
  go_loopw[12] (fun i wr=>∃k:Nat,k<=xs.length/\i=.int .i64 k/\B_ w wr/\Hid (∀j,j<k->Xf xs j=true)) (fun i _=>xs.length - (intOf i).toNat)
  case atStart=>exact ZMM
  case round=>
   obtain⟨k,hk,rfl,av,HG⟩:=hrel;refine' Sd;by_cases ab:k<xs.length
   .refine' ZMN;have HX:Hid (∀j (h:j<k),xs[j]=xs[j]' ZA):=fun _ _=>rfl
    generalize hx:xs[k]=x at *;have su:=aA hx;refine' ZEa;by_cases h1:x.id<1
    exact V8;by_cases h2:9999<x.id
    exact V8;cases pP:Ap x.code
    .refine' ZMO;go_ret;exact⟨Al (ao.out (by rw[hG.out,ii.out];simp)).symm,av.alloc cm _⟩
    .refine' ZMO;obtain⟨wo,ja⟩:∃wo:World,wo=w1.alloc (aB #[aH aD x.id,aG x.code] 119):=⟨_,rfl⟩;have g1:wo.cell? ⟨w1.heap.size,0,none⟩=some (.int .i64 x.id):=by{subst ja;simp[go_sem]};refine' ZMP;go_loopw[35] (fun i wi=>∃m:Nat,m<=k/\i=.int .i64 m/\B_ wo wi/\Hid ((xs.take m).all (fun y=>y.id != x.id)=true)) (fun i _=>k - (intOf i).toNat)
     case atStart=>exact⟨0,aN _,rfl,aF _ _,rfl⟩
     case round=>
      refine' ZMQ;have g1':wr.cell? ⟨w1.heap.size,0,none⟩=some (.int .i64 x.id):=(tB.cell (p:=⟨w1.heap.size,0,none⟩) GM).trans g1;by_cases fo:m<k
      .obtain⟨b',o',hA,_,⟨⟨p1,p2⟩,p3⟩,d1,d2⟩:=HR.out.ltr m ZA
       refine' ZMR;have d2':wr.cell? ⟨b,o+m*2+1,none⟩=some (.string y.code):=(oW.cell (p:=⟨b,o+m*2+1,none⟩) hb).trans d2;exact ZMS
      .refine' ZEb;go_roundw
       case rel=>
        refine' ZMT
        .refine' iS;rw[hG.out,ii.out,<-HE.out,HA.out];exact ZH
       case measure=>exact ZK
   .have qM:k=xs.length:=ZA
    have HE:=aA qM;refine' ZO;exact⟨Al (ApY ZA iQ).symm,av⟩
theorem C6(v xs w)(hv:R_ w v xs):
 C_ 69 #[v] w (.bool (z_ xs)):=by
 refine' zl;refine' fS;go_enter func69,ntmps69;go_wp2
 go_loopw[3] (fun i wr=>∃k:Nat,k<=xs.length/\i=.int .i64 k/\B_ w wr/\Hid (∀j,j<k->Xf xs j=true)) (fun i _=>xs.length - (intOf i).toNat)
 case atStart=>exact ZMM
 case round=>
  obtain⟨k,hk,rfl,av,HG⟩:=hrel;refine' Sd;by_cases ab:k<xs.length
  .refine' ZMN;generalize hx:xs[k]=x at *;have su:=aA hx;refine' ZEa;cases pP:Ap x.code
   .have ii:=aA pP;go_wp2_with (go_at_call 94;refine(Cm _ _ o3).mono ?_;refine' V7)
    go_ret;exact⟨Al (ao.out (by rw[hG.out,ii.out];simp)).symm,av⟩
   have ii:=aA pP;cases hid:(decide (1<=x.id)&&decide (x.id<=9999))
   .refine' ZMU;go_ret;exact⟨Al (ao.out (by rw[hG.out,xc.out];simp)).symm,av⟩
   refine' ZMU;go_loopw[4] (fun i wr=>∃m:Nat,m<=k/\i=.int .i64 m/\B_ w wr/\Hid ((xs.take m).all (fun y=>y.id != x.id)=true)) (fun i _=>k - (intOf i).toNat)
   case atStart=>exact⟨0,aN _,rfl,av,rfl⟩
   case round=>
    obtain⟨m,mj,rfl,oW,HA⟩:=hrel;have qi:wr.cell? ⟨b,o+k*2,none⟩=some (.int .i64 x.id):=(oW.cell (p:=⟨b,o+k*2,none⟩) hb).trans c1;by_cases fo:m<k
    .obtain⟨b',o',hA,_,_,d1,d2⟩:=HR.out.ltr m ZA
     refine' ZMR;have ru:(m:Int)<(xs.length:Int):=ZA
     have gq:(k:Int)<(xs.length:Int):=ZA
     by_cases kY:y.id=x.id
     .refine' ZHX;refine' z6;refine' ZO;exact⟨Al (ao.out ZMV).symm,Ba oW _⟩
     .refine' ZHY;refine' z6;go_wp2
      go_roundw
      case rel=>exact⟨m+1,ZA,ZJ,Ba oW _,ZMW⟩
      case measure=>exact ZK
    .refine' ZEb;go_roundw
     case rel=>
      refine' ZMT
      .refine' iS;rw[hG.out,ii.out,<-HE.out,HA.out,xc.out];rfl
     case measure=>exact ZK
  .have qM:k=xs.length:=ZA
   have HE:=aA qM;refine' ZO;exact⟨Al (by
    by_cases lh:xs.length<=60
    .rw[ApY lh iQ,aL ZA]
    .refine' ZEc;unfold z_;rw[aP lh];rfl),av⟩
instance elStr:El ByteArray where
 size:=1
 el _ _ x cs:=x.size<=maxLen/\cs=[.string x]
 len h:=Ro
 more h _:=h
 keep h _:=h
 one h:=ZNu
instance flatStr:Flat ByteArray where
 free h:=h
theorem rdA.str{w B A xs}(h:rdA w B A xs)(k)(hk:k<xs.length):
 ∃b o,A=some ⟨b,o,none⟩/\b<B/\(xs[k]).size<=maxLen/\w.cell? ⟨b,o+k,none⟩=some (.string xs[k]):=ZNv
structure Mis where
 id:Int
 bin:Int
def Mis.ok(x:Mis):Prop:=Bj x.id/\Bj x.bin
def Mis.cells(x:Mis):List Value:=[.int .i64 x.id,.int .i64 x.bin]
instance elMis:El Mis where
 size:=2
 el _ _ x cs:=x.ok/\cs=x.cells
 len h:=Ro
 more h _:=h
 keep h _:=h
 one h:=by rw[h.2];intro u hu;simp[Mis.cells]at hu;rcases hu with rfl|rfl<;>rfl
instance flatMis:Flat Mis where
 free h:=h
theorem rdA.mis{w B A}{xs:List Mis}(h:rdA w B A xs)(k)(hk:k<xs.length):
 ∃b o,A=some ⟨b,o,none⟩/\b<B/\(xs[k]).ok/\w.cell? ⟨b,o+k*2,none⟩=some (.int .i64 (xs[k]).id)/\w.cell? ⟨b,o+k*2+1,none⟩=some (.int .i64 (xs[k]).bin):=by refine' ZJY;exact⟨b,o,hA,hb,ag,by simpa [Mis.cells,El.size]using hc 0 _ rfl,by simpa [Mis.cells,El.size,jT]using hc 1 _ rfl⟩
structure Fwd where
 src:ByteArray
 dst:ByteArray
def Fwd.ok(x:Fwd):Prop:=x.src.size<=maxLen/\x.dst.size<=maxLen
def Fwd.cells(x:Fwd):List Value:=[.string x.src,.string x.dst]
instance elFwd:El Fwd where
 size:=2
 el _ _ x cs:=x.ok/\cs=x.cells
 len h:=Ro
 more h _:=h
 keep h _:=h
 one h:=by rw[h.2];intro u hu;simp[Fwd.cells]at hu;rcases hu with rfl|rfl<;>rfl
instance flatFwd:Flat Fwd where
 free h:=h
theorem rdA.fwd{w B A}{xs:List Fwd}(h:rdA w B A xs)(k)(hk:k<xs.length):
 ∃b o,A=some ⟨b,o,none⟩/\b<B/\(xs[k]).ok/\w.cell? ⟨b,o+k*2,none⟩=some (.string (xs[k]).src)/\w.cell? ⟨b,o+k*2+1,none⟩=some (.string (xs[k]).dst):=by refine' ZJY;exact⟨b,o,hA,hb,ag,by simpa [Fwd.cells,El.size]using hc 0 _ rfl,by simpa [Fwd.cells,El.size,jT]using hc 1 _ rfl⟩
structure Pln where
 bins:Int
 passes:Int
 order:List ByteArray
def rdP(w:World)(B:Nat)(v:Value)(p:Pln):Prop:=
 ∃vo,v=.agg #[.int .i64 p.bins,.int .i64 p.passes,vo]/\Bj p.bins/\Bj p.passes/\rd w B vo p.order
theorem rdP.keep{w w' B v p}(h:rdP w B v p)(hk:∀q:Addr,q.block<B->w'.cell? q=w.cell? q):rdP w' B v p:=by obtain⟨vo,h1,h2,h3,h4⟩:=h;exact⟨vo,h1,h2,h3,h4.keep hk⟩
theorem rdP.below{w w' B v p}(h:rdP w B v p)(hb:Below B w w'):rdP w' B v p:=h.keep fun _ hp=>hb.cell hp
theorem rdP.more{w B B' v p}(h:rdP w B v p)(hB:B<=B'):rdP w B' v p:=by obtain⟨vo,h1,h2,h3,h4⟩:=h;exact⟨vo,h1,h2,h3,h4.more hB⟩
theorem rdP.on{w w' v p}(h:rdP w w.heap.size v p)(hb:B_ w w'):rdP w' w'.heap.size v p:=(h.below hb).more hb.size
def Bf1(T base:Nat)(w:World)(v:Value)(p:Pln):Prop:=
 ∃vo,v=.agg #[.int .i64 p.bins,.int .i64 p.passes,vo]/\Bj p.bins/\Bj p.passes/\own T base w vo p.order
def Yr(cs:List Y_)(k:Nat):Bool:=
 match cs[k]? with
 |none=>false
 |some c=>Ap c&&(cs.take k).all (fun d=> !zU d c)
def La(cs:List Y_):Bool:=(List.range cs.length).all (Yr cs)
theorem AdD{cs k}(hk:k<cs.length)(h:Yr cs k=false):La cs=false:=
 List.all_eq_false.2 ⟨k,zP,by simp[h]⟩
theorem ZCq{cs}(h:∀j,j<cs.length->Yr cs j=true):La cs=true:=
 List.all_eq_true.2 fun k hk=>h k zP
theorem U9{cs k}(hk:k<cs.length):Yr cs k=(Ap cs[k]&&(cs.take k).all (fun d=> !zU d cs[k])):=by unfold Yr;exact Uv
def Ky(b:Int):Nat->Int
 |0=>1
 |n+1=>Ky b n*b
def Ms(b p:Int):Bool:=decide (2<=b)&&decide (b<=16)&&(decide (1<=p)&&decide (p<=4))
def Bq(p:Pln):Bool:=
 Ms p.bins p.passes&&(decide (1<=p.order.length)&&decide (p.order.length<=60))&&decide ((p.order.length:Int)<=Ky p.bins p.passes.toNat)&&La p.order
theorem ZAr{b p}:Ms b p=true↔2<=b/\b<=16/\1<=p/\p<=4:=by unfold Ms;simp only[aO,bD];omega
theorem ZDv{b}(h1:2<=b)(h2:b<=16):∀n:Nat,n<=4->1<=Ky b n/\Ky b n<=65536:=by
 have h0:Ky b 0=1:=rfl;have e1:Ky b 1=Ky b 0*b:=rfl;have e2:Ky b 2=Ky b 1*b:=rfl;have e3:Ky b 3=Ky b 2*b:=rfl;have e4:Ky b 4=Ky b 3*b:=rfl;have st:∀x y M:Int,1<=x->x<=M->y=x*b->1<=y/\y<=M*16:=fun x y M hx hM hy=>by subst hy;have l1:1*2<=x*b:=Int.mul_le_mul hx h1 ZA ZA;have l2:x*b<=M*16:=Int.mul_le_mul hM h2 ZA ZA;omega
 have s1:=st _ _ 1 ZA ZA e1;have s2:=st _ _ (1*16) s1.1 s1.2 e2;have s3:=st _ _ (1*16*16) s2.1 s2.2 e3;have s4:=st _ _ (1*16*16*16) s3.1 s3.2 e4;intro n hn
 match n,hn with
 |0,_=>omega
 |1,_=>omega
 |2,_=>omega
 |3,_=>omega
 |4,_=>omega
def rk:List Y_->Y_->Nat
 |[],_=>0
 |d::ds,c=>if zU d c then 0 else rk ds c+1
theorem At7(d ds c):rk (d::ds) c=if zU d c then 0 else rk ds c+1:=rfl
theorem Ay1:∀(cs:List Y_) (c:Y_),rk cs c<=cs.length
 |[],_=>aC _
 |d::ds,c=>by
  unfold rk;split;·exact zC
  .have:=Ay1 ds c;exact ZH
theorem ZBe:∀(cs:List Y_) (c:Y_) (k:Nat) (h:k<cs.length),k<rk cs c->zU cs[k] c=false
 |[],_,k,h,_=>absurd h (aX k)
 |d::ds,c,0,_,hk=>by
  unfold rk at hk
  split at hk
  .omega
  .rename_i h
   exact zI
 |d::ds,c,k+1,h,hk=>by
  unfold rk at hk
  split at hk
  .omega
  .exact ZBe ds c k zI ZA
theorem I1:∀(cs:List Y_) (c:Y_) (h:rk cs c<cs.length),zU cs[rk cs c] c=true
 |[],_,h=>absurd h (aX _)
 |d::ds,c,h=>by
  by_cases hd:zU d c=true
  .have e:rk (d::ds) c=0:=by rw[At7,aQ hd]
   simp only[e];exact hd
  .have e:rk (d::ds) c=rk ds c+1:=by rw[At7,aM hd]
   have h':rk ds c<ds.length:=by{rw[e]at h;exact zI};simp only[e];exact I1 ds c h'
theorem Ay4{cs:List Y_}{c:Y_}{k:Nat}(h:k<cs.length)(h1:∀j (hj:j<k),zU cs[j] c=false)(h2:zU cs[k] c=true):rk cs c=k:=by
 rcases eT (rk cs c) k with ab|rG|KZ
 .have:=h1 _ ab
  rw[I1 cs c ZA]at this;cases this
 .exact rG
 .have:=ZBe cs c k h KZ
  rw[h2]at this;cases this
theorem AeN{cs c}(h:∀j (hj:j<cs.length),zU cs[j] c=false):rk cs c=cs.length:=by
 rcases Nat.lt_or_eq_of_le (Ay1 cs c)with ab|rG
 .have:=h _ ab
  rw[I1 cs c ab]at this;cases this
 .exact rG
def y6(cs:List Y_)(c:Y_):Int:=if rk cs c<cs.length then(rk cs c:Int)else -1
theorem ZDu{cs c}(h:rk cs c<cs.length):y6 cs c=(rk cs c:Int):=by unfold y6;rw[aQ h]
theorem Ls{cs c}(h:¬rk cs c<cs.length):y6 cs c= -1:=by unfold y6;rw[aM h]
theorem ZER(cs c): -1<=y6 cs c/\y6 cs c<cs.length:=by
 unfold y6
 split<;>omega
def Dm(p:Pln)(c:Y_)(XC:Nat):Int:=if y6 p.order c<0 then -1 else y6 p.order c/Ky p.bins XC%p.bins
def Zh(bins:Int)(ms:List Mis)(k:Nat):Bool:=
 match ms[k]? with
 |none=>false
 |some x=>(decide (1<=x.id)&&decide (x.id<=9999))&&(decide (0<=x.bin)&&decide (x.bin<bins))&&(ms.take k).all (fun y=>y.id != x.id)
def Jt(p:Pln)(ms:List Mis):Bool:=Bq p&&decide (ms.length<=60)&&(List.range ms.length).all (Zh p.bins ms)
theorem AkG{p ms k}(hk:k<ms.length)(h:Zh p.bins ms k=false):Jt p ms=false:=by unfold Jt;exact Qx
theorem AgI{p ms}(hp:Bq p=true)(lh:ms.length<=60)(h:∀j,j<ms.length->Zh p.bins ms j=true):Jt p ms=true:=by unfold Jt;rw[hp,aL lh];exact ZIM
theorem ZC6{p ms}(h:Bq p=false):Jt p ms=false:=by unfold Jt;rw[h];rfl
theorem AjG{p ms}(h:¬ms.length<=60):Jt p ms=false:=by unfold Jt;rw[aP h];simp
theorem ZEH{bins ms k}(hk:k<ms.length):Zh bins ms k=((decide (1<=ms[k].id)&&decide (ms[k].id<=9999))&&(decide (0<=ms[k].bin)&&decide (ms[k].bin<bins))&&(ms.take k).all (fun y=>y.id != ms[k].id)):=by unfold Zh;exact Uv
theorem De{p}:Bq p=true↔(2<=p.bins/\p.bins<=16/\1<=p.passes/\p.passes<=4)/\(1<=p.order.length/\p.order.length<=60)/\(p.order.length:Int)<=Ky p.bins p.passes.toNat/\La p.order=true:=by
 unfold Bq;simp only[aO,bD,ZAr];constructor
 .rintro⟨⟨⟨h1,h2⟩,h3⟩,h4⟩;exact⟨h1,h2,h3,h4⟩
 .rintro⟨h1,h2,h3,h4⟩;exact⟨⟨⟨h1,h2⟩,h3⟩,h4⟩
def Ej(ms:List Mis)(x:Ltr)(b:Int):Int:=ms.foldl (fun b m=>if m.id=x.id then m.bin else b) b
def Bm(f:Ltr->Int)(n:Nat)(xs:List Ltr):List (List Ltr):=(List.range n).map fun(k:Nat)=>xs.filter fun x=>f x==(k:Int)
def Bn(f:Ltr->Int)(xs:List Ltr):List Ltr:=xs.filter fun x=>decide (f x<0)
theorem Hz(f:Ltr->Int)(n xs):(Bm f n xs).length=n:=by simp[Bm]
theorem Gj(f:Ltr->Int)(n xs k)(h:k<(Bm f n xs).length):(Bm f n xs)[k]=xs.filter fun x=>f x==(k:Int):=by simp[Bm]
theorem ZCu(f:Ltr->Int)(n):Bm f n []=List.replicate n []:=by
 apply dM
 .simp[Bm]
 .intro i h1 h2;simp[Bm]
theorem ZEU{f:Ltr->Int}{n}{xs:List Ltr}{k d:Nat}(h:k<xs.length)(hf:f xs[k]=(d:Int))(hd:d<(Bm f n (xs.take k)).length):
 Bm f n (xs.take (k+1))=(Bm f n (xs.take k)).set d ((Bm f n (xs.take k))[d]++[xs[k]]):=by
 apply dM
 .simp[Bm]
 .intro i h1 h2
  simp only[iX,Gj];refine' ZH3;by_cases hi:d=i
  .subst hi
   rw[aQ rfl];simp[hf]
  .rw[aM hi]
   exact ZNq
theorem ZBV{f:Ltr->Int}{n}{xs:List Ltr}{k}(h:k<xs.length)(hf:f xs[k]<0):Bm f n (xs.take (k+1))=Bm f n (xs.take k):=by
 apply dM
 .simp[Bm]
 .intro i h1 h2
  rw[Gj,Gj,aJ h,gW];exact ZNq
theorem ZCK{f:Ltr->Int}{xs:List Ltr}{k}(h:k<xs.length)(hf:f xs[k]<0):Bn f (xs.take (k+1))=Bn f (xs.take k)++[xs[k]]:=by unfold Bn;exact zn
theorem ZBp{f:Ltr->Int}{xs:List Ltr}{k}(h:k<xs.length)(hf:0<=f xs[k]):Bn f (xs.take (k+1))=Bn f (xs.take k):=by unfold Bn;refine' ZH3;exact ZH
theorem ZBX{α:Type}(p:α->Bool)(xs:List α)(k):((xs.take k).filter p).length<=k:=by have h1:=bL p (xs.take k);have h2:=List.length_take_le k xs;omega
theorem ApL{p c k}(h:y6 p.order c<0):Dm p c k= -1:=by unfold Dm;rw[aQ h]
theorem AoZ{p c k}(h:¬y6 p.order c<0):Dm p c k=y6 p.order c/Ky p.bins k%p.bins:=by unfold Dm;rw[aM h]
theorem M2(p c k)(hb:2<=p.bins): -1<=Dm p c k/\Dm p c k<p.bins:=by
 unfold Dm
 split
 .omega
 .refine' ZNr;have h2:=ZBr (y6 p.order c/Ky p.bins k) (show 0<p.bins by omega);omega
theorem ZAk{ms n}(h:∀m∈ms,0<=m.bin/\m.bin<n)(x):∀b, -1<=b/\b<n-> -1<=Ej ms x b/\Ej ms x b<n:=by
 unfold Ej
 induction ms with
 |nil=>intro b hb;exact hb
 |cons m ms ih=>
  intro b hb;simp only[List.foldl_cons];refine ih (fun m' mj=>h m' (bN _ mj)) _ ?_
  split
  .have:=h m (fY ..);omega
  .exact hb
theorem AoD{ms:List Mis}{k}(h:k<ms.length)(x b):Ej (ms.take (k+1)) x b=if ms[k].id=x.id then ms[k].bin else Ej (ms.take k) x b:=by unfold Ej;exact ZEt
def Kr(p:Pln)(k:Nat)(xs:List Ltr):List Ltr:=(Bm (fun x=>Dm p x.code k) p.bins.toNat xs).flatten
def Cd(p:Pln):Nat->Nat->List Ltr->List Ltr
 |_,0,xs=>xs
 |k,n+1,xs=>Cd p (k+1) n (Kr p k xs)
theorem Mc(p):∀(n k:Nat) (xs:List Ltr),Cd p k (n+1) xs=Kr p (k+n) (Cd p k n xs)
 |0,k,xs=>rfl
 |n+1,k,xs=>by show Cd p (k+1) (n+1) (Kr p k xs)=Kr p (k+(n+1)) (Cd p (k+1) n (Kr p k xs));rw[Mc p n (k+1),show k+1+n=k+(n+1) by omega]
def Q3(p:Pln):Nat->Nat->List Ltr->List Ltr
 |_,0,_=>[]
 |k,n+1,xs=>Bn (fun x=>Dm p x.code k) xs++Q3 p (k+1) n (Kr p k xs)
theorem Al0(p):∀(n k:Nat) (xs:List Ltr),Q3 p k (n+1) xs=Q3 p k n xs++Bn (fun x=>Dm p x.code (k+n)) (Cd p k n xs)
 |0,k,xs=>by show Bn _ xs++[]=[]++Bn _ xs;simp
 |n+1,k,xs=>by show Bn _ xs++Q3 p (k+1) (n+1) (Kr p k xs)=(Bn _ xs++Q3 p (k+1) n (Kr p k xs))++Bn (fun x=>Dm p x.code (k+(n+1))) (Cd p (k+1) n (Kr p k xs));rw[Al0 p n (k+1),show k+1+n=k+(n+1) by omega,cZ]
theorem AhV{f:Ltr->Int}{n xs x}:x∈(Bm f n xs).flatten↔x∈xs/\0<=f x/\f x<n:=by
 simp only[Bm,List.mem_flatten,List.mem_map,List.mem_range];constructor
 .rintro⟨l,⟨k,hk,rfl⟩,hx⟩
  simp only[List.mem_filter,dI]at hx;exact⟨hx.1,ZA,ZA⟩
 .rintro⟨h1,h2,h3⟩
  obtain⟨k,hk⟩:=aK h2;exact⟨_,⟨k,ZA,rfl⟩,by simp[h1,hk]⟩
theorem ZCD{p c k}(hb:2<=p.bins):Dm p c k<0↔y6 p.order c<0:=by
 unfold Dm
 split
 .rename_i h;simp[h]
 .rename_i h
  refine' ZNr;omega
theorem Ez{f:Ltr->Int}{n}(xs):(Bm f n xs).flatten.length<=xs.length:=by
 induction xs with
 |nil=>rw[ZCu];simp
 |cons x xs ih=>
  have jy:∀m,((List.range m).map fun(k:Nat)=>((x::xs).filter fun y=>f y==(k:Int))).flatten.length=((List.range m).map fun(k:Nat)=>(xs.filter fun y=>f y==(k:Int))).flatten.length+(if 0<=f x/\f x<m then 1 else 0):=fun m=>by
   induction m with
   |zero=>simp
   |succ m ihm=>
    rw[fN,cG,cG,bX,bX,aT,aT,ihm];simp only[cD,gE,dC,fU,eI,gR];by_cases h:f x=(m:Int)
    .simp only[h,beq_self_eq_true,if_true,dA]
     refine' ZH4;omega
    .have hb:(f x==(m:Int))=false:=beq_eq_false_iff_ne.2 h
     simp only[hb,ZDB,if_false];by_cases h2:0<=f x/\f x<m
     exact ZH5
     .rw[aM h2,aM ZA];omega
  unfold Bm at *;rw[jy n,dA]
  split<;>omega
theorem AjY(p k xs):(Kr p k xs).length<=xs.length:=Ez xs
theorem Lr(p):∀(n k:Nat) (xs:List Ltr),(Cd p k n xs).length<=xs.length
 |0,_,_=>aC _
 |n+1,k,xs=>aI (Lr p n (k+1) _) (AjY p k xs)
theorem As4{p}(hb:2<=p.bins)(j k xs):Bn (fun x=>Dm p x.code j) (Kr p k xs)=[]:=by unfold Bn;rw[List.filter_eq_nil_iff];intro x hx;have h:=(AhV.1 hx).2.1;have h2:=(ZCD (p:=p) (c:=x.code) (k:=j) hb);have h3:=(ZCD (p:=p) (c:=x.code) (k:=k) hb);simp only[dZ];intro h4;have:=h3.2 (h2.1 h4);omega
theorem AqU{p}(hb:2<=p.bins)(k n xs):Q3 p k (n+1) xs=Bn (fun x=>Dm p x.code k) xs:=by
 have h:∀(n j k:Nat) (ys:List Ltr),Q3 p j n (Kr p k ys)=[]:=by
  intro n
  induction n with
  |zero=>intro j k ys;rfl
  |succ n ih=> intro j k ys;show Bn _ (Kr p k ys)++Q3 p (j+1) n (Kr p j (Kr p k ys))=[];rw[As4 hb,ih];rfl
 show Bn _ xs++Q3 p (k+1) n (Kr p k xs)=_;rw[h,eI]
def Ku(p:Pln)(k:Int):Bool:=Bq p&&(decide (0<=k)&&decide (k<p.passes))
theorem Jz{p k}:Ku p k=true↔Bq p=true/\0<=k/\k<p.passes:=by unfold Ku;exact ZNs
theorem Dz{p}(h:Bq p=true):2<=p.bins/\p.bins<=16/\1<=p.passes/\p.passes<=4/\p.order.length<=60:=by unfold Bq Ms at h;refine' e_;omega
theorem ZAm{α:Type}{n}:∀{l:List (List α)} (_:∀x∈l,x.length=n) {k j:Nat} (hk:k<l.length) (_:j<n) (u:α),l.flatten.set (k*n+j) u=(l.set k ((l[k]).set j u)).flatten
 |[],_,k,j,hk,_,_=>absurd hk (aX k)
 |x::l,h,0,j,_,hj,u=>by refine' ZHH;simp only[fG,bV,dC,dE,List.set_cons_zero];rw[List.set_append_left _ _ ZA]
 |x::l,h,k+1,j,hk,hj,u=>by
  refine' ZHH;simp only[dC,ZBi,List.set_cons_succ];rw[List.set_append_right _ _ (by rw[hx,eW];omega),hx,show(k+1)*n+j - n=k*n+j by rw[eW];omega,
   ZAm (fun y hy=>h y (bN _ hy)) zP hj u]
section
variable{α:Type}[Flat α]{T:TypeId}{base:Nat}{w w':World}{xs:List α}{g n c:Nat}
theorem own.setCell(h:own T base w (.slice (P_ g) n c) xs){k j}(hk:k<xs.length)(hj:j<El.size α)(u)(y:α)
 (he:∀ecs,El.el w w.heap.size xs[k] ecs->El.el w w.heap.size y (ecs.set j u)):
 own T base (w.setCell ⟨g,k*El.size α+j,none⟩ u) (.slice (P_ g) n c) (xs.set k y):=by
 refine' ZHI;have ax:∀x∈ic,x.length=El.size α:=fun x hx=>by refine' ZEu;exact El.len (h4 i ZA hi)
 refine⟨ic.set k ((ic[k]' ZA).set j u),⟨?_,.inr ?_⟩,by simp[h3],fun i hi vP=>?_⟩
 .rw[<-ZAm ax ZA hj u,eV,eV]
  exact h1
 .refine' ZLp
  .refine' ZLq;subst e1 e2 e3;refine⟨g,c,bw.setIfInBounds (k*El.size α+j) u,ZF,hg,by simp[World.setCell,Array.getElem?_modify,hh],by simpa using hc,hm,by simpa using hs,?_⟩;rw[<-ZAm ax ZA hj u,<-ht,eV,Array.toList_setIfInBounds];rw[List.take_set]
 .by_cases MY:i=k
  .subst MY
   refine' U2;exact Flat.free (he _ (h4 i Sr ZA))
  .refine' ZJm;exact Flat.free (h4 i Sr (by simpa using vP))
theorem own.cellAt(h:own T base w (.slice (P_ g) n c) xs){j}(hj:j<xs.length*El.size α):∃u,w.cell? ⟨g,j,none⟩=some u:=by
 refine' ZHI;refine' ZLp
 .refine' ZLq;subst e1;have qT:xs.length*El.size α<=cap*El.size α:=ZCf _ hc;exact⟨bw[j]' ZA,by rw[eG _ _ _ _ _ _ hh];exact Array.getElem?_eq_getElem _⟩
theorem own.freeAt(h:own T base w (.slice (P_ g) n c) xs)(j):w.frozen? ⟨g,j,none⟩=false:=by
 refine' ZHI;refine' ZLp
 .refine' ZLq;subst e1;simp[World.frozen?,hh]
end
theorem Be6{a w:World}{row}(h:a.grownBy w row)(n):a.grownBy (w.drewN n) row:=⟨h.os,h.tape,h.output,h.size,h.block⟩
theorem Vo{a w w':World}{row}(h:a.grownBy w row)(hb:B_ w w'):a.grownBy w' row:=
 ⟨hb.os.trans h.os,hb.tape.trans h.tape,hb.output.trans h.output,aI h.size hb.size,fun i hi ay=>(hb.block i (bR hi h.size)).trans (h.block i hi ay)⟩
theorem Gc{a w:World}{g}(h:a.grownBy w (some g)){p}(hp:p.block=g\/a.heap.size<=p.block)(u):a.grownBy (w.setCell p u) (some g):=
 ⟨h.os,h.tape,h.output,by simpa [World.setCell]using h.size,fun i hi ay=>(bQ w p u i (by
   rintro rfl;rcases hp with hp|hp
   .exact ay (by rw[hp])
   .omega)).trans (h.block i hi ay)⟩
theorem Pd{a w row B}(h:a.grownBy w row)(hB:B<=a.heap.size)(hr:∀k,row=some k->B<=k):Below B a w:=
 (aF B a).grown h hB hr
theorem own.made0{α:Type}[El α](w:World)(T:TypeId){base}(hb:base<=w.heap.size):own T base (w.alloc (.cells #[] T)) (.slice (P_ w.heap.size) 0 0) ([]:List α):=
 ⟨[],World.ownsRow_made w #[] 0 hb (aN _) ZF,rfl,fun k h=>absurd h (aX k)⟩
theorem Bz(w:World)(T:TypeId)(cs:List Value):∀j u,cs[j]? =some u->(w.alloc (.cells cs.toArray T)).cell? ((⟨w.heap.size,0,none⟩:Addr).add j)=some u:=fun j u hu=>by rw[Ii,bV,AhC];simpa using hu
theorem Ay{base w w' v}{α:Type}[El α]{T:TypeId}{xs:List α}(h:own T base w v xs)(hg:w.grownBy w' v.ownBlock)(hb:base<=w.heap.size):Below base w w':=
 Pd hg hb fun k hk=>(h.blk k hk).1
def apart(v v':Value):Prop:=v.ownBlock=none\/v.ownBlock≠v'.ownBlock
theorem R8{α β:Type}[El α][El β]{T T':TypeId}{b b' w w' v v'}{xs:List α}{ys:List β}(h:own T b w v xs)(h':own T' b' w' v' ys)(qT:w.heap.size<=b'):apart v v':=by
 unfold apart;cases hv:v.ownBlock with
 |none=>exact .inl rfl
 |some k=> refine' YQ;have h1:=(h.blk k hv).2;have h2:=(h'.blk k e.symm).1;omega
theorem Dd{α β:Type}[El α][El β]{T T':TypeId}{b b' w w' v v'}{xs:List α}{ys:List β}(h:own T b w v xs)(h':own T' b' w' v' ys)(qT:w'.heap.size<=b):apart v v':=by
 unfold apart;cases hv:v.ownBlock with
 |none=>exact .inl rfl
 |some k=> refine' YQ;have h1:=(h.blk k hv).1;have h2:=(h'.blk k e.symm).2;omega
end Go.Proofs.YtfadhdacjpmmeaaGreatDoor

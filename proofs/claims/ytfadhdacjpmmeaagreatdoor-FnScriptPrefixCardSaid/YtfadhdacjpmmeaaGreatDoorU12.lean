/- Parts. -/
import Derived.Test.YtfadhdacjpmmeaaGreatDoorU10
import Derived.Sort.LotA
import Derived.ShutString
import Derived.Deep.Fields
set_option linter.unusedVariables false
set_option linter.unusedSimpArgs false
open Go.Proofs.Tryz
open Go renaming madeCells->bF
open Go.IntKind renaming i64->aD
open Go.Obj renaming cells->aB
open Go.Value renaming string->aG,int->aH
namespace Go.Proofs.YtfadhdacjpmmeaaGreatDoor
open Go.RowKit
section
variable{T1 T2 b0:Nat}{w w':World}{v:Value}{net:List Ofc}
end
theorem kept2.toBelow{g b a u w}(h:kept2 g b u w)(h1:a<=g)(h2:a<=b):Below a u w:=⟨h.os,h.tape,h.output,h.size,fun k hk=>h.block k ZA ZA⟩
open Go.Sort
variable{α:Type}[Inhabited α]
def Jq(a m b:Nat)(d d':Array α):Prop:=
 d'.size=d.size/\(∀x,x<a\/b<=x->d'[x]! =d[x]!)/\(∀t,t<b - m->d'[a+t]! =d[m+t]!)/\(∀t,t<m - a->d'[a+(b - m)+t]! =d[a+t]!)
def AeE(a b n:Nat)(d d':Array α):Prop:=
 d'.size=d.size/\(∀x,(x<a\/a+n<=x)->(x<b\/b+n<=x)->d'[x]! =d[x]!)/\(∀t,t<n->d'[a+t]! =d[b+t]!)/\(∀t,t<n->d'[b+t]! =d[a+t]!)
theorem AeE.zero(a b)(d:Array α):AeE a b 0 d d:=⟨rfl,fun _ _ _=>rfl,fun t h=>absurd h (aX t),fun t h=>absurd h (aX t)⟩
theorem AeE.step{a b n}{d d':Array α}(h:AeE a b n d d')(pX:a+n<b)(hb:b+n<d.size):AeE a b (n+1) d (swp d' (a+n) (b+n)):=by
 refine' Tv;refine⟨by rw[size_swp];exact h1,fun x hx hy=>?_,fun t ht=>?_,fun t ht=>?_⟩
 .refine' Wz;exact h2 x ZA ZA
 .rcases Nat.lt_succ_iff_lt_or_eq.1 ht with h|h
  .refine' Wz;exact h3 t h
  .subst h
   rw[swp_left _ _ _ ZA ZA];exact h2 _ ZA ZA
 .rcases Nat.lt_succ_iff_lt_or_eq.1 ht with h|h
  .refine' Wz;exact h4 t h
  .subst h
   rw[swp_right _ _ _ ZA];exact h2 _ ZA ZA
def Mp(m:Nat)(T:Nat->α)(sz:Nat)(i j:Nat)(d:Array α):Prop:=
 d.size=sz/\i<=m/\m+j<=sz/\(∀x,(x<m - i\/m+j<=x)->d[x]! =T x)/\(∀t,t<j->T (m - i+t)=d[m+t]!)/\(∀t,t<i->T (m - i+j+t)=d[m - i+t]!)
theorem Mp.gt{m}{T:Nat->α}{sz i j d d'}(h:Mp m T sz i j d)(rg:j<i)(hs:AeE (m - i) m j d d'):Mp m T sz (i - j) j d':=by
 refine' ZKS;refine⟨s1.trans h1,ZA,h3,fun x hx=>?_,fun t ht=>?_,fun t ht=>?_⟩
 .by_cases ke:x<m - i\/m+j<=x
  exact ZKT;exact ZUq
 .rw[s4 t ht,show m - (i - j)+t=m - i+j+t by omega]
  exact h6 t ZA
 .have:=h6 (j+t) ZA
  rw[show m - (i - j)+j+t=m - i+j+(j+t) by omega,this,show m - (i - j)+t=m - i+(j+t) by omega];exact(s2 _ ZA ZA).symm
theorem Mp.lt{m}{T:Nat->α}{sz i j d d'}(h:Mp m T sz i j d)(rg:i<j)(hs:AeE (m - i) (m+j - i) i d d'):Mp m T sz i (j - i) d':=by
 refine' ZKS;refine⟨s1.trans h1,h2,ZA,fun x hx=>?_,fun t ht=>?_,fun t ht=>?_⟩
 .by_cases ke:x<m - i\/m+j<=x
  exact ZKT
  .obtain⟨t,rfl⟩:∃t,x=m+j - i+t:=⟨x - (m+j - i),ZA⟩
   rw[s4 t ZA,<-h6 t ZA]
   congr 1;omega
 .rw[h5 t ZA]
  exact(s2 _ ZA ZA).symm
 .rw[show m - i+(j - i)+t=m - i+(j - i+t) by omega,h5 (j - i+t) ZA,s3 t ht]
  congr 1;omega
theorem Mp.eq{m}{T:Nat->α}{sz i d d'}(h:Mp m T sz i i d)(hs:AeE (m - i) m i d d'):d'.size=sz/\∀x,d'[x]! =T x:=by
 refine' ZKS;refine⟨s1.trans h1,fun x=>?_⟩;by_cases ke:x<m - i\/m+i<=x
 exact ZKT
 .by_cases t7:x<m
  exact ZUq
  .obtain⟨t,rfl⟩:∃t,x=m+t:=⟨x - m,ZA⟩
   rw[s4 t ZA,<-h6 t ZA]
   congr 1;omega
def iZ(a m b:Nat)(d:Array α)(x:Nat):α:=if x<a\/b<=x then d[x]! else if x<a+(b - m)then d[m+(x - a)]! else d[x - (b - m)]!
theorem Mp.start{a m b}{d:Array α}(BW:a<=m)(vr:m<=b)(hb:b<=d.size):Mp m (iZ a m b d) d.size (m - a) (b - m) d:=by
 refine⟨rfl,ZA,ZA,fun x hx=>?_,fun t ht=>?_,fun t ht=>?_⟩
 .unfold iZ;rw[aQ ZA]
 .unfold iZ;refine' ZH4;congr 1;omega
 .unfold iZ;refine' ZGU;congr 1;omega
theorem Bb3{a m b}{d d':Array α}(BW:a<=m)(vr:m<=b)(h:d'.size=d.size/\∀x,d'[x]! =iZ a m b d x):Jq a m b d d':=by
 refine⟨h.1,fun x hx=>?_,fun t ht=>?_,fun t ht=>?_⟩
 .rw[h.2];unfold iZ;rw[aQ hx]
 .rw[h.2];unfold iZ;refine' ZH4;congr 1;omega
 .rw[h.2];unfold iZ;refine' ZGU;congr 1;omega
theorem ZBP(d:Array α){a m b}(BW:a<=m)(vr:m<=b)(hb:b<=d.size):(d.extract a b).toList=(d.extract a m).toList++(d.extract m b).toList:=by
 rw[extract_toList d a b hb,extract_toList d a m ZA,extract_toList d m b hb,<-cG]
 congr 1
 rw[show b - a=(m - a)+(b - m) by omega,<-List.range'_append_1,show a+(m - a)=m by omega]
theorem ZDw{d d':Array α}{a a' n}(h1:a+n<=d.size)(h2:a'+n<=d'.size)(h:∀t,t<n->d'[a'+t]! =d[a+t]!):(d'.extract a' (a'+n)).toList=(d.extract a (a+n)).toList:=by
 rw[extract_toList d' _ _ h2,extract_toList d _ _ h1,show a'+n - a'=n by omega,show a+n - a=n by omega];apply dM
 .simp
 .intro i q1 q2
  simp only[fD,List.getElem_range'];simp at q1;have:=h i ZA;exact zV
theorem Jq.permIn{a m b}{d d':Array α}(BW:a<=m)(vr:m<=b)(hb:b<=d.size)(h:Jq a m b d d'):PermIn a b d d':=by refine' Tv;refine⟨h1,h2,?_⟩;rw[ZBP d BW vr hb,ZBP d' (show a<=a+(b - m) by omega) (show a+(b - m)<=b by omega) ZA];have e1:=ZDw (d:=d) (d':=d') (a:=m) (a':=a) (n:=b - m) ZA ZA h3;have e2:=ZDw (d:=d) (d':=d') (a:=a) (a':=a+(b - m)) (n:=m - a) ZA ZA h4;rw[show m+(b - m)=b by omega]at e1;rw[show a+(b - m)+(m - a)=b by omega,show a+(m - a)=m by omega]at e2;rw[e1,e2];exact List.perm_append_comm
theorem Jq.none{a b}{d:Array α}(h:a<=b):Jq a a b d d/\Jq a b b d d:=
 ⟨⟨rfl,fun _ _=>rfl,fun _ _=>rfl,fun t ht=>ZA⟩,⟨rfl,fun _ _=>rfl,fun t ht=>ZA,fun t ht=>ZF⟩⟩
variable{α:Type}[Inhabited α]{lt:α->α->Bool}
omit [Inhabited α]in
theorem SWO.leOf(h:SWO lt){x y:α}(hl:lt x y=true):lt y x=false:=by
 cases hh:lt y x with
 |false=>rfl
 |true=>have:=h.trans _ _ _ hl hh;rw[h.irrefl]at this;cases this
def le'(lt:α->α->Bool)(x y:α):Prop:=lt y x=false
omit [Inhabited α]in
theorem L0(h:SWO lt){x y z:α}(h1:le' lt x y)(h2:le' lt y z):le' lt x z:=h.ntrans _ _ _ h2 h1
theorem Fs(h:SWO lt){a b d}(hs:SortedIn lt a b d){i j}(ha:a<=i)(rg:i<=j)(hb:j<b):le' lt d[i]! d[j]! :=by
 rcases gG i j with h1|h1
 .exact hs i j ha h1 hb
 .obtain rfl:i=j:=ZA
  exact h.irrefl _
structure Mrg (lt:α->α->Bool) (G:α->α->Prop) (a m b:Nat) (d:Array α):Prop where
 l:SortedIn lt a m d
 r:SortedIn lt m b d
 g:∀i j,a<=i->i<m->m<=j->j<b->G d[i]! d[j]!
structure Split (lt:α->α->Bool) (a m b mid s:Nat) (d:Array α):Prop where
 sa:a<=s
 sm:s<=m
 sd:s<=mid
 em:m<=mid+m - s
 eb:mid+m - s<=b
 x:∀i j,a<=i->i<s->mid+m - s<=j->j<b->le' lt d[i]! d[j]!
 y:∀i j,m<=i->i<mid+m - s->s<=j->j<m->le' lt d[i]! d[j]!
theorem Split.of{G:α->α->Prop}(hw:SWO lt){a m b mid s lo hi d}(BW:a<m)(vr:m<b)(yM:mid=(a+b)/2)
 (wC:lo=if mid<m then mid+m - b else a) (wD:hi=if mid<m then mid else m)
 (h:Mrg lt G a m b d) (h1:lo<=s) (h2:s<=hi) (hL:s=lo\/lt d[mid+m - 1 - (s - 1)]! d[s - 1]! =false) (hR:s=hi\/lt d[mid+m - 1 - s]! d[s]! =true):Split lt a m b mid s d:=by
 have b1:a<=s/\s<=m/\s<=mid/\m<=mid+m - s/\mid+m - s<=b:=by
  by_cases hc:mid<m
  .rw[aQ hc]at wC wD;omega
  .rw[aM hc]at wC wD;omega
 refine⟨b1.1,b1.2.1,b1.2.2.1,b1.2.2.2.1,b1.2.2.2.2,fun i j km lI EC ul=>?_,fun i j km lI EC ul=>?_⟩
 .have hL':lt d[mid+m - 1 - (s - 1)]! d[s - 1]! =false:=by
   rcases hL with e|e
   .by_cases hc:mid<m
    .rw[aQ hc]at wC;omega
    .rw[aM hc]at wC;omega
   .exact e
  rw[show mid+m - 1 - (s - 1)=mid+m - s by omega]at hL';exact L0 hw (L0 hw (Fs hw h.l km (show i<=s - 1 by omega) ZA) hL') (Fs hw h.r ZA EC ul)
 .have RG:lt d[mid+m - 1 - s]! d[s]! =true:=by
   rcases hR with e|e
   .by_cases hc:mid<m
    .rw[aQ hc]at wD;omega
    .rw[aM hc]at wD;omega
   .exact e
  exact L0 hw (L0 hw (Fs hw h.r km (show i<=mid+m - 1 - s by omega) ZA) (SWO.leOf hw RG)) (Fs hw h.l ZA EC ul)
theorem Split.halves{G:α->α->Prop}(hw:SWO lt){a m b mid s d d'}(h:Mrg lt G a m b d)(hs:Split lt a m b mid s d)(hr:Jq s m (mid+m - s) d d'):
 Mrg lt G a s mid d'/\Mrg lt G mid (mid+m - s) b d'/\(∀i j,a<=i->i<mid->mid<=j->j<b->le' lt d'[i]! d'[j]!):=by
 obtain⟨k1,k2,k3,k4,k5,hx,hy⟩:=hs;obtain⟨r1,r2,r3,r4⟩:=hr;have p1:∀i,i<s->d'[i]! =d[i]! :=fun i hi=>r2 i (aZ hi)
 have p2:∀i,s<=i->i<mid->d'[i]! =d[m+(i - s)]! :=fun i h1 h2=>by
  have:=r3 (i - s) ZA
  rwa [show s+(i - s)=i by omega]at this
 have p3:∀i,mid<=i->i<mid+m - s->d'[i]! =d[s+(i - mid)]! :=fun i h1 h2=>by
  have:=r4 (i - mid) ZA
  rwa [show s+(mid+m - s - m)+(i - mid)=i by omega]at this
 have p4:∀i,mid+m - s<=i->d'[i]! =d[i]! :=fun i hi=>r2 i (gT hi)
 refine⟨⟨fun i j a1 a2 a3=>?_,fun i j a1 a2 a3=>?_,fun i j a1 a2 a3 a4=>?_⟩,⟨fun i j a1 a2 a3=>?_,fun i j a1 a2 a3=>?_,fun i j a1 a2 a3 a4=>?_⟩,fun i j a1 a2 a3 a4=>?_⟩
 .rw[p1 i ZA,p1 j ZA];exact h.l i j a1 a2 ZA
 .rw[p2 i ZA ZA,p2 j ZA ZA];exact h.r _ _ ZA ZA ZA
 .rw[p1 i ZA,p2 j ZA ZA];exact ZUr
 .rw[p3 i ZA ZA,p3 j ZA ZA];exact h.l _ _ ZA ZA ZA
 .rw[p4 i ZA,p4 j ZA];exact h.r _ _ ZA ZA ZA
 .rw[p3 i ZA ZA,p4 j ZA];exact ZUr
 .rcases gG i s with hi|hi<;>rcases gG j (mid+m - s)with hj|hj
  .rw[p1 i hi,p3 j a3 hj];exact ZKU
  .rw[p1 i hi,p4 j hj];exact hx i j a1 hi hj a4
  .rw[p2 i hi a2,p3 j a3 hj];exact hy _ _ ZA ZA ZA ZA
  .rw[p2 i hi a2,p4 j hj];exact Fs hw h.r ZA ZA a4
theorem Mrg.join{G:α->α->Prop}{a mid b d d' NC}(h1:a<=mid)(h2:mid<=b)(hb:b<=d.size)(hc:∀i j,a<=i->i<mid->mid<=j->j<b->le' lt d[i]! d[j]!)
 (p1:PermIn a mid d d') (s1:SortedIn lt a mid d') (p2:PermIn mid b d' NC) (s2:SortedIn lt mid b NC):PermIn a b d NC/\SortedIn lt a b NC:=by
 refine⟨permIn_trans _ _ _ _ _ (permIn_mono _ _ _ _ _ _ (aC _) h2 hb p1) (permIn_mono _ _ _ _ _ _ h1 (aC _) (by rw[p1.1];exact hb) p2),fun i j a1 a2 a3=>?_⟩;rcases gG j mid with hj|hj
 .rw[p2.2.1 i (aZ ZA),p2.2.1 j (aZ hj)];exact s1 i j a1 a2 hj
 .rcases gG i mid with hi|hi
  .have q1:∀i,a<=i->i<mid->∀y,(∀t,a<=t->t<mid->le' lt d[t]! y)->le' lt d'[i]! y:=fun i b1 b2 y hy=>permIn_all d d' a mid (fun x=>le' lt x y) ZA p1 hy i b1 b2
   rw[p2.2.1 i (aZ hi)];have q2:=permIn_all d' NC mid b (fun y=>∀t,a<=t->t<mid->le' lt d[t]! y) (by rw[p1.1];exact hb) p2 (fun y b1 b2 t b3 b4=>by rw[p1.2.1 y (gT b1)];exact hc t y b3 b4 b1 b2) j hj a3;exact q1 i a1 hi _ q2
  .exact s2 i j hi a2 a3
theorem Mrg.left1{G:α->α->Prop}(hw:SWO lt){a b i d d'}(h:Mrg lt G a (a+1) b d)(hb:b<=d.size)(h1:a+1<=i)(h2:i<=b)
 (hL:i=a+1\/lt d[i - 1]! d[a]! =true) (hR:i=b\/lt d[i]! d[a]! =false) (hr:Jq a (a+1) i d d'):PermIn a b d d'/\SortedIn lt a b d':=by
 refine⟨permIn_mono _ _ _ _ _ _ (aC _) h2 hb (hr.permIn ZA h1 ZA),fun x y a1 a2 a3=>?_⟩;obtain⟨r1,r2,r3,r4⟩:=hr;have p1:∀t,a<=t->t<i - 1->d'[t]! =d[t+1]! :=fun t c1 c2=>by
  have:=r3 (t - a) ZA
  rwa [show a+(t - a)=t by omega,show a+1+(t - a)=t+1 by omega]at this
 have p2:d'[i - 1]! =d[a]! :=by
  have:=r4 0 ZA
  rwa [show a+(i - (a+1))+0=i - 1 by omega,dF]at this
 have p3:∀t,i<=t->d'[t]! =d[t]! :=fun t c=>r2 t (gT c)
 have q1:∀t,a+1<=t->t<i->le' lt d[t]! d[a]! :=fun t c1 c2=>by
  rcases hL with e|e
  .omega
  .exact L0 hw (Fs hw h.r c1 (show t<=i - 1 by omega) ZA) (SWO.leOf hw e)
 have q2:∀t,i<=t->t<b->le' lt d[a]! d[t]! :=fun t c1 c2=>by
  rcases hR with e|e
  .omega
  .exact L0 hw e (Fs hw h.r ZA c1 c2)
 show le' lt d'[x]! d'[y]!;rcases eT x (i - 1)with hx|hx|hx<;>rcases eT y (i - 1)with hy|hy|hy
 .rw[p1 x a1 hx,p1 y ZA hy];exact Fs hw h.r ZA ZA ZA
 .subst hy;rw[p1 x a1 hx,p2];exact q1 _ ZA ZA
 .rw[p1 x a1 hx,p3 y ZA];exact Fs hw h.r ZA ZA a3
 .omega
 .omega
 .subst hx;rw[p2,p3 y ZA];exact q2 _ ZA a3
 .omega
 .omega
 .rw[p3 x ZA,p3 y ZA];exact Fs hw h.r ZA ZA a3
theorem Mrg.right1{G:α->α->Prop}(hw:SWO lt){a m i d d'}(h:Mrg lt G a m (m+1) d)(hb:m+1<=d.size)(h1:a<=i)(h2:i<=m)
 (hL:i=a\/lt d[m]! d[i - 1]! =false) (hR:i=m\/lt d[m]! d[i]! =true) (hr:Jq i m (m+1) d d'):PermIn a (m+1) d d'/\SortedIn lt a (m+1) d':=by
 refine⟨permIn_mono _ _ _ _ _ _ h1 (aC _) hb (hr.permIn h2 ZA hb),fun x y a1 a2 a3=>?_⟩;obtain⟨r1,r2,r3,r4⟩:=hr;have p1:∀t,t<i->d'[t]! =d[t]! :=fun t c=>r2 t (aZ c)
 have p2:d'[i]! =d[m]! :=by
  have:=r3 0 ZA
  rwa [dF,dF]at this
 have p3:∀t,i<t->t<=m->d'[t]! =d[t - 1]! :=fun t c1 c2=>by
  have:=r4 (t - 1 - i) ZA
  rwa [show i+(m+1 - m)+(t - 1 - i)=t by omega,show i+(t - 1 - i)=t - 1 by omega]at this
 have q1:∀t,a<=t->t<i->le' lt d[t]! d[m]! :=fun t c1 c2=>by
  rcases hL with e|e
  .omega
  .exact L0 hw (Fs hw h.l c1 (show t<=i - 1 by omega) ZA) e
 have q2:∀t,i<=t->t<m->le' lt d[m]! d[t]! :=fun t c1 c2=>by
  rcases hR with e|e
  .omega
  .exact L0 hw (SWO.leOf hw e) (Fs hw h.l ZA c1 c2)
 show le' lt d'[x]! d'[y]!;rcases eT x i with hx|hx|hx<;>rcases eT y i with hy|hy|hy
 .rw[p1 x hx,p1 y hy];exact ZKU
 .subst hy;rw[p1 x hx,p2];exact q1 _ a1 hx
 .rw[p1 x hx,p3 y hy ZA];exact ZKU
 .omega
 .omega
 .subst hx;rw[p2,p3 y hy ZA];exact q2 _ ZA ZA
 .omega
 .omega
 .rw[p3 x hx ZA,p3 y hy ZA];exact Fs hw h.l ZA ZA ZA
theorem Jq.up{a k}{d d':Array α}(h:Jq a (a+1) (k+1) d d')(hak:a<=k)(hk:k+1<d.size):Jq a (a+1) (k+2) d (swp d' k (k+1)):=by
 obtain⟨r1,r2,r3,r4⟩:=h;refine⟨by rw[size_swp];exact r1,fun x hx=>?_,fun t ht=>?_,fun t ht=>?_⟩
 .refine' Wz;exact r2 x ZA
 .by_cases e:a+t=k
  .rw[e,swp_left _ _ _ ZA ZA,r2 (k+1) ZA];congr 1;omega
  .refine' Wz;exact r3 t ZA
 .obtain rfl:t=0:=ZA
  have:=r4 0 ZA;rw[show a+(k+1 - (a+1))+0=k by omega,dF]at this;rw[show a+(k+2 - (a+1))+0=k+1 by omega,dF,swp_right _ _ _ ZA];exact this
theorem Jq.down{m k}{d d':Array α}(h:Jq (k+1) m (m+1) d d')(hk:k+1<=m)(hm:m<d.size):Jq k m (m+1) d (swp d' (k+1) k):=by
 obtain⟨r1,r2,r3,r4⟩:=h;refine⟨by rw[size_swp];exact r1,fun x hx=>?_,fun t ht=>?_,fun t ht=>?_⟩
 .refine' Wz;exact r2 x ZA
 .obtain rfl:t=0:=ZA
  have:=r3 0 ZA;rw[dF,dF]at this;rw[show k+0=k from rfl,show m+0=m from rfl,swp_right _ _ _ ZA];exact this
 .by_cases e:t=0
  .subst e
   rw[show k+(m+1 - m)+0=k+1 by omega,dF,swp_left _ _ _ ZA ZA];exact r2 k ZA
  .refine' Wz;have:=r4 (t - 1) ZA
   rwa [show k+1+(m+1 - m)+(t - 1)=k+(m+1 - m)+t by omega,show k+1+(t - 1)=k+t by omega]at this
section
variable{P:Program}{ops:Array Oper}{Q:Exit->Act->World->Prop}{md:Region.Mode}{S:World->Prop}{z:Nat}
def Bu(P:Program)(md:Region.Mode)(ops:Array Oper)(Q:Exit->Act->World->Prop)(S:World->Prop)(z:Nat):Nat->Array Bool->Act->World->Prop
 |0,L,a,w=>Region.ready md ops L=[]/\Q .normal a w
 |f+1,L,a,w=>(Region.ready md ops L=[]->Q .normal a w)/\
   ∀i∈Region.ready md ops L,wpOp P ops Q i (fun a' w'=>(i≠z->S w')/\Bu P md ops Q S z f (L.setIfInBounds i true) a' w') a w
theorem Ao9:∀(f:Nat) (L:Array Bool) (a:Act) (w:World),Bu P md ops Q S z f L a w->wpAny P md ops Q f L a w
 |0,_,_,_,h=>h
 |f+1,_,_,_,h=>⟨h.1,fun i hi=>wpOp_mono (fun a' w' h'=>Ao9 f _ a' w' h'.2) (h.2 i hi)⟩
def Mo(md:Region.Mode)(ops:Array Oper)(z i:Nat):Bool:=
 match ops[z]? with
 |none=>false
 |some o=>o.after.any fun e=>Region.binds md e&&e.on==i
theorem AwT{i oi v}(hi:ops[i]? =some oi)(wM:i≠z)(hz:Mo md ops z i=true)(tf:∀(j:Nat) (o:Oper) cs b,ops[j]? =some o->o.op≠.select cs b)
 (hQ:∀c a w,Q (.panic c) (a.put oi.dst v) w->Q (.panic c) a w):∀(f:Nat) (L:Array Bool) (a:Act) (w:World),
   (∀j oj,ops[j]? =some oj->j≠i->L.getD j true=false->(∀e∈oj.after,Region.binds md e=true->e.on≠i)->oi.apart ops oj=true)->
   i∈Region.ready md ops L->YieldsIf P ops S oi v a->S w->
   Bu P md ops Q S z f (L.setIfInBounds i true) (a.put oi.dst v) w->Bu P md ops Q S z (f+1) L a w
 |0,L,a,w,_,hr,hy,hS,H=>ZUl
 |f+1,L,a,w,hfree,hr,hy,hS,H=>by
  refine' ZUm;refine' ZUn;have ni:j≠z:=fun e=>by subst e;unfold Mo at hz;rw[xL]at hz;obtain⟨e,he,hb⟩:=Array.any_eq_true'.1 hz;rw[aO,dI]at hb;exact rM e he hb.1 hb.2
  refine' ZUo;refine wpOp_mono (fun a' w' h3=>⟨fun _=>h3.2.1 ni,AwT hi wM hz tf hQ f (L.setIfInBounds j true) a' w' tg (ready_mono hr (Ne.symm ly)) h3.1 (h3.2.1 ni) ?_⟩) h2;rw[Array.setIfInBounds_comm _ _ ly];exact h3.2.2
theorem Bh{i oi v f L a w}(hi:ops[i]? =some oi)(wM:(i==z)=false)(hz:Mo md ops z i=true)
 (hs:Region.noSelect ops=true) (hf:Region.free md ops L i=true) (hr:(Region.ready md ops L).contains i=true)
 (hQ:∀c a w,Q (.panic c) (a.put oi.dst v) w->Q (.panic c) a w) (hy:YieldsIf P ops S oi v a) (hS:S w)
 (h:Bu P md ops Q S z f (L.setIfInBounds i true) (a.put oi.dst v) w):Bu P md ops Q S z (f+1) L a w:=
 AwT hi (by simpa using wM) hz (Region.noSelect_spec hs) hQ f L a w (Region.free_spec hi hf) (by simpa using hr) hy hS h
def Bi(P:Program)(md:Region.Mode)(ops:Array Oper)(Q:Exit->Act->World->Prop)(S:World->Prop)(z f:Nat)(L:Array Bool)(a:Act)(w:World)(rs:List Nat):Prop:=
 ∀i∈rs,wpOp P ops Q i (fun a' w'=>(i≠z->S w')/\Bu P md ops Q S z f (L.setIfInBounds i true) a' w') a w
theorem Bi.nil{f L a w}:Bi P md ops Q S z f L a w []:=fun _ h=>by cases h
theorem Bi.cons{f L a w i o rs}(ho:ops[i]? =some o)
 (h:∀K':Act->World->Prop,Shut (∀a w,(i≠z->S w)->((i≠z->S w)->Bu P md ops Q S z f (L.setIfInBounds i true) a w)->K' a w)->if Region.wanted o (yielded ops a.tmps)=true then Oper.wp P o a w K' Q else K' (a.put o.dst undef) w)
 (hs:Bi P md ops Q S z f L a w rs):Bi P md ops Q S z f L a w (i::rs):=fun j hj=>by
 rcases List.mem_cons.1 hj with rfl|hj
 .exact wpOp_step ho (fun K' hK=>h K' (fun a w hS hW=>hK a w ⟨hS,hW hS⟩))
 .exact hs j hj
theorem Bk{rs f L a w}(hr:Region.ready md ops L=rs)(ay:rs≠[])
 (h:Bi P md ops Q S z f L a w rs):Bu P md ops Q S z (f+1) L a w:=⟨fun h0=>absurd (hr▸h0) ay,hr▸h⟩
theorem J2{L a w}(hr:Region.ready md ops L=[])(h:Q .normal a w):∀f,Bu P md ops Q S z f L a w
 |0=>⟨hr,h⟩
 |_+1=>⟨fun _=>h,by rw[hr];simp⟩
theorem Hs(z){id a w}(hm:P.follows .mixedOrders=true)(hS:S w.drew)
 (h:S w.drew->Bu P .any ops Q S z ops.size (Array.replicate ops.size false) a w.drew):(Code.region id ops true).wp P Q a w:=
 wp_region_any hm (Ao9 _ _ _ _ (h hS))
end
section
variable{P:Program}{ops:Array Oper}{Q:Exit->Act->World->Prop}{md:Region.Mode}{S:World->Prop}{z:Nat}
theorem AkI{k i L j}(hk:Mo md ops k i=true)(h0:L.getD i true=false)(hj:j∈Region.ready md ops L):j≠k:=fun e=>by subst e;obtain⟨_,oj,xL,da⟩:=mem_ready.1 hj;unfold Mo at hk;rw[xL]at hk;obtain⟨e,he,hb⟩:=Array.any_eq_true'.1 hk;rw[aO,dI]at hb;have h1:=da e he hb.1;rw[hb.2]at h1;exact ZUp
theorem AtG{i k oi v}(hi:ops[i]? =some oi)(wM:i≠z)(SQ:Mo md ops z k=true)(bd:Mo md ops k i=true)(tf:∀(j:Nat) (o:Oper) cs b,ops[j]? =some o->o.op≠.select cs b)
 (hQ:∀c a w,Q (.panic c) (a.put oi.dst v) w->Q (.panic c) a w):∀(f:Nat) (L:Array Bool) (a:Act) (w:World),L.getD k true=false->
   (∀j oj,ops[j]? =some oj->j≠i->L.getD j true=false->(∀e∈oj.after,Region.binds md e=true->e.on≠i)->oi.apart ops oj=true)->
   i∈Region.ready md ops L->YieldsIf P ops S oi v a->S w->
   Bu P md ops Q S z f (L.setIfInBounds i true) (a.put oi.dst v) w->Bu P md ops Q S z (f+1) L a w
 |0,L,a,w,hlk,_,hr,hy,hS,H=>ZUl
 |f+1,L,a,w,hlk,hfree,hr,hy,hS,H=>by refine' ZUm;have LP:L.getD i true=false:=(mem_ready.1 hr).1;refine' ZUn;have ni:j≠z:=AkI SQ hlk hj;have dx:j≠k:=AkI bd LP hj;refine' ZUo;refine wpOp_mono (fun a' w' h3=>⟨fun _=>h3.2.1 ni,AtG hi wM SQ bd tf hQ f (L.setIfInBounds j true) a' w' (by rw[getD_set_ne true dx];exact hlk) tg (ready_mono hr (Ne.symm ly)) h3.1 (h3.2.1 ni) ?_⟩) h2;rw[Array.setIfInBounds_comm _ _ ly];exact h3.2.2
theorem As6{i}(k){oi v f L a w}(hi:ops[i]? =some oi)(wM:(i==z)=false)(SQ:Mo md ops z k=true)(bd:Mo md ops k i=true)(hlk:L.getD k true=false)
 (hs:Region.noSelect ops=true) (hf:Region.free md ops L i=true) (hr:(Region.ready md ops L).contains i=true)
 (hQ:∀c a w,Q (.panic c) (a.put oi.dst v) w->Q (.panic c) a w) (hy:YieldsIf P ops S oi v a) (hS:S w)
 (h:Bu P md ops Q S z f (L.setIfInBounds i true) (a.put oi.dst v) w):Bu P md ops Q S z (f+1) L a w:=
 AtG hi (by simpa using wM) SQ bd (Region.noSelect_spec hs) hQ f L a w hlk (Region.free_spec hi hf) (by simpa using hr) hy hS h
end
open Go.RowKit Go.ChangeShapes Go.WideShapes Go.Deep
def BeZ(P:Program)(t:TypeId)(α:Type)[El α]:Prop:=
 ∀{H:Type} (enc:TypeId×Value->H) (w:World) (rI:Nat->Bool) (held:Bool) (qv:Nat) (cs:List Value) (x:DataW H×List MemPlace),
  DataW.trod enc P w 0 rI held qv t cs=some x->∃y:α,El.el w w.heap.size y cs
theorem BeD{α:Type}{p:Nat->α->Prop}:∀{n:Nat},(∀i,i<n->∃y,p i y)->∃xs:List α,xs.length=n/\∀i (h:i<xs.length),p i xs[i]
 |0,_=>⟨[],rfl,fun i h=>absurd h (aX i)⟩
 |n+1,h=>by obtain⟨xs,hl,hp⟩:=BeD (n:=n) (fun i hi=>h i ZA);exact ZUj
theorem BdS{α:Type}[El α]{P}{t e:TypeId}(ht:P.underlying t=some (.slice e))(hc:P.cellsOf e=El.size α)(hs:0<El.size α)(ho:BeZ P e α)
 {H:Type} {enc:TypeId×Value->H} {w} {rI:Nat->Bool} {held qv v} {x:DataW H×List MemPlace}
 (h:DataW.trod enc P w 0 rI held qv t [v]=some x):∃xs:List α,R_ w v xs:=by
 rcases open_slice ht h with⟨h0,_⟩|⟨a,len,cap,m,n,D,Pl,ax,hb,hl,hm,xw,hx,hi⟩
 .injection h0 with h0
  subst h0;exact⟨[],rd.nil_⟩
 .injection ax with hv
  subst hv;obtain⟨xs,kw,hxp⟩:=BeD (n:=len) (p:=fun i (y:α)=>∃cs:List Value,El.el w w.heap.size y cs/\∀j u,cs[j]? =some u->w.cell? (a.add (i*El.size α+j))=some u) (fun i pD=>by
   obtain⟨wH,gp,hd⟩:=hi i (by rw[xw];split<;>omega);obtain⟨y,hy⟩:=ho enc w rI held n wH _ hd;obtain⟨_,uw,hat⟩:=World.cells?_some gp;refine⟨y,wH,hy,fun j u hu=>?_⟩;have hj:j<P.cellsOf e:=by{rw[<-uw];exact(List.getElem?_eq_some_iff.1 hu).1};have:=hat j hj;rw[<-add_add,<-hc,this,hu])
  refine⟨xs,some a,len,cap,rfl,kw.symm,hl,hm,fun k hk=>?_⟩;obtain⟨cs,lx,CK⟩:=hxp k hk;have h0:cs[0]? =some (cs[0]'(by rw[El.len lx];exact hs)):=aR _;obtain⟨b,o,XQ⟩:=a;have wI:=CK 0 _ h0;have NK:XQ=none:=by have h1:=hxp 0 ZA;obtain⟨cs1,XR,EY⟩:=h1;have h01:cs1[0]? =some (cs1[0]'(by rw[El.len XR];exact hs)):=aR _;have:=World.cell?_spot (EY 0 _ h01);simpa [Addr.add]using this
  subst NK;have ab:=World.block_lt_of_cell? _ _ wI;rw[BdW]at ab;exact⟨b,o,cs,rfl,ab,lx,fun j u hu=>by have:=CK j u hu;rwa [Ii]at this⟩
open Go.ChangeShapes Go.WideShapes Go.ChangeAt Go.RowKit
theorem BdR:BeZ Tryz.prog 5 UInt8:=by
 intro H enc w rI held qv cs x h;obtain⟨n,rfl,_,wf⟩:=DataW.trod_int ZAq h;simp[Lit.wf,IntKind.min,IntKind.max,IntKind.signed,IntKind.bits]at wf;refine⟨UInt8.ofNat n.toNat,?_⟩;show [aH .u8 n]=[aH .u8 ((UInt8.ofNat n.toNat).toNat:Int)];rw[UInt8.toNat_ofNat_of_lt' (by show n.toNat<256;omega)]
 congr 2
 omega
end Go.Proofs.YtfadhdacjpmmeaaGreatDoor

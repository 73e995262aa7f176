/- Parts. -/
import Derived.Test.YtfadhdacjpmmeaaGreatDoorU1
set_option linter.unusedVariables false
set_option linter.unusedSimpArgs false
set_option maxHeartbeats 16000000
open Go.Proofs.Tryz
open Go renaming madeCells->bF
open Go.IntKind renaming i64->aD
open Go.Obj renaming cells->aB
open Go.Value renaming string->aG,int->aH
namespace Go.Proofs.YtfadhdacjpmmeaaGreatDoor
open Go.RowKit
theorem Tryz.infoLtr:(Tryz.prog.info? 119).map (fun i=>(i.zero,i.size,i.bytes))=some (some (.agg #[.int .i64 0,.string ⟨#[]⟩]),2,24):=ZB
def J1:Nat->List UInt8
 |0=>[]
 |n+1=>J1 ((n+1)/10)++[UInt8.ofNat (48+(n+1)%10)]
 decreasing_by omega
theorem I2{n}(h:0<n):J1 n=J1 (n/10)++[UInt8.ofNat (48+n%10)]:=by
 cases n with
 |zero=>omega
 |succ n=>rw[J1]
def b8(n:Int):UInt8:=UInt8.ofNat n.toNat
theorem AfW(W:World)(n):(convert 24 9 (.slice (P_ W.heap.size) 1 1)).run Tryz.prog (W.alloc (.cells #[.int .u8 n] 5))=.ok (.string ⟨#[b8 n]⟩) (W.alloc (.cells #[.int .u8 n] 5)):=by
 refine' ZPE;rw[run_bytesToString _ _ _ _ [n] (by
  refine run_loadCells_list _ _ [aH .u8 n] fun j v hj=>?_
  rw[Ii,bV,AhC];exact Qy)]
 rfl
theorem Cv{a b:Y_}(h:a.data.toList=b.data.toList):a=b:=WideShapes.bytes_inj h
theorem B6(a b:Y_):(a++b).data.toList=a.data.toList++b.data.toList:=ZF
instance elByte:El UInt8 where
 size:=1
 el _ _ x cs:=cs=[.int .u8 x.toNat]
 len h:=by rw[h];rfl
 more h _:=h
 keep h _:=h
 one h:=by rw[h];intro u hu;simp at hu;rw[hu];rfl
instance flatByte:Flat UInt8 where
 free h:=h
instance elInt:El Int where
 size:=1
 el _ _ x cs:=Bj x/\cs=[.int .i64 x]
 len h:=Ro
 more h _:=h
 keep h _:=h
 one h:=ZNu
instance flatInt:Flat Int where
 free h:=h
theorem rdA.byte{w B A}{xs:List UInt8}(h:rdA w B A xs)(k)(hk:k<xs.length):
 ∃b o,A=some ⟨b,o,none⟩/\b<B/\w.cell? ⟨b,o+k,none⟩=some (.int .u8 (xs[k]).toNat):=by obtain⟨b,o,cs,hA,hb,rfl,hc⟩:=h k hk;exact⟨b,o,hA,hb,Rn⟩
theorem rdA.int{w B A xs}(h:rdA w B A xs)(k)(hk:k<xs.length):
 ∃b o,A=some ⟨b,o,none⟩/\b<B/\Bj xs[k]/\w.cell? ⟨b,o+k,none⟩=some (.int .i64 xs[k]):=ZNv
def rdr(w:World)(g p:Nat):Prop:=
 ∃(A:Option Addr) (n c:Nat) (bs:List UInt8),w.heap[g]? =some (.cells #[.slice A n c,.int .i64 (p:Int)] 109 (0,0))/\n=bs.length/\n<=2000/\n<=c/\c<=maxLen/\rdA w g A bs
theorem rdr.lt{w g p}(h:rdr w g p):g<w.heap.size:=by obtain⟨_,_,_,_,h1,_⟩:=h;exact ZH8
theorem rdr.below{w w' g p}(h:rdr w g p)(hb:B_ w w'):rdr w' g p:=by have ab:=h.lt;obtain⟨A,n,c,bs,h1,h2,h3,h4,h5,h6⟩:=h;exact⟨A,n,c,bs,(hb.block g ab).trans h1,h2,h3,h4,h5,h6.keep fun p hp=>hb.cell (Nat.lt_trans hp ab)⟩
theorem rdr.grown{w w' g p g'}(h:rdr w g p)(hg:w.grownBy w' (some g'))(ab:g<g'):rdr w' g p:=by have dz:=h.lt;obtain⟨A,n,c,bs,h1,h2,h3,h4,h5,h6⟩:=h;refine⟨A,n,c,bs,(hg.block g dz (fun e=>ZY)).trans h1,h2,h3,h4,h5,h6.keep fun q hq=>?_⟩;exact World.cell?_of_block (hg.block q.block ZA (fun e=>ZY))
theorem BeC(a b:Nat)(ha:a<9223372036854775808)(hb:b<9223372036854775808):∃c:Nat,bits .xor .i64 (a:Int) (b:Int)=(c:Int)/\c<9223372036854775808:=by
 have hx:a ^^^ b<2^63:=Nat.xor_lt_two_pow ZA ZA;have h1:∀a:Nat,a<9223372036854775808->(BitVec.ofInt 64 (a:Int)).toNat=a:=fun a ha=>by rw[BitVec.ofInt_natCast,BitVec.toNat_ofNat];exact Nat.mod_eq_of_lt ZA
 refine⟨a ^^^ b,?_,ZA⟩;show aD.wrap ((BitVec.ofInt 64 (a:Int) ^^^ BitVec.ofInt 64 (b:Int)).toNat:Int)=_;rw[BitVec.toNat_xor,h1 a ha,h1 b hb,IntKind.wrap_i64];omega
def Be9(n x:Int):Prop:=(n<1->x=0)/\(1<=n->0<=x/\x<n)
theorem p_(g p n w)(hr:rdr w g p)(hp:p<=1099511627776)(hn:Bj n):
 Calls Tryz.prog 21 #[.pointer (P_ g),.int .i64 n] w fun e w'=>∃x:Int,e=.returned (.int .i64 x)/\Be9 n x/\rdr w' g (p+1)/\w.grownBy w' (some g):=by
 have ab:=hr.lt;obtain⟨n1,n2⟩:=hn;obtain⟨A,m,c,bs,h1,rfl,h3,h4,h5,h6⟩:=hr;have g0:w.cell? ⟨g,0,none⟩=some (.slice A bs.length c):=ZNw
 have g1:w.cell? ⟨g,1,none⟩=some (.int .i64 p):=ZNw
 have f0:w.frozen? ⟨g,1,none⟩=false:=by simp[World.frozen?,h1]
 have ew:rdr (w.setCell ⟨g,1,none⟩ (.int .i64 ((p:Int)+1))) g (p+1):=
  ⟨A,bs.length,c,bs,by simp[World.setCell,Array.getElem?_modify,h1],rfl,h3,h4,h5,h6.keep fun q hq=>dK _ _ _ _ (fun e=>by subst e;simp at hq)⟩
 have qA:w.grownBy (w.setCell ⟨g,1,none⟩ (.int .i64 ((p:Int)+1))) (some g):=Gc (bK _ _) (.inl rfl) _;have HR:=aA ew;clear ew;have H6:=aA h6;clear h6;refine' zS;have HG:=aA qA;clear qA;unfold maxLen at h5;go_enter func21,ntmps21;by_cases gx:n<1
 .have HP:Hid (Be9 n 0):=⟨fun _=>rfl,fun h=>absurd gx (Int.not_lt.2 h)⟩
  refine' ZO;exact⟨0,rfl,HP.out,HR.out,HG.out⟩
 by_cases j5:bs.length=0
 .have hl0':((bs.length:Int)==0)=true:=by simp[j5]
  clear j5;have HP:Hid (Be9 n 0):=⟨fun _=>rfl,fun h=>⟨Int.le_refl _,Int.lt_of_lt_of_le ZE h⟩⟩;refine' ZO;exact⟨0,rfl,HP.out,HR.out,HG.out⟩
 have hl0':((bs.length:Int)==0)=false:=beq_eq_false_iff_ne.2 ZA;by_cases uY:p<bs.length
 .obtain⟨b,o,rfl,hb,c1⟩:=H6.out.byte p uY
  have pz:(bs[p].toNat:Int)<=255:=by have:=bs[p].toNat_lt;omega
  generalize bs[p]=u at *;have c2:(w.setCell ⟨g,1,none⟩ (.int .i64 ((p:Int)+1))).cell? ⟨b,o+p,none⟩=some (.int .u8 u.toNat):=(dK _ _ _ _ (fun e=>ZY)).trans c1;have PV:0<=(u.toNat:Int)%n/\(u.toNat:Int)%n<n:=⟨Int.emod_nonneg _ ZA,ZBr _ ZA⟩;have HM:=aA PV;clear PV;have HN:=aA (Int.not_lt.1 gx);refine' ZO;exact⟨(u.toNat:Int)%n,rfl,⟨fun h=>absurd h (Int.not_lt.2 HN.out),fun _=>HM.out⟩,HR.out,HG.out⟩
 .have hL:0<bs.length:=ZA
  have qq:=Nat.mod_lt p hL;have nD:=Nat.mod_lt (p*7+3) hL;obtain⟨b,o,rfl,hb,c1⟩:=H6.out.byte _ qq;obtain⟨b',o',hA,_,d1⟩:=H6.out.byte _ nD;refine' eX;have hby1:(bs[p%bs.length].toNat:Int)<=255:=by have:=bs[p%bs.length].toNat_lt;omega
  have hby2:(bs[(p*7+3)%bs.length].toNat:Int)<=255:=by have:=bs[(p*7+3)%bs.length].toNat_lt;omega
  generalize bs[p%bs.length]=u at *;generalize bs[(p*7+3)%bs.length]=u' at *;have hdv:p/bs.length<=p:=Nat.div_le_self _ _;have r1:(p:Int).tmod (bs.length:Int)=((p%bs.length:Nat):Int):=ZNx
  have r2:((p:Int)*7+3).tmod (bs.length:Int)=(((p*7+3)%bs.length:Nat):Int):=ZNx
  have r3:(p:Int).tdiv (bs.length:Int)=((p/bs.length:Nat):Int):=by rw[Int.tdiv_eq_ediv_of_nonneg ZA];rfl
  generalize km:p%bs.length=i1 at *;generalize lI:(p*7+3)%bs.length=i2 at *;generalize ES:p/bs.length=i3 at *;clear km lI ES;have c2:(w.setCell ⟨g,1,none⟩ (.int .i64 ((p:Int)+1))).cell? ⟨b,o+i1,none⟩=some (.int .u8 u.toNat):=(dK _ _ _ _ (fun e=>ZY)).trans c1;have d2:(w.setCell ⟨g,1,none⟩ (.int .i64 ((p:Int)+1))).cell? ⟨b,o+i2,none⟩=some (.int .u8 u'.toNat):=(dK _ _ _ _ (fun e=>ZY)).trans d1;have q1:(i1:Int)<(bs.length:Int):=ZA
  have q2:(i2:Int)<(bs.length:Int):=ZA
  refine' z6;have HN:=aA (show 1<=n by omega);refine' ZO;obtain⟨y,hy,_⟩:=BeC (u.toNat*131+u'.toNat*1117+p*29+i3*53) ((u.toNat*131+u'.toNat*1117+p*29+i3*53)/64) ZA ZA;have hy':bits BinOp.xor aD ((u.toNat:Int)*131+(u'.toNat:Int)*1117+(p:Int)*29+(i3:Int)*53) (((u.toNat:Int)*131+(u'.toNat:Int)*1117+(p:Int)*29+(i3:Int)*53)/64)=(y:Int):=by rw[<-hy];congr 1
  refine⟨_,rfl,⟨fun h=>absurd h (Int.not_lt.2 HN.out),fun h=>?_⟩,rdr.below HR.out (Ba (aF _ _) nq),Be6 HG.out nq⟩;rw[hy',ZBh ZA];exact⟨Int.emod_nonneg _ ZA,ZBr _ ZA⟩
theorem Aa{a b c}(h:B_ a b)(k:B_ b c):B_ a c:=h.trans (k.mono h.size)
theorem Ae{a b}(h:B_ a b)(o):B_ a (b.alloc o):=h.alloc h.size o
theorem Ag{a b}(h:B_ a b):B_ a b.drew:=h.drew
theorem Cx{a b}(h:B_ a b)(n):B_ a (b.drewN n):=Ba h n
theorem Ai{a b}(h:B_ a b){p}(hp:a.heap.size<=p.block)(u):B_ a (b.setCell p u):=h.setCell hp u
attribute [go_sem] Ae Ag Cx
theorem Af{w w0:World}{cs}{T:TypeId}(h:w0=w.alloc (.cells cs T))(i u)(hu:cs[i]? =some u):∀W,B_ w0 W->W.cell? ⟨w.heap.size,i,none⟩=some u:=fun W hW=>by
 have h1:w.heap.size<w0.heap.size:=by subst h;simp
 rw[hW.cell (p:=⟨w.heap.size,i,none⟩) h1];subst h;rw[AhC];exact hu
theorem Aw{w w0 o}(h:w0=w.alloc o):B_ w w0/\w.heap.size<w0.heap.size:=by subst h;exact⟨(aF _ _).alloc (aC _) _,ZF⟩
theorem rdA.ltrU{w A}{xs:List Ltr}(h:rdA w w.heap.size A xs)(k)(hk:k<xs.length):
 ∃b o,A=some ⟨b,o,none⟩/\b<w.heap.size/\(xs[k]).ok/\(∀W,B_ w W->W.cell? ⟨b,o+k*2,none⟩=some (.int .i64 (xs[k]).id))/\(∀W,B_ w W->W.cell? ⟨b,o+k*2+1,none⟩=some (.string (xs[k]).code)):=by obtain⟨b,o,hA,hb,ag,c1,c2⟩:=h.ltr k hk;exact ZLr
theorem rdA.misU{w A}{xs:List Mis}(h:rdA w w.heap.size A xs)(k)(hk:k<xs.length):
 ∃b o,A=some ⟨b,o,none⟩/\b<w.heap.size/\(xs[k]).ok/\(∀W,B_ w W->W.cell? ⟨b,o+k*2,none⟩=some (.int .i64 (xs[k]).id))/\(∀W,B_ w W->W.cell? ⟨b,o+k*2+1,none⟩=some (.int .i64 (xs[k]).bin)):=by obtain⟨b,o,hA,hb,ag,c1,c2⟩:=h.mis k hk;exact ZLr
theorem rdA.fwdU{w A}{xs:List Fwd}(h:rdA w w.heap.size A xs)(k)(hk:k<xs.length):
 ∃b o,A=some ⟨b,o,none⟩/\b<w.heap.size/\(xs[k]).ok/\(∀W,B_ w W->W.cell? ⟨b,o+k*2,none⟩=some (.string (xs[k]).src))/\(∀W,B_ w W->W.cell? ⟨b,o+k*2+1,none⟩=some (.string (xs[k]).dst)):=by obtain⟨b,o,hA,hb,ag,c1,c2⟩:=h.fwd k hk;exact ZLr
theorem rdA.strU{w A xs}(h:rdA w w.heap.size A xs)(k)(hk:k<xs.length):
 ∃b o,A=some ⟨b,o,none⟩/\b<w.heap.size/\(xs[k]).size<=maxLen/\(∀W,B_ w W->W.cell? ⟨b,o+k,none⟩=some (.string xs[k])):=by obtain⟨b,o,hA,hb,ag,c1⟩:=h.str k hk;exact ZZG
theorem rdA.intU{w A xs}(h:rdA w w.heap.size A xs)(k)(hk:k<xs.length):
 ∃b o,A=some ⟨b,o,none⟩/\b<w.heap.size/\Bj xs[k]/\(∀W,B_ w W->W.cell? ⟨b,o+k,none⟩=some (.int .i64 xs[k])):=by obtain⟨b,o,hA,hb,ag,c1⟩:=h.int k hk;exact ZZG
theorem Gx{w B v p}(h:rdP w B v p):∃A c,v=.agg #[.int .i64 p.bins,.int .i64 p.passes,.slice A p.order.length c]:=by obtain⟨vo,rfl,_,_,A,n,c,rfl,rfl,_⟩:=h;exact⟨A,c,rfl⟩
theorem Dv{w:World}{g cs}{T:TypeId}(h:w.heap[g]? =some (.cells cs T (0,0)))(i u)(hu:cs[i]? =some u):w.cell? ⟨g,i,none⟩=some u:=by rw[eG _ _ _ _ _ _ h];exact hu
theorem Nx{w:World}{g cs}{T:TypeId}(h:w.heap[g]? =some (.cells cs T (0,0)))(i):w.frozen? ⟨g,i,none⟩=false:=Z9
theorem BcM{w:World}{g o}(h:w.heap[g]? =some o):g<w.heap.size:=(Array.getElem?_eq_some_iff.1 h).1
theorem E3{w w'}{g:Nat}{o}(h:w.heap[g]? =some o)(hb:B_ w w'):w'.heap[g]? =some o:=(hb.block g (BcM h)).trans h
theorem Mu{w:World}{g cs}{T:TypeId}(h:w.heap[g]? =some (.cells cs T (0,0)))(i u):(w.setCell ⟨g,i,none⟩ u).heap[g]? =some (.cells (cs.setIfInBounds i u) T (0,0)):=ZZD
theorem Bd{α:Type}[Flat α]{T:TypeId}{base w v}{xs:List α}(h:own T base w v xs)(p u)(hp:p.block<base):own T base (w.setCell p u) v xs:=
 h.grown (Gc (bK w (some p.block)) (.inl rfl) u) (by
  cases hv:v.ownBlock with
  |none=>exact .inl rfl
  |some k=> refine' YQ;have:=(h.blk k hv).1;exact ZY)
end Go.Proofs.YtfadhdacjpmmeaaGreatDoor

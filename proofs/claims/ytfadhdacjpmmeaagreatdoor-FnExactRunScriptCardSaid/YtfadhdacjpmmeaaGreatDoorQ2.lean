/- Parts. -/
import Derived.Test.YtfadhdacjpmmeaaGreatDoorZ
import Derived.RangeFuncNested
import Derived.RangeFuncBound
set_option linter.unusedVariables false
set_option linter.unusedSimpArgs false
namespace Go.Proofs.YtfadhdacjpmmeaaGreatDoor
set_option maxHeartbeats 1000000
open Go.IntKind renaming i64→aI
open Go.Obj renaming cells→aC
open Go.Proofs.Tryz renaming prog→aB
open Go.Value renaming string→aK,int→bC
open Go.RowKit
section
variable{F:Fence}{n:Nat}{P:Program}{β α:Type}
def Pw(B z:Nat)(I:β→World→Prop):Prop:=
 ∀s A C row,I s A→A.grownBy C row→(∀r,row=some r→r=z∨B≤r∧∃o:Obj,A.heap[r]? =some o∧o.isCells=false)→I s C
theorem Pw.put{B z}{I:β→World→Prop}(h:Pw B z I){s:β}{W l o}(o')(hs:I s W)(hB:B≤l)(hl:W.heap[l]? =some o)(ho:o.isCells=false):I s (W.putObj l o'):=
 h s W _ (some l) hs (grownBy_putObj' W l o') fun r e=>by cases e;exact .inr ⟨hB,o,hl,ho⟩
theorem Pw.new{B z}{I:β→World→Prop}(h:Pw B z I){s:β}{W}(o)(hs:I s W):I s (W.alloc o):=
 h s W _ none hs (World.grownBy_alloc W o none) fun r e=>by cases e
def AsQ(z:Nat)(J:β→World→Prop):Prop:=∀s A C row,J s A→A.grownBy C row→(∀r,row=some r→r=z)→J s C
def AxU(C:List Nat)(I Ix:List α→World→Prop)(xs:List α)(W:World):Exit→Act→World→Prop
 |.normal,_,W'=>KeepsOthers W W'∧(∀k∈C,W'.heap[k]? =W.heap[k]?)∧I xs W'
 |.ret,_,W'=>KeepsOthers W W'∧Ix xs W'
 |_,_,_=>False
def BbH(F:Fence)(n:Nat)(P:Program)(gf:Nat)(lb:Array Value)(sx:α→Array Value)(R:α→Prop)(S Sp:List α→Prop)(N z:Nat)(C:List Nat)(w:World):Prop:=
 ∀(l:Nat) (J Jx:List α→World→Prop),AsQ z J→AsQ z Jx→
  (∀pre x W1,J pre W1→pre.length<N→R x→YieldAt F (n - 1) P l (sx x) W1 fun e W'=>
    (e=.returned (.bool true)∧J (pre++[x]) W'∧(W1.heap.size≤W'.heap.size∧∀k∈C,W'.heap[k]? =W1.heap[k]?))∨(e=.returned (.bool false)∧Jx (pre++[x]) W'))→
  ∀W,w.heap.size≤W.heap.size→(∀k∈C,W.heap[k]? =w.heap[k]?)→J [] W→
  CallsIn F n P gf (#[.func (.yield l) #[] #[]]++lb) W fun e W'=>(∃v,e=.returned v)∧((∃xs,S xs∧J xs W')∨∃pre,Sp pre∧Jx pre W')
theorem Oc{A C:World}{row l o}(h:A.heap[l]? =some o)(hg:A.grownBy C row)(bj:row≠some l):C.heap[l]? =some o:=
 (hg.block l (Array.getElem?_eq_some_iff.1 h).1 fun e=>bj e.symm).trans h
theorem Pz{g:Operand}{ps:Array Tmp}{assign body:Code}{Q:Exit→Act→World→Prop}{a:Act}{w:World}
 (i7:F.round=none) (h1:1≤n) {gf:Nat} {lb:Array Value} (hg:a.eval g=.func (.func gf) #[] lb) (hFg:F.fn gf) (eg:∀args w,(callFunc gf args).run P w=.ok (.enter gf args) w)
 {sx:α→Array Value} {R:α→Prop} {S Sp:List α→Prop} {N z:Nat} {C:List Nat} (TZ:BbH F (n - 1) P gf lb sx R S Sp N z C w) (hC:∀k∈C,k<w.heap.size) (hz:z<w.heap.size) (d9:∀x,(sx x).size=ps.size)
 (I Ix:List α→World→Prop) (hI:Pw w.heap.size z I) (UA:Pw w.heap.size z Ix) (h0:I [] w) (a₁:α→Act)
 (xd:∀(l:Nat) (x:α) (W:World) (K:Act→World→Prop),K (a₁ x) W→
   assign.wpIn (F.inRound l) (n - 1 - 1) P (Exit.then K (fun _ _ _=>False)) {tmps:=(ps.zip (sx x)).foldl (fun t (p,v)=>t.setIfInBounds p v) a.tmps,defers:=[]} W)
 (KE:∀(l:Nat) (pre:List α) (x:α) (W:World),I pre W→pre.length<N→R x→body.wpIn (F.inRound l) (n - 1 - 1) P (AxU C I Ix (pre++[x]) W) (a₁ x) W)
 (KF:∀(D:Nat) (xs:List α) (W:World),w.heap.size≤D→S xs→I xs W→W.heap[D]? =some (.deferred (some []))→Q .normal {a with defers:={target:=.collected D,args:=#[]}::a.defers} W)
 (KG:∀(D:Nat) (pre:List α) (W:World),w.heap.size≤D→Sp pre→Ix pre W→W.heap[D]? =some (.deferred (some []))→Code.ret.wpIn F n P Q {a with defers:={target:=.collected D,args:=#[]}::a.defers} W):
 (Code.rangeFunc g ps assign body).wpIn F n P Q a w:=by
 refine wpIn_rangeFunc fun fn ue=>?_
 rw[i7]
 let ol:LoopState→Option Code→Loop:=fun st pe=>{state:=st,pending:=pe,fn,tmps:=a.tmps,params:=ps,assign,body,defers:=w.heap.size}
 obtain⟨W1,py⟩:∃W1,W1=(w.alloc (.deferred (some []))).alloc (.loop (ol .ready none)):=⟨_,rfl⟩;have hL1:W1.heap[w.heap.size+1]? =some (.loop (ol .ready none)):=by
  have:=World.alloc_heap_new (w.alloc (.deferred (some []))) (.loop (ol .ready none))
  rwa [iQ,←py]at this
 have hK1:W1.heap[w.heap.size]? =some (.deferred (some [])):=by rw[py];exact(dH _ _ _ ZE).trans (World.alloc_heap_new w _)
 have hI1:I [] W1:=by rw[py];exact hI.new _ (hI.new _ h0)
 have hC1:∀k∈C,W1.heap[k]? =w.heap[k]? :=fun k hk=>by have:=hC k hk;rw[py];exact(dH _ _ _ ZH).trans (dH _ _ _ this)
 have gh:w.heap.size≤W1.heap.size:=by rw[py];exact ZH
 refine⟨w.heap.size+1,[{target:=.collected w.heap.size,args:=#[]}],W1,{target:=.fn (.func gf) lb,args:=#[.func (.yield (w.heap.size+1)) #[] #[]]},W1,gf,
  #[.func (.yield (w.heap.size+1)) #[] #[]]++lb,W1,?_,?_,?_,?_,fun _=>h1,?_⟩
 ·rw[py];exact run_enterLoop_outer _ _ _ _ _
 ·simp only[resolve,hg]
  simp[go_sem]
 ·intro f' yb;simp[Target.leads]at yb;subst yb;exact hFg
 ·simp[invoke,go_sem,eg]
 ·
  let J:List α→World→Prop:=fun pre W=>I pre W∧W.heap[w.heap.size+1]? =some (.loop (ol .ready none))∧W.heap[w.heap.size]? =some (.deferred (some []))
  let Jx:List α→World→Prop:=fun pre W=>Ix pre W∧W.heap[w.heap.size+1]? =some (.loop (ol .done (some .ret)))∧W.heap[w.heap.size]? =some (.deferred (some []))
  have hJ:AsQ z J:=fun s A X row hs xe hr=>by refine' ZQr;exact⟨hI s A X row hs.1 xe fun r e=>.inl (hr r e),Oc hs.2.1 xe UB,Oc hs.2.2 xe UC⟩
  have hJx:AsQ z Jx:=fun s A X row hs xe hr=>by refine' ZQr;exact⟨UA s A X row hs.1 xe fun r e=>.inl (hr r e),Oc hs.2.1 xe UB,Oc hs.2.2 xe UC⟩
  refine(TZ (w.heap.size+1) J Jx hJ hJx ?_ W1 gh hC1 ⟨hI1,hL1,hK1⟩).mono ?_
  ·rintro pre x W ⟨hi,hl,hk⟩ bn hRx
   have ab:w.heap.size+1<W.heap.size:=(Array.getElem?_eq_some_iff.1 hl).1;have hy:=run_yield (P:=P) (args:=sx x) hl (d9 x);refine⟨fn,_,assign,body,hy,roundIn_of_wpIn ue (xd _ x W _ ⟨_,run_beginRound hl rfl,?_⟩)⟩;obtain⟨W2,be⟩:∃W2,W2=W.putObj (w.heap.size+1) (.loop (ol .busy none)):=⟨_,rfl⟩;have qF:W2.heap[w.heap.size+1]? =some (.loop (ol .busy none)):=by rw[be];exact World.putObj_heap_same ab
   have jl:W2.heap[w.heap.size]? =some (.deferred (some [])):=by rw[be];exact(World.putObj_heap_other ZA).trans hk
   have kP:I pre W2:=by rw[be];exact hI.put _ hi ZA hl rfl
   have kC:∀k∈C,W2.heap[k]? =W.heap[k]? :=fun k fu=>by have:=hC k fu;rw[be];exact World.putObj_heap_other ZA
   have iu:W2.heap.size=W.heap.size:=by rw[be];simp
   show body.wpIn _ _ _ _ _ (W.putObj (w.heap.size+1) (.loop (ol .busy none)));rw[←be];refine wpIn_mono (KE _ pre x W2 kP bn hRx) ?_;intro e a3 W3 hp;cases e with
   |normal=>
    obtain⟨pF,hc3,IF⟩:=hp;have tc:=pF.same _ _ qF rfl;have UD:=pF.same _ _ jl rfl;refine⟨_,_,run_endRound (P:=P) none tc,.inl ⟨rfl,⟨hI.put _ IF ZA tc rfl,World.putObj_heap_same (Array.getElem?_eq_some_iff.1 tc).1,(World.putObj_heap_other ZA).trans UD⟩,?_,fun k fu=>?_⟩⟩
    ·have:=pF.1
     exact ZH
    ·have:=hC k fu
     exact(World.putObj_heap_other ZA).trans ((hc3 k fu).trans (kC k fu))
   |ret=> obtain⟨pF,IF⟩:=hp;have tc:=pF.same _ _ qF rfl;have UD:=pF.same _ _ jl rfl;exact⟨_,_,run_endRound (P:=P) (some .ret) tc,.inr ⟨rfl,UA.put _ IF ZA tc rfl,World.putObj_heap_same (Array.getElem?_eq_some_iff.1 tc).1,(World.putObj_heap_other ZA).trans UD⟩⟩
   |exit id=>exact(hp:False).elim
   |goto t=>exact(hp:False).elim
   |panic ch=>exact(hp:False).elim
   |outgrown=>exact(hp:False).elim
  ·rintro e W2 ⟨⟨v,rfl⟩,(⟨xs,hS,hi,hl,hk⟩|⟨pre,hSp,hi,hl,hk⟩)⟩
   ·exact⟨none,_,run_endLoop (P:=P) hl (by simp[ol]),KF _ xs _ (aD _) hS (hI.put _ hi ZA hl rfl) ((World.putObj_heap_other ZA).trans hk)⟩
   ·exact⟨some .ret,_,run_endLoop (P:=P) hl (by simp[ol]),KG _ pre _ (aD _) hSp (UA.put _ hi ZA hl rfl) ((World.putObj_heap_other ZA).trans hk)⟩
end
end Go.Proofs.YtfadhdacjpmmeaaGreatDoor

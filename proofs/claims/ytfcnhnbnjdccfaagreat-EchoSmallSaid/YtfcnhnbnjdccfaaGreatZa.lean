/-
  Parts of a proof, put together: Core, Sym, Mem, Rules, Rules2, Rules3, Rules4, Data, Data2, Runs, Sv1, Sv2, Sv3, Sv4, Sv5.
  Conditions: none.
-/
import Derived.Below
import Derived.ChangeKeysEq
import Derived.IntWalk
import Derived.KernelRfl
import Derived.Laws.StructEq
import Derived.Orders
import Derived.RangeFuncLeaves
namespace Go.Proofs.YtfcnhnbnjdccfaaGreat
set_option linter.all false
open Go

def Reach(P:Program)(m:Machine)(S:Machine→Prop):Prop:=∃m',S m'∧Steps P m m'

theorem Reach.head{P:Program}{m m₁:Machine}{S:Machine→Prop}(h:step P m=.next m₁)(h':Reach P m₁ S):Reach P m S:=
 let ⟨m',s,st⟩:=h';⟨m',s,Steps.head h st⟩
theorem Reach.steps{P:Program}{m m₁:Machine}{S:Machine→Prop}(h:Steps P m m₁)(h':Reach P m₁ S):Reach P m S:=
 let ⟨m',s,st⟩:=h';⟨m',s,Steps.trans h st⟩

structure Ctx where
 b:Frame
 cs:List Frame
 S:Machine→Prop

def At(P:Program)(X:Ctx)(k:List Item)(a:Act)(w:World):Prop:=Reach P (lone (X.b.atR a k) X.cs w) X.S
def Fn(P:Program)(f:FuncId)(args:Array Value)(w:World)(R:Value→World→Prop):Prop:=
 ∀cs,∃v w' fr,R v w'∧Steps P (lone (Frame.enter P f args .normal) cs w) (lone fr cs w')∧fr.fn=f∧fr.leaving P w' (.returned v)

theorem Fn.mono{P:Program}{f:FuncId}{args:Array Value}{w:World}{R R':Value→World→Prop}(h:Fn P f args w R)(hr:∀v w',R v w'→R' v w'):Fn P f args w R':=
 fun cs=>let ⟨v,w',fr,r,s,x⟩:=h cs;⟨v,w',fr,hr _ _ r,s,x⟩
theorem Fn.calls{P:Program}{f:FuncId}{args:Array Value}{w:World}{R:Value→World→Prop}(h:Fn P f args w R) :
  Calls P f args w (fun e w'=>∃v,e=.returned v∧R v w'):=
 fun cs=>let ⟨v,w',fr,r,s,x⟩:=h cs;⟨.returned v,w',fr,⟨v,rfl,r⟩,s,x⟩
def Round(P:Program)(l:Nat)(f:FuncId)(tmps:Array Value)(assign body:Code)(w:World)(R:Value→World→Prop):Prop:=
 ∀(c:Frame) (cs:List Frame),∃v w',R v w'∧Steps P (lone (Frame.round l f tmps assign body .normal) (c::cs) w) (lone (c.finish v) cs w')
theorem Round.mono{P:Program}{l:Nat}{f:FuncId}{tmps:Array Value}{assign body:Code}{w:World}{R R':Value→World→Prop}
  (h:Round P l f tmps assign body w R) (hr:∀v w',R v w'→R' v w'):Round P l f tmps assign body w R':=
 fun c cs=>let ⟨v,w',r,s⟩:=h c cs;⟨v,w',hr _ _ r,s⟩

def fctx(P:Program)(f:FuncId)(R:Value→World→Prop)(cs:List Frame):Ctx:=
 { b:={ (default:Frame)with fn:=f,kind:=.normal,roundOf:=none },cs,S:=fun m=>∃v w' fr,R v w'∧m=lone fr cs w'∧fr.fn=f∧fr.leaving P w' (.returned v) }
def rctx(l:Nat)(f:FuncId)(R:Value→World→Prop)(c:Frame)(cs:List Frame):Ctx:=
 { b:={ (default:Frame)with fn:=f,kind:=.normal,roundOf:=some l },cs:=c::cs,S:=fun m=>∃v w',R v w'∧m=lone (c.finish v) cs w' }

theorem Fn.of{P:Program}{f:FuncId}{fn:Func}{c:Code}{args:Array Value}{w:World}{R:Value→World→Prop}(hf:P.funcs[f]?=some fn)(hb:fn.body=some c)
  (h:∀cs,At P (fctx P f R cs) [.code c] { tmps:=args++Array.replicate (fn.ntmps-args.size) undef,defers:=[] } w):Fn P f args w R:=by
 intro cs
 have henter:Frame.enter P f args .normal=(fctx P f R cs).b.atR { tmps:=args++Array.replicate (fn.ntmps-args.size) undef,defers:=[] } [.code c]:=by
  simp[Frame.enter,Frame.atR,hf,hb,fctx]
 obtain⟨m',⟨v,w',fr,r,rfl,e,l⟩,st⟩:=h cs
 rw[henter]
 exact⟨v,w',fr,r,st,e,l⟩

theorem Round.of{P:Program}{l:Nat}{f:FuncId}{tmps:Array Value}{assign body:Code}{w:World}{R:Value→World→Prop}
  (h:∀c cs,At P (rctx l f R c cs) [.code assign,.beginRound,.code body] { tmps:=tmps,defers:=[] } w):Round P l f tmps assign body w R:=by
 intro c cs
 have henter:Frame.round l f tmps assign body .normal=(rctx l f R c cs).b.atR { tmps:=tmps,defers:=[] } [.code assign,.beginRound,.code body]:=by
  simp[Frame.round,Frame.atR,rctx]
 obtain⟨m',⟨v,w',r,rfl⟩,st⟩:=h c cs
 rw[henter]
 exact⟨v,w',r,st⟩
def Out(P:Program)(X:Ctx)(tm:Array Value)(df:List Deferred)(w:World):Prop:=
 ∀todo,Reach P (lone { X.b.atR { tmps:=tm,defers:=df } todo with mode:=.returning } X.cs w) X.S

theorem At.out{P:Program}{X:Ctx}{k:List Item}{a:Act}{w:World}(hX:X.b.roundOf=none)(hk:k=[]∨∃k',k=.code .ret::k')(h:Out P X a.tmps a.defers w):At P X k a w:=by
 rcases hk with rfl | ⟨k',rfl⟩
 ·exact .head (stepR_end hX) (h [])
 ·exact .head (stepR_ret hX) (h _)

theorem Out.mark{P:Program}{X:Ctx}{tm:Array Value}{df:List Deferred}{w:World}{r:Nat}{ar:Array Value}(hr:w.heap[r]?=some (.deferred (some [])))
  (h:Out P X tm df { w with heap:=w.heap.setIfInBounds r (.deferred none) }):Out P X tm ({ target:=.collected r,args:=ar }::df) w:=by
 intro todo
 refine .head (step_collected (r:=r) (d:={ target:=.collected r,args:=ar }) (ds:=df) (calls:=[]) (w':={ w with heap:=w.heap.setIfInBounds r (.deferred none) }) (by simp) rfl rfl ?_) ?_
 ·simp[Instr.takeDeferred,getObj,setObj,bind,Sem.bind,pure,Sem.run,hr]
 ·exact h todo

theorem Out.done{P:Program}{f:FuncId}{R:Value→World→Prop}{cs:List Frame}{fn:Func}{tm:Array Value}{w:World}{v:Value}(hf:P.funcs[f]?=some fn)
  (hr:(results fn tm).run P w=.ok v w) (hR:R v w):Out P (fctx P f R cs) tm [] w:=by
 intro todo
 exact⟨_,⟨v,w,_,hR,rfl,rfl,rfl,rfl,rfl,fn,hf,hr⟩,Steps.refl _ _⟩

def norm1:List Item→Option (List Item)
 | .code .skip::k=>some k
 | .code (.label _)::k=>some k
 | .inBlock _::k=>some k
 | .code (.seq a b)::k=>some (.code a::.code b::k)
 | .code (.block id c)::k=>some (.code c::.inBlock id::k)
 | .code (.loop c)::k=>some (.code c::.inLoop c::k)
 | .inLoop c::k=>some (.code c::.inLoop c::k)
 | .code (.scope c)::k=>some (.code c::.inScope c::k)
 | .inScope _::k=>some k
 | .code (.exit id)::k=>exitTo id k
 | _=>none

theorem A5q{P:Program}{b:Frame}{a:Act}{cs:List Frame}{w:World}{k:List Item}{c:Code}:step P (lone (b.atR a (.code (.scope c)::k)) cs w)=.next (lone (b.atR a (.code c::.inScope c::k)) cs w):=
 step_lone_go (by simp[stepG,stepG.exec,Frame.atR])
theorem Zv{P:Program}{b:Frame}{a:Act}{cs:List Frame}{w:World}{k:List Item}{c:Code}:step P (lone (b.atR a (.inScope c::k)) cs w)=.next (lone (b.atR a k) cs w):=
 step_lone_go (by simp[stepG,stepG.exec,Frame.atR])
theorem Xx{P:Program}{b:Frame}{a:Act}{cs:List Frame}{w:World}{k k':List Item}(h:norm1 k=some k') :
  step P (lone (b.atR a k) cs w)=.next (lone (b.atR a k') cs w):=by
 unfold norm1 at h
 split at h
 ·cases h;exact stepR_skip
 ·cases h;exact stepR_label
 ·cases h;exact stepR_inBlock
 ·cases h;exact stepR_seq
 ·cases h;exact stepR_block
 ·cases h;exact stepR_loop
 ·cases h;exact stepR_inLoop
 ·cases h;exact A5q
 ·cases h;exact Zv
 ·exact stepR_exit h
 ·cases h

def norm:Nat→List Item→List Item
 | 0,k=>k
 | n+1,k=>match norm1 k with
  | some k'=>norm n k'
  | none=>k

theorem At.norm{P:Program}{X:Ctx}{a:Act}{w:World}:∀(n:Nat) {k k':List Item},norm n k=k'→At P X k' a w→At P X k a w
 | 0,_,_,h,hh=>by cases h;exact hh
 | n+1,k,k',h,hh=>by
  unfold Proofs.YtfcnhnbnjdccfaaGreat.norm at h
  split at h
  ·rename_i k1 h1;exact .head (Xx h1) (At.norm n h hh)
  ·cases h;exact hh
def condOf:List Item→Option (Operand×List Item×List Item)
 | .code (.cond c x y)::k=>some (c,.code x::k,.code y::k)
 | _=>none
theorem At.cond{P:Program}{X:Ctx}{a:Act}{w:World}{k k1 k2:List Item}{b:Bool}(h:(condOf k).map (fun p=>(a.eval p.1,Proofs.YtfcnhnbnjdccfaaGreat.norm 99 p.2.1,Proofs.YtfcnhnbnjdccfaaGreat.norm 99 p.2.2))=some (.bool b,k1,k2))
  (h1:b=true→At P X k1 a w) (h2:b=false→At P X k2 a w):At P X k a w:=by
 unfold condOf at h
 split at h
 ·rename_i c x y k'
  simp only[Option.map_some,Option.some.injEq,Prod.mk.injEq]at h
  obtain⟨hc,e1,e2⟩:=h
  refine .head (stepR_cond hc) ?_
  cases b with
  | true=>exact At.norm 99 e1 (h1 rfl)
  | false=>exact At.norm 99 e2 (h2 rfl)
 ·cases h

def opOK(P:Program)(ops:Array Oper)(i:Nat)(K:Act→World→Prop)(a:Act)(w:World):Prop:=
 match ops[i]? with
 | none=>K a w
 | some o=>
  if Region.wanted o (yielded ops a.tmps)then
   (∀c,o.op≠.defer c) ∧
   match (execOp a.eval o).run P w with
   | .ok (.value v) w'=>K (a.put o.dst v) w'
   | .ok .skip w'=>K (a.put o.dst undef) w'
   | .ok (.enter f args) w'=>Fn P f args w' fun v w''=>K (a.put o.dst v) w''
   | .ok (.round l f tmps assign body) w'=>Round P l f tmps assign body w' fun v w''=>K (a.put o.dst v) w''
   | _=>False
  else K (a.put o.dst undef) w

theorem Me{P:Program}{ops:Array Oper}{i:Nat}{K K':Act→World→Prop}{a:Act}{w:World}(hk:∀a w,K a w→K' a w)(h:opOK P ops i K a w):opOK P ops i K' a w:=by
 unfold opOK at *
 cases ho:ops[i]? with
 | none=>simp only[ho]at h ⊢;exact hk _ _ h
 | some o=>
  simp only[ho]at h ⊢
  by_cases hw:Region.wanted o (yielded ops a.tmps)=true
  ·simp only[hw,if_true]at h ⊢
   refine⟨h.1,?_⟩
   replace h:=h.2
   revert h
   generalize (execOp a.eval o).run P w=r
   intro h
   cases r with
   | ok x w'=>cases x<;>first | exact hk _ _ h | exact Fn.mono h (fun _ _=>hk _ _) | exact Round.mono h (fun _ _=>hk _ _) | exact h.elim
   | halt x w'=>exact h.elim
  ·simp only[hw]at h ⊢;exact hk _ _ h

theorem Abg{P:Program}{ops:Array Oper}{i:Nat}{rest:List Nat}{k:List Item}{X:Ctx}{K:Act→World→Prop}{a:Act}{w:World}
  (hk:∀a w,K a w→At P X (.inRegion ops rest::k) a w) (h:opOK P ops i K a w):At P X (.inRegion ops (i::rest)::k) a w:=by
 unfold opOK at h
 cases ho:ops[i]? with
 | none=>
  simp only[ho]at h
  have hs:=stepR_op_skip (P:=P) (b:=X.b) (a:=a) (k:=k) (cs:=X.cs) (w:=w) (ops:=ops) (i:=i) (rest:=rest) (by simp[ho])
  simp only[ho,Option.bind_none,Act.put]at hs
  exact .head hs (hk _ _ h)
 | some o=>
  simp only[ho]at h
  by_cases hw:Region.wanted o (yielded ops a.tmps)=true
  ·simp only[hw,if_true]at h
   obtain⟨hnd,h⟩:=h
   have hg:=stepGR_op (P:=P) (b:=X.b) (k:=k) (cs:=X.cs) (w:=w) (rest:=rest) ho hw
   rw[Oper.semAt_eq _ _ _ hnd]at hg
   have hfin:∀v,(X.b.atR a (.inRegion ops (i::rest)::k)).finish v=X.b.atR (a.put o.dst v) (.inRegion ops rest::k):=by
    intro v;rw[Frame.finish_atR,ho];rfl
   revert h
   cases hr:(execOp a.eval o).run P w with
   | halt x w'=>intro h;exact h.elim
   | ok x w'=>
    intro h
    cases x<;>try exact h.elim
    case value v=>exact .head (step_lone_go (by rw[hg,←hfin];simp[stepG.apply,hr])) (hk _ _ h)
    case skip=>exact .head (step_lone_go (by rw[hg,←hfin];simp[stepG.apply,hr])) (hk _ _ h)
    case enter f args=>
     obtain⟨v,w'',fr,r,st,e,l⟩:=h (X.b.atR a (.inRegion ops (i::rest)::k)::X.cs)
     refine .head (m₁:=lone (Frame.enter P f args .normal) (X.b.atR a (.inRegion ops (i::rest)::k)::X.cs) w') (step_lone_go (by rw[hg];simp[stepG.apply,hr,Frame.atR])) ?_
     refine .steps st (.head (step_leave_returned l) ?_)
     rw[hfin];exact hk _ _ r
    case round l f tmps assign body=>
     obtain⟨v,w'',r,st⟩:=h (X.b.atR a (.inRegion ops (i::rest)::k)) X.cs
     refine .head (m₁:=lone (Frame.round l f tmps assign body .normal) (X.b.atR a (.inRegion ops (i::rest)::k)::X.cs) w') (step_lone_go (by rw[hg];simp[stepG.apply,hr])) ?_
     refine .steps st ?_
     rw[hfin];exact hk _ _ r
  ·simp only[hw]at h
   have hs:=stepR_op_skip (P:=P) (b:=X.b) (a:=a) (k:=k) (cs:=X.cs) (w:=w) (ops:=ops) (i:=i) (rest:=rest) (by simp[ho,hw])
   simp only[ho,Option.bind_some]at hs
   exact .head hs (hk _ _ h)
def seqOK(P:Program)(ops:Array Oper)(K:Act→World→Prop):List Nat→Act→World→Prop
 | [],a,w=>K a w
 | i::rest,a,w=>opOK P ops i (seqOK P ops K rest) a w

theorem F9{P:Program}{ops:Array Oper}{k:List Item}{X:Ctx}{K:Act→World→Prop}(hk:∀a w,K a w→At P X k a w) :
  ∀(l:List Nat) (a:Act) (w:World),seqOK P ops K l a w→At P X (.inRegion ops l::k) a w
 | [],_,_,h=>.head stepR_region_end (hk _ _ h)
 | _::rest,_,_,h=>Abg (fun a w=>F9 hk rest a w) h

end Go.Proofs.YtfcnhnbnjdccfaaGreat

namespace Go.Proofs.YtfcnhnbnjdccfaaGreat
set_option linter.all false
open Go

def Sem.pv{α:Type}(p:Program):Sem α→Option α
 | .pure a=>some a
 | .program k=>Sem.pv p (k p)
 | .mark _ k=>Sem.pv p k
 | _=>none
theorem Sem.pv_run{α:Type}(p:Program)(s:Sem α)(a:α)(h:Sem.pv p s=some a)(w:World):s.run p w=.ok a w:=by
 induction s with
 | pure x=>simp only[Sem.pv,Option.some.injEq]at h;subst h;rfl
 | program k ih=>exact ih p h
 | mark m k ih=>exact ih h
 | _=>cases h

def Nn(P:Program)(ops:Array Oper)(i:Nat)(v:Value)(a:Act)(w:World):Prop:=
 ∃o,ops[i]?=some o∧(Region.wanted o (yielded ops a.tmps)=true→(∀c,o.op≠.defer c)∧(execOp a.eval o).run P w=.ok (.value v) w)∧(Region.wanted o (yielded ops a.tmps)=false→v=undef)
def N2(ops:Array Oper)(i:Nat):Option Tmp:=(ops[i]?).bind (·.dst)

theorem Nn.opOK{P:Program}{ops:Array Oper}{i:Nat}{v:Value}{a:Act}{w:World}{K:Act→World→Prop}(h:Nn P ops i v a w)(hk:K (a.put (N2 ops i) v) w):opOK P ops i K a w:=by
 obtain⟨o,ho,h1,h2⟩:=h
 unfold Proofs.YtfcnhnbnjdccfaaGreat.opOK
 have hd:N2 ops i=o.dst:=by simp[N2,ho]
 rw[hd]at hk
 simp only[ho]
 by_cases hw:Region.wanted o (yielded ops a.tmps)=true
 ·obtain⟨h3,h4⟩:=h1 hw
  simp only[hw,if_true]
  exact⟨h3,by rw[h4];exact hk⟩
 ·have:=h2 (by simpa using hw)
  subst this
  simp only[hw]
  exact hk

section
variable {P:Program} {ops:Array Oper} {R:World→World→Prop} {K:Act→World→Prop}
def behind(ops:Array Oper):Nat→Nat→Nat→Bool
 | 0,_,_=>false
 | n+1,j,k=>((ops[j]?).map (·.after.any fun e=>Region.binds .any e&&(e.on==k || behind ops n e.on k))).getD false
def Fe(ops:Array Oper)(j:Nat):Bool:=(List.range ops.size).all fun k=>k==j || behind ops 30 j k || behind ops 30 k j
def Down(ops:Array Oper)(listed:Array Bool):Prop:=∀j o,ops[j]?=some o→listed.getD j false=true→∀e∈o.after,Region.binds .any e=true→listed.getD e.on false=true
theorem Ms{ops:Array Oper}{listed:Array Bool}(hd:Down ops listed):∀(n j k:Nat),(∀o,ops[j]?=some o→∀e∈o.after,Region.binds .any e=true→listed.getD e.on false=true)→behind ops n j k=true→listed.getD k false=true:=by
 intro n
 induction n with
 | zero=>intro j k _ h;cases h
 | succ n ih=>
  intro j k hj h
  simp only[behind]at h
  cases ho:ops[j]? with
  | none=>rw[ho]at h;cases h
  | some o=>
   rw[ho]at h
   simp only[Option.map_some,Option.getD_some]at h
   obtain⟨e,he,hb⟩:=Array.any_eq_true'.1 h
   simp only[Bool.and_eq_true,Bool.or_eq_true,beq_iff_eq]at hb
   have hl:=hj o ho e he hb.1
   rcases hb.2 with h2 | h2
   ·rw[←h2];exact hl
   ·exact ih e.on k (fun o' ho' e' he' hb'=>hd e.on o' ho' hl e' he' hb') h2
theorem Down.set{ops:Array Oper}{listed:Array Bool}{j:Nat}(hd:Down ops listed)(hj:j∈Region.ready .any ops listed):Down ops (listed.setIfInBounds j true):=by
 intro x o ho hx e he hb
 by_cases e1:x=j
 ·subst e1
  obtain⟨_,o',ho',hall⟩:=mem_ready.1 hj
  obtain rfl:o=o':=Option.some.inj (ho.symm.trans ho')
  exact getD_set_true (hall e he hb)
 ·rw[getD_set_ne false (fun h=>e1 h.symm)]at hx
  exact getD_set_true (hd x o ho hx e he hb)
theorem Aku{ops:Array Oper}{listed:Array Bool}{i j:Nat}(hd:Down ops listed)(hi:i∈Region.ready .any ops listed)(hj:j∈Region.ready .any ops listed)(hne:j≠i):Fe ops j=false:=by
 cases h:Fe ops j with
 | false=>rfl
 | true=>
  exfalso
  obtain⟨hi0,oi,hoi,_⟩:=mem_ready.1 hi
  obtain⟨_,oj,hoj,hall⟩:=mem_ready.1 hj
  have hlt:i<ops.size:=(Array.getElem?_eq_some_iff.1 hoi).1
  have h1:=(List.all_eq_true.1 h) i (List.mem_range.2 hlt)
  simp only[Bool.or_eq_true,beq_iff_eq]at h1
  rcases h1 with(h1 | h1) | h1
  ·exact hne h1.symm
  ·have:=Ms hd 30 j i (fun o ho e he hb=>by
    obtain rfl:oj=o:=Option.some.inj (hoj.symm.trans ho)
    exact hall e he hb) h1
   rcases Nat.lt_or_ge i listed.size with h' | h'
   ·simp[h']at hi0 this;rw[hi0]at this;cases this
   ·simp[Array.getElem?_eq_none h']at this
  ·obtain⟨hj0,_,_,_⟩:=mem_ready.1 hj
   obtain⟨_,oi',hoi',halli⟩:=mem_ready.1 hi
   have:=Ms hd 30 i j (fun o ho e he hb=>by
    obtain rfl:oi'=o:=Option.some.inj (hoi'.symm.trans ho)
    exact halli e he hb) h1
   rcases Nat.lt_or_ge j listed.size with h' | h'
   ·simp[h']at hj0 this;rw[hj0]at this;cases this
   ·simp[Array.getElem?_eq_none h']at this

def A1o(P:Program)(ops:Array Oper)(R:World→World→Prop)(K:Act→World→Prop):Nat→Array Bool→Act→World→Prop
 | 0,listed,a,w=>Region.ready .any ops listed=[]∧K a w
 | fuel+1,listed,a,w=>(Region.ready .any ops listed=[]→K a w) ∧
   ∀i∈Region.ready .any ops listed,opOK P ops i (fun a' w'=>(Fe ops i=true∨R w w')∧A1o P ops R K fuel (listed.setIfInBounds i true) a' w') a w

theorem A5k:∀(fuel t:Nat) (listed:Array Bool) (a:Act) (w:World),A1o P ops R K fuel listed a w →
  seqOK P ops K (Region.linearise.go .any ops fuel t listed []) a w:=by
 intro fuel
 induction fuel with
 | zero=>intro t listed a w h;simpa [Region.linearise.go,seqOK]using h.2
 | succ fuel ih=>
  intro t listed a w h
  obtain⟨h₀,h₁⟩:=h
  simp only[Region.linearise.go]
  change seqOK P ops K (match (Region.ready .any ops listed)[t % (Region.ready .any ops listed).length]? with
   | some i=>Region.linearise.go .any ops fuel (t / (Region.ready .any ops listed).length) (listed.setIfInBounds i true) [i]
   | none=>[].reverse) a w
  cases hi:(Region.ready .any ops listed)[t % (Region.ready .any ops listed).length]? with
  | none=>
   have hnil:Region.ready .any ops listed=[]:=by
    cases hr:Region.ready .any ops listed with
    | nil=>rfl
    | cons x xs=>
     rw[hr]at hi
     have hlt:t % (x::xs).length<(x::xs).length:=Nat.mod_lt _ (by simp)
     simp at hi
     simp at hlt
     omega
   simpa [seqOK]using h₀ hnil
  | some i=>
   simp only[]
   rw[linearise_go_acc,List.reverse_singleton,List.singleton_append]
   exact Me (fun a w hh=>ih _ _ a w hh.2) (h₁ i (List.mem_of_getElem? hi))
theorem Aig{i j:Nat}{oi oj:Oper}{v:Value}(hi:ops[i]?=some oi)(hj:ops[j]?=some oj)(hap:oi.apart ops oj=true)
  (hsi:∀cs b,oi.op≠.select cs b) (hsj:∀cs b,oj.op≠.select cs b) {K:Act→World→Prop} {a:Act} {w:World} {Z:World→Prop}
  (hy:∀w',Z w'→Nn P ops i v a w') (h:opOK P ops j K (a.put oi.dst v) w) :
  opOK P ops j (fun a' w'=>(∀w',Z w'→Nn P ops i v a' w')∧K (a'.put oi.dst v) w') a w:=by
 obtain⟨h1,h2,h3⟩:=Oper.apart_spec hap
 have keep:∀u,∀w',Z w'→Nn P ops i v (a.put oj.dst u) w':=fun u w' hz=>by
  obtain⟨o,ho,y1,y2⟩:=hy w' hz
  obtain rfl:oi=o:=Option.some.inj (hi.symm.trans ho)
  refine⟨oi,hi,?_,?_⟩
  ·rw[wanted_put oi a oj.dst u h3,execOp_put oi hsi a oj.dst u h3];exact y1
  ·rw[wanted_put oi a oj.dst u h3];exact y2
 unfold opOK at *
 simp only[hj]at *
 rw[wanted_put oj a oi.dst v h1,execOp_put oj hsj a oi.dst v h1]at h
 by_cases hw:Region.wanted oj (yielded ops a.tmps)=true
 ·simp only[hw,if_true]at h ⊢
  refine⟨h.1,?_⟩
  replace h:=h.2
  revert h
  generalize (execOp a.eval oj).run P w=r
  intro h
  cases r with
  | halt x w'=>exact h.elim
  | ok x w'=>
   cases x<;>simp only at h ⊢<;>try exact h.elim
   case value u=>exact⟨keep u,by rw[←Act.put_comm a v u h2];exact h⟩
   case skip=>exact⟨keep _,by rw[←Act.put_comm a v undef h2];exact h⟩
   case enter f args=>exact Fn.mono h fun u w'' he=>⟨keep u,by rw[←Act.put_comm a v u h2];exact he⟩
   case round l f tmps assign body=>exact Round.mono h fun u w'' he=>⟨keep u,by rw[←Act.put_comm a v u h2];exact he⟩
 ·simp only[hw]at h ⊢
  exact⟨keep _,by rw[←Act.put_comm a v undef h2];exact h⟩

theorem A85(hR:∀a b c,R a b→R b c→R a c)(hR0:∀a,R a a){i:Nat}{oi:Oper}{v:Value}(hi:ops[i]?=some oi)(hsel:∀(j:Nat) (o:Oper) cs b,ops[j]?=some o→o.op≠.select cs b) :
  ∀(fuel:Nat) (listed:Array Bool) (a:Act) (w:World),Down ops listed →
   (∀j oj,ops[j]?=some oj→j≠i→listed.getD j true=false→(∀e∈oj.after,Region.binds .any e=true→e.on≠i)→oi.apart ops oj=true) →
   i∈Region.ready .any ops listed→(∀w',R w w'→Nn P ops i v a w') →
   A1o P ops R K fuel (listed.setIfInBounds i true) (a.put oi.dst v) w→A1o P ops R K (fuel+1) listed a w:=by
 intro fuel
 have hd:N2 ops i=oi.dst:=by simp[N2,hi]
 induction fuel with
 | zero=>
  intro listed a w _ _ hr hy H
  refine⟨fun h=>(by rw[h]at hr;cases hr),fun j hj=>?_⟩
  by_cases hji:j=i
  ·subst hji;exact(hy w (hR0 w)).opOK (by rw[hd];exact⟨.inr (hR0 w),H⟩)
  ·have:=ready_mono hj hji
   rw[H.1]at this
   cases this
 | succ fuel ih=>
  intro listed a w hdn hfree hr hy H
  refine⟨fun h=>(by rw[h]at hr;cases hr),fun j hj=>?_⟩
  by_cases hji:j=i
  ·subst hji;exact(hy w (hR0 w)).opOK (by rw[hd];exact⟨.inr (hR0 w),H⟩)
  ·have h1:=H.2 j (ready_mono hj hji)
   obtain⟨hjun,oj,hoj,hall⟩:=mem_ready.1 hj
   have hnot:∀e∈oj.after,Region.binds .any e=true→e.on≠i:=fun e he hb heq=>by
    have h1:=hall e he hb
    have h0:=(mem_ready.1 hr).1
    rw[heq]at h1
    rcases Nat.lt_or_ge i listed.size with h' | h'
    ·simp[h']at h0 h1;rw[h0]at h1;cases h1
    ·simp[Array.getElem?_eq_none h']at h1
   have h2:=Aig hi hoj (hfree j oj hoj hji hjun hnot) (fun cs b=>hsel i oi cs b hi) (fun cs b=>hsel j oj cs b hoj) hy h1
   have hfree':∀k ok,ops[k]?=some ok→k≠i→(listed.setIfInBounds j true).getD k true=false →
     (∀e∈ok.after,Region.binds .any e=true→e.on≠i)→oi.apart ops ok=true:=fun k ok hk hki hun hno=>by
    refine hfree k ok hk hki ?_ hno
    by_cases hjk:j=k
    ·subst hjk;exact hjun
    ·rw[getD_set_ne true hjk]at hun;exact hun
   have hnl:=Aku hdn hr hj hji
   refine Me (fun a' w' h3=>?_) h2
   have hRw:R w w':=by
    rcases h3.2.1 with h | h
    ·rw[hnl]at h;cases h
    ·exact h
   refine⟨.inr hRw,ih (listed.setIfInBounds j true) a' w' (hdn.set hj) hfree' (ready_mono hr (Ne.symm hji)) (fun w'' hz=>h3.1 w'' (hR _ _ _ hRw hz)) ?_⟩
   rw[Array.setIfInBounds_comm _ _ hji]
   exact h3.2.2
def Ff(P:Program)(ops:Array Oper)(Q R:World→World→Prop)(K:Act→World→Prop):List (Nat×Bool)→Act→World→Prop
 | [],a,w=>K a w
 | (i,true)::rest,a,w=>∃v,(∀w',Q w w'→Nn P ops i v a w')∧Ff P ops Q R K rest (a.put (N2 ops i) v) w
 | (i,false)::rest,a,w=>opOK P ops i (fun a' w'=>(Fe ops i=true∨R w w')∧Ff P ops Q R K rest a' w') a w
def planFits(ops:Array Oper):List (Nat×Bool)→Array Bool→Bool
 | [],listed=>(Region.ready .any ops listed).isEmpty
 | (i,true)::rest,listed=>Region.free .any ops listed i&&(Region.ready .any ops listed).contains i&&planFits ops rest (listed.setIfInBounds i true)
 | (i,false)::rest,listed=>(Region.ready .any ops listed==[i])&&planFits ops rest (listed.setIfInBounds i true)

theorem Y6(hR:∀a b c,R a b→R b c→R a c)(hR0:∀a,R a a)(hs:Region.noSelect ops=true):∀(l:List (Nat×Bool)) (listed:Array Bool) (a:Act) (w:World),Down ops listed→planFits ops l listed=true →
  Ff P ops R R K l a w→A1o P ops R K l.length listed a w
 | [],listed,a,w,_,hf,h=>⟨by simpa [planFits]using hf,h⟩
 | (i,true)::rest,listed,a,w,hdn,hf,h=>by
  simp only[planFits,Bool.and_eq_true]at hf
  obtain⟨⟨hf1,hf2⟩,hf3⟩:=hf
  obtain⟨v,hy,hrest⟩:=h
  cases hi:ops[i]? with
  | none=>simp[Region.free,hi]at hf1
  | some oi=>
   have hd:N2 ops i=oi.dst:=by simp[N2,hi]
   rw[hd]at hrest
   exact A85 hR hR0 hi (Region.noSelect_spec hs) rest.length listed a w hdn (Region.free_spec hi hf1) (by simpa using hf2) hy (Y6 hR hR0 hs rest _ _ _ (hdn.set (by simpa using hf2)) hf3 hrest)
 | (i,false)::rest,listed,a,w,hdn,hf,h=>by
  simp only[planFits,Bool.and_eq_true]at hf
  obtain⟨hf1,hf3⟩:=hf
  have hr:Region.ready .any ops listed=[i]:=by simpa using hf1
  show A1o P ops R K (rest.length+1) listed a w
  refine⟨fun h0=>(by rw[hr]at h0;cases h0),fun j hj=>?_⟩
  rw[hr]at hj
  obtain rfl:j=i:=by simpa using hj
  exact Me (fun a' w' hh=>⟨hh.1,Y6 hR hR0 hs rest _ _ _ (hdn.set (by rw[hr];simp)) hf3 hh.2⟩) h

theorem Ye:∀(l:List (Nat×Bool)) (a:Act) (w:World),Ff P ops Eq (fun _ _=>True) K l a w→seqOK P ops K (l.map (·.1)) a w
 | [],_,_,h=>h
 | (i,true)::rest,a,w,h=>by
  obtain⟨v,hy,hrest⟩:=h
  exact(hy w rfl).opOK (Ye rest _ _ hrest)
 | (i,false)::rest,a,w,h=>Me (fun a' w' hh=>Ye rest _ _ hh.2) h
end

end Go.Proofs.YtfcnhnbnjdccfaaGreat

namespace Go.Proofs.YtfcnhnbnjdccfaaGreat
set_option linter.all false
open Go

structure Upd (S:List Nat) (w w':World):Prop where
 os:w'.os=w.os
 tape:w'.tape=w.tape
 output:w'.output=w.output
 size:w.heap.size≤w'.heap.size
 same:∀k,k<w.heap.size→k∉S→w'.heap[k]?=w.heap[k]?
abbrev Ext:=Upd []

theorem Upd.refl(S:List Nat)(w:World):Upd S w w:=⟨rfl,rfl,rfl,Nat.le_refl _,fun _ _ _=>rfl⟩
theorem Upd.trans{S:List Nat}{a b c:World}(h:Upd S a b)(k:Upd S b c):Upd S a c:=
 ⟨k.os.trans h.os,k.tape.trans h.tape,k.output.trans h.output,Nat.le_trans h.size k.size,fun i hi hs=>(k.same i (Nat.lt_of_lt_of_le hi h.size) hs).trans (h.same i hi hs)⟩
theorem Upd.mono{S S':List Nat}{a b:World}(h:Upd S a b)(hs:∀k,k∈S→k∈S'):Upd S' a b:=
 ⟨h.os,h.tape,h.output,h.size,fun i hi hn=>h.same i hi (fun hk=>hn (hs i hk))⟩
theorem Ext.up{S:List Nat}{a b:World}(h:Ext a b):Upd S a b:=h.mono (fun _ h=>by cases h)
theorem Upd.old{S S':List Nat}{a b:World}(h:Upd S a b)(hs:∀k,k∈S→k<a.heap.size→k∈S'):Upd S' a b:=
 ⟨h.os,h.tape,h.output,h.size,fun i hi hn=>h.same i hi (fun hk=>hn (hs i hk hi))⟩
theorem Upd.blk{S:List Nat}{a b:World}{k:Nat}{o:Obj}(h:Upd S a b)(hk:a.heap[k]?=some o)(hs:k∉S):b.heap[k]?=some o:=
 (h.same k (Array.getElem?_eq_some_iff.1 hk).1 hs).trans hk
theorem Ext.blk{a b:World}{k:Nat}{o:Obj}(h:Ext a b)(hk:a.heap[k]?=some o):b.heap[k]?=some o:=Upd.blk h hk (by simp)

theorem A8{w:World}{k:Nat}{o:Obj}(h:w.heap[k]?=some o):k<w.heap.size:=(Array.getElem?_eq_some_iff.1 h).1
theorem Ac5{w:World}{p:Addr}{v:Value}(h:w.cell? p=some v):p.block<w.heap.size:=by
 unfold World.cell? at h
 cases hh:w.heap[p.block]? with
 | none=>simp[hh]at h
 | some o=>exact A8 hh

theorem Upd.cell{S:List Nat}{a b:World}{p:Addr}{v:Value}(h:Upd S a b)(hc:a.cell? p=some v)(hs:p.block∉S):b.cell? p=some v:=by
 have:=h.same p.block (Ac5 hc) hs
 unfold World.cell? at *
 rw[this];exact hc
theorem Ext.cell{a b:World}{p:Addr}{v:Value}(h:Ext a b)(hc:a.cell? p=some v):b.cell? p=some v:=Upd.cell h hc (by simp)
structure New (o:Obj) (w w':World):Prop where
 ext:Ext w w'
 size:w'.heap.size=w.heap.size+1
 blk:w'.heap[w.heap.size]?=some o
theorem New.mk'(o:Obj)(w:World):New o w { w with heap:=w.heap.push o }:=
 ⟨⟨rfl,rfl,rfl,by simp,fun k hk _=>by show(w.heap.push o)[k]?=_;rw[Array.getElem?_push,if_neg (by omega)]⟩,by simp,by simp⟩
structure Put (b:Nat) (o:Obj) (w w':World):Prop where
 upd:Upd [b] w w'
 size:w'.heap.size=w.heap.size
 blk:w'.heap[b]?=some o
theorem Put.mk'{b:Nat}{o₀:Obj}(o:Obj){w:World}(h:w.heap[b]?=some o₀):Put b o w { w with heap:=w.heap.setIfInBounds b o }:=
 ⟨⟨rfl,rfl,rfl,by simp,fun k _ hs=>by show(w.heap.setIfInBounds b o)[k]?=_;rw[Array.getElem?_setIfInBounds_ne (by simp at hs;omega)]⟩,by simp,
  by show(w.heap.setIfInBounds b o)[b]?=_;simp[A8 h]⟩

def bump(w:World):World:={ w with drawn:=w.drawn+1 }
theorem P3(w:World):Ext w (bump w):=⟨rfl,rfl,rfl,Nat.le_refl _,fun _ _ _=>rfl⟩
abbrev Blk(w:World)(b:Nat)(l:List Value)(ty:TypeId):Prop:=w.heap[b]?=some (.cells l.toArray ty (0,0))

theorem Blk.cell{w:World}{b:Nat}{l:List Value}{ty:TypeId}{i:Nat}{v:Value}(h:Blk w b l ty)(hi:l[i]?=some v):w.cell? ⟨b,i,none⟩=some v:=by
 unfold World.cell?
 simp only[h]
 simpa using hi
theorem Blk.frozen{w:World}{b:Nat}{l:List Value}{ty:TypeId}(h:Blk w b l ty)(i:Nat)(s:Option Nat):w.frozen? ⟨b,i,s⟩=false:=by
 unfold World.frozen?
 simp only[h]
 simp
def Row(w:World)(p:Addr)(vs:List Value):Prop:=∀i v,vs[i]?=some v→w.cell? (p.add i)=some v
theorem Row.up{S:List Nat}{a b:World}{p:Addr}{vs:List Value}(h:Upd S a b)(hc:Row a p vs)(hs:p.block∉S):Row b p vs:=fun i v hi=>
 h.cell (hc i v hi) (by unfold Addr.add;split<;>exact hs)
theorem Row.nil(w:World)(p:Addr):Row w p []:=fun i v h=>by simp at h
theorem Row.cons{w:World}{p:Addr}{v:Value}{vs:List Value}(h:w.cell? p=some v)(ht:∀i u,vs[i]?=some u→w.cell? (p.add (i+1))=some u):Row w p (v::vs):=fun i u hi=>by
 cases i with
 | zero=>simp at hi;subst hi;simpa [Addr.add]using h
 | succ i=>exact ht i u (by simpa using hi)
theorem Blk.row{w:World}{b:Nat}{l:List Value}{ty:TypeId}(h:Blk w b l ty)(o n:Nat):Row w ⟨b,o,none⟩ ((l.drop o).take n):=fun i v hi=>by
 have:l[o+i]?=some v:=by
  rw[List.getElem?_take]at hi
  split at hi
  ·simpa using hi
  ·cases hi
 have:=Blk.cell h this
 unfold Addr.add
 split
 ·rename_i h0;subst h0;simpa using this
 ·simpa using this

theorem Hd{P:Program}{w:World}{p:Addr}:∀(vs:List Value) (i:Nat) (acc:Array Value),(∀j v,vs[j]?=some v→w.cell? (p.add (i+j))=some v) →
  (loadCellsFrom p i vs.length acc).run P w=.ok (acc++vs.toArray) w
 | [],i,acc,_=>by simp[loadCellsFrom,pure]
 | v::vs,i,acc,h=>by
  have h0:=h 0 v rfl
  have ih:=Hd (P:=P) (w:=w) (p:=p) vs (i+1) (acc.push v) (fun j u hj=>by have:=h (j+1) u (by simpa using hj);rw[show i+1+j=i+(j+1)by omega];exact this)
  simp only[List.length_cons,loadCellsFrom,load,bind,Sem.bind,Sem.run]
  rw[show p.add i=p.add (i+0)by rfl,h0]
  simp only[]
  rw[ih]
  simp
theorem Ej{P:Program}{w:World}{p:Addr}{vs:List Value}(h:Row w p vs):(loadCells p vs.length).run P w=.ok vs.toArray w:=by
 have:=Hd (P:=P) (w:=w) (p:=p) vs 0 #[] (fun j v hj=>by simpa using h j v hj)
 simpa [loadCells]using this
def flat:Value→Bool
 | .agg _ | .tuple _=>false
 | _=>true

theorem Bw{P:Program}{b:Nat}{ty:TypeId}:∀(vs:List Value) (o i:Nat) (l:List Value) (w:World),(∀v∈vs,flat v=true)→o+i+vs.length≤l.length→Blk w b l ty →
  (storeCells ⟨b,o,none⟩ vs i).run P w=.ok () { w with heap:=w.heap.setIfInBounds b (.cells (l.take (o+i)++vs++l.drop (o+i+vs.length)).toArray ty (0,0)) }
 | [],o,i,l,w,_,_,h=>by
  simp only[storeCells,pure,Sem.run,List.append_nil,List.length_nil,Nat.add_zero,List.take_append_drop]
  have:w.heap.setIfInBounds b (.cells l.toArray ty (0,0))=w.heap:=by
   obtain⟨hlt,hb⟩:=Array.getElem?_eq_some_iff.1 h
   apply Array.ext_getElem?
   intro k
   by_cases hk:k=b
   ·subst hk;simp[hlt];exact hb.symm
   ·rw[Array.getElem?_setIfInBounds_ne (fun e=>hk e.symm)]
  rw[this]
 | v::vs,o,i,l,w,h1,h2,h=>by
  have hadd:(⟨b,o,none⟩:Addr).add i=⟨b,o+i,none⟩:=by unfold Addr.add;split<;>simp_all
  simp only[List.length_cons]at h2
  have hl:o+i<l.length:=by omega
  have hc:w.cell? ⟨b,o+i,none⟩=some l[o+i]:=Blk.cell h (List.getElem?_eq_getElem hl)
  have hf:=Blk.frozen h (o+i) none
  have hv:=h1 v (by simp)
  have hset:(w.setCell ⟨b,o+i,none⟩ v)={ w with heap:=w.heap.setIfInBounds b (.cells (l.set (o+i) v).toArray ty (0,0)) }:=by
   obtain⟨hlt,hb⟩:=Array.getElem?_eq_some_iff.1 h
   unfold World.setCell
   congr 1
   apply Array.ext_getElem?
   intro k
   by_cases hk:k=b
   ·subst hk
    rw[Array.getElem?_eq_getElem (by rw[Array.size_modify];exact hlt),Array.getElem_modify_self,hb]
    simp[hlt]
   ·rw[Array.getElem?_modify,if_neg (fun e=>hk e.symm),Array.getElem?_setIfInBounds_ne (fun e=>hk e.symm)]
  have hB:Blk (w.setCell ⟨b,o+i,none⟩ v) b (l.set (o+i) v) ty:=by
   rw[hset]
   show(w.heap.setIfInBounds b _)[b]?=_
   simp[A8 h]
  have ih:=Bw (P:=P) vs o (i+1) (l.set (o+i) v) (w.setCell ⟨b,o+i,none⟩ v) (fun u hu=>h1 u (by simp[hu])) (by simp;omega) hB
  simp only[storeCells,store,bind,Sem.bind,hadd]
  have hrun:∀k:Sem Unit,(Sem.store .plain ⟨b,o+i,none⟩ v k).run P w=k.run P (w.setCell ⟨b,o+i,none⟩ v):=by
   intro k
   cases v<;>first | (simp[flat]at hv;done) | simp[Sem.run,hc,hf]
  rw[hrun]
  skip
  show(storeCells ⟨b,o,none⟩ vs (i+1)).run P _=_
  rw[ih,hset]
  dsimp only
  have e2:List.take (o+(i+1)) (l.set (o+i) v)++vs++List.drop (o+(i+1)+vs.length) (l.set (o+i) v)=l.take (o+i)++(v::vs)++l.drop (o+i+(v::vs).length):=by
   apply List.ext_getElem?
   intro j
   simp only[List.getElem?_append,List.getElem?_take,List.getElem?_drop,List.length_take,List.length_set,List.length_append,List.length_cons,List.getElem?_set,List.getElem?_cons]
   grind
  rw[e2]
  congr 2
  apply Array.ext_getElem?
  intro k
  simp only[Array.getElem?_setIfInBounds,Array.size_setIfInBounds]
  split<;>simp_all
end Go.Proofs.YtfcnhnbnjdccfaaGreat

namespace Go.Proofs.YtfcnhnbnjdccfaaGreat
set_option linter.all false
open Go

abbrev Tms:=List (Nat×Value)
def Has(n:Nat)(tm:Array Value)(L:Tms):Prop:=n≤tm.size∧∀t v,L.lookup t=some v→tm.getD t undef=v

def evL(L:Tms):Operand→Option Value
 | .tmp t=>L.lookup t
 | .const v=>some v
 | .global g=>some (.pointer (some ⟨g,0,none⟩))
 | .func f=>some (.func (.func f) #[] #[])
def rhoL(L:Tms)(x:Operand):Value:=(evL L x).getD undef

theorem Has.ev{n:Nat}{tm:Array Value}{L:Tms}{df:List Deferred}(h:Has n tm L){x:Operand}(hx:(evL L x).isSome=true):Act.eval { tmps:=tm,defers:=df } x=rhoL L x:=by
 cases x with
 | tmp t=>
  simp only[evL,Option.isSome_iff_exists]at hx
  obtain⟨v,hv⟩:=hx
  simp only[rhoL,evL,hv,Option.getD_some,Act.eval]
  exact h.2 t v hv
 | _=>rfl

def knows(L:Tms)(o:Oper):Bool:=(match o.op with | .select ..=>false | .defer ..=>false | _=>true)&&o.op.operands.all fun x=>(evL L x).isSome
theorem Has.exec{n:Nat}{tm:Array Value}{L:Tms}{df:List Deferred}(h:Has n tm L){o:Oper}(hk:knows L o=true) :
  execOp (Act.eval { tmps:=tm,defers:=df }) o=execOp (rhoL L) o:=by
 simp only[knows,Bool.and_eq_true]at hk
 refine execOp_congr o (fun cs b e=>?_) (fun x hx=>h.ev (Array.all_eq_true_iff_forall_mem.1 hk.2 x hx))
 rw[e]at hk;simp at hk
theorem Uq{L:Tms}{o:Oper}(hk:knows L o=true)(c:Call):o.op≠.defer c:=by
 intro e
 simp[knows,e]at hk

def wantL(ops:Array Oper)(L:Tms)(o:Oper):Option Bool:=
 match o.guard with
 | none=>some true
 | some (g,want)=>
  match (ops[g]?).bind (·.dst)with
  | some t=>match L.lookup t with
   | some (.bool b)=>some (b==want)
   | _=>none
  | none=>none
theorem Has.want{n:Nat}{tm:Array Value}{L:Tms}(h:Has n tm L){ops:Array Oper}{o:Oper}{b:Bool}(hw:wantL ops L o=some b):Region.wanted o (yielded ops tm)=b:=by
 unfold wantL at hw
 unfold Region.wanted
 split at hw
 ·rename_i hg;simp only[hg];simpa using hw
 ·rename_i g want hg
  simp only[hg]
  split at hw
  ·rename_i t ht
   split at hw
   ·rename_i c hc
    have h1:=h.2 t _ hc
    have h2:tm[t]?=some (.bool c):=by
     rw[Array.getD_eq_getD_getElem?]at h1
     cases hx:tm[t]? with
     | none=>rw[hx]at h1;simp[undef]at h1
     | some x=>rw[hx]at h1;simp at h1;rw[h1]
    have:yielded ops tm g=some c:=by simp[yielded,ht,h2]
    rw[this]
    simp only[Option.some.injEq]at hw
    subst hw
    cases c<;>cases want<;>rfl
   ·cases hw
  ·cases hw
def putL(n:Nat)(L:Tms)(d:Option Tmp)(v:Value):Option Tms:=
 match d with
 | none=>some L
 | some d=>if d<n then some ((d,v)::L.filter (fun p=>p.1 != d))else none
theorem Has.put{n:Nat}{tm:Array Value}{L L':Tms}{d:Option Tmp}{v:Value}(h:Has n tm L)(hp:putL n L d v=some L'):Has n (Act.put { tmps:=tm,defers:=([]:List Deferred) } d v).tmps L':=by
 unfold putL at hp
 cases d with
 | none=>simp only[Option.some.injEq]at hp;subst hp;exact h
 | some d=>
  simp only at hp
  split at hp
  ·rename_i hd
   simp only[Option.some.injEq]at hp
   subst hp
   refine⟨by simp[Act.put,h.1],fun t u ht=>?_⟩
   simp only[Act.put]
   by_cases e:t=d
   ·subst e
    simp only[List.lookup_cons,beq_self_eq_true,Option.some.injEq]at ht
    subst ht
    simp[Array.getD_eq_getD_getElem?,Nat.lt_of_lt_of_le hd h.1]
   ·have hne:(t==d)=false:=by simp[e]
    simp only[List.lookup_cons,hne]at ht
    have:L.lookup t=some u:=by
     revert ht
     clear h
     induction L with
     | nil=>simp
     | cons p L ih=>
      obtain⟨x,y⟩:=p
      simp only[List.filter_cons,List.lookup_cons]
      by_cases hx:x=d
      ·subst hx
       simp only[bne_self_eq_false,Bool.false_eq_true,if_false,hne]
       exact ih
      ·simp only[bne_iff_ne,ne_eq,hx,not_false_eq_true,if_true,List.lookup_cons]
       cases h2:t==x
       ·simpa using ih
       ·exact id
    have h3:=h.2 t u this
    rw[Array.getD_eq_getD_getElem?]at h3 ⊢
    rw[Array.getElem?_setIfInBounds_ne (fun e'=>e e'.symm)]
    exact h3
  ·cases hp

structure Rg where
 P:Program
 X:Ctx
 n:Nat
 ops:Array Oper
 ord:List (Nat×Bool)
 k:List Item
 S:Option (List Nat)
 df:List Deferred

def Rg.Q(r:Rg):World→World→Prop:=match r.S with | none=>Eq | some S=>Upd S
def Rg.R(r:Rg):World→World→Prop:=match r.S with | none=>fun _ _=>True | some S=>Upd S

def St(P:Program)(X:Ctx)(n:Nat)(k:List Item)(L:Tms)(df:List Deferred)(w:World):Prop:=∀tm,Has n tm L→At P X k { tmps:=tm,defers:=df } w
def RG(r:Rg)(i:Nat)(L:Tms)(w:World):Prop:=
 ∀tm,Has r.n tm L→Ff r.P r.ops r.Q r.R (fun a w=>a.defers=r.df∧At r.P r.X r.k a w) (r.ord.drop i) { tmps:=tm,defers:=r.df } w

def regOf:List Item→Option (Array Oper×Bool×List Item)
 | .code (.region _ ops b)::k=>some (ops,b,k)
 | _=>none

theorem St.region{P:Program}{X:Ctx}{n:Nat}{kk k:List Item}{L:Tms}{df:List Deferred}{w:World}{ops:Array Oper}(ord:List (Nat×Bool))
  (h:(regOf kk).map (fun p=>(p.1,p.2.1,norm 99 p.2.2))=some (ops,false,k)) (ho:ord.map (·.1)=List.range ops.size)
  (hh:RG { P,X,n,ops,ord,k,S:=none,df } 0 L w):St P X n kk L df w:=by
 intro tm htm
 unfold regOf at h
 split at h
 ·rename_i id ops' b k'
  simp only[Option.map_some,Option.some.injEq,Prod.mk.injEq]at h
  obtain⟨rfl,rfl,hk⟩:=h
  refine .head stepR_region ?_
  have h1:=Ye _ _ _ (hh tm htm)
  simp only[List.drop_zero]at h1
  rw[ho]at h1
  exact F9 (K:=fun a w=>a.defers=df∧At P X k a w) (fun a w h=>At.norm 99 hk h.2) _ _ _ h1
 ·cases h

theorem St.draw{P:Program}{X:Ctx}{n:Nat}{kk k:List Item}{L:Tms}{df:List Deferred}{w:World}{ops:Array Oper}(S:List Nat)(ord:List (Nat×Bool))(hm:P.follows .mixedOrders=true)
  (h:(regOf kk).map (fun p=>(p.1,p.2.1,norm 99 p.2.2))=some (ops,true,k)) (ho:(Region.noSelect ops&&planFits ops ord (Array.replicate ops.size false)&&ord.length==ops.size)=true)
  (hh:∀w',Ext w w'→w'.heap.size=w.heap.size→RG { P,X,n,ops,ord,k,S:=some S,df } 0 L w'):St P X n kk L df w:=by
 intro tm htm
 unfold regOf at h
 split at h
 ·rename_i id ops' b k'
  simp only[Option.map_some,Option.some.injEq,Prod.mk.injEq]at h
  obtain⟨rfl,rfl,hk⟩:=h
  simp only[Bool.and_eq_true,beq_iff_eq]at ho
  obtain⟨⟨ho1,ho2⟩,ho3⟩:=ho
  refine .head stepR_region_draw ?_
  have h1:=Y6 (R:=Upd S) (fun _ _ _=>Upd.trans) (Upd.refl S) ho1 ord _ _ _ (fun j o _ hj=>by
   have:(Array.replicate ops'.size false).getD j false=false:=by
    rw[Array.getD_eq_getD_getElem?,Array.getElem?_replicate];split<;>rfl
   rw[this]at hj;cases hj) ho2 (hh (bump w) (P3 w) rfl tm htm)
  rw[ho3]at h1
  simp only[Region.schedule,hm,Bool.true_or,if_true]
  refine F9 (K:=fun a w=>a.defers=df∧At P X k a w) (fun a w h=>At.norm 99 hk h.2) _ _ _ (A5k _ _ _ _ _ h1)
 ·cases h

theorem Has.sub{n:Nat}{tm:Array Value}{L L':Tms}(h:Has n tm L)(hs:L'.map (fun p=>L.lookup p.1)=L'.map (fun p=>some p.2)):Has n tm L':=by
 refine⟨h.1,fun t v ht=>?_⟩
 have hmem:∀p∈L',L.lookup p.1=some p.2:=by
  clear h ht
  induction L' with
  | nil=>simp
  | cons p L' ih=>
   simp only[List.map_cons,List.cons.injEq]at hs
   intro q hq
   cases hq with
   | head=>exact hs.1
   | tail _ hq=>exact ih hs.2 q hq
 have:∃p∈L',p.1=t∧p.2=v:=by
  clear hs hmem
  induction L' with
  | nil=>simp at ht
  | cons p L' ih=>
   obtain⟨x,y⟩:=p
   simp only[List.lookup_cons]at ht
   cases hx:t==x
   ·rw[hx]at ht
    obtain⟨p,hp,e1,e2⟩:=ih ht
    exact⟨p,List.mem_cons_of_mem _ hp,e1,e2⟩
   ·rw[hx]at ht
    simp only[Option.some.injEq]at ht
    have e:t=x:=by simpa using hx
    exact⟨(x,y),List.mem_cons_self,e.symm,ht⟩
 obtain⟨p,hp,rfl,rfl⟩:=this
 exact h.2 _ _ (hmem p hp)

theorem St.weak{P:Program}{X:Ctx}{n:Nat}{k:List Item}{L L':Tms}{df:List Deferred}{w:World}(hs:L'.map (fun p=>L.lookup p.1)=L'.map (fun p=>some p.2))(h:St P X n k L' df w):St P X n k L df w:=
 fun tm htm=>h tm (htm.sub hs)
theorem RG.done{r:Rg}{i:Nat}{L:Tms}{w:World}(L':Tms)(he:(r.ord.drop i).isEmpty=true)(hs:L'.map (fun p=>L.lookup p.1)=L'.map (fun p=>some p.2))(h:St r.P r.X r.n r.k L' r.df w):RG r i L w:=by
 intro tm htm
 have:r.ord.drop i=[]:=by simpa using he
 rw[this]
 exact⟨rfl,h tm (htm.sub hs)⟩

inductive Ob where
 | eq (u v:Value)
 | cell (p:Addr) (v:Value)
 | cells (p:Addr) (vs:List Value)
 | raw (s:Sem Value) (v:Value)
def Ob.holds(P:Program):Ob→World→Prop
 | .eq u v,_=>u=v
 | .cell p v,w=>w.cell? p=some v
 | .cells p vs,w=>Row w p vs
 | .raw s v,w=>s.run P w=.ok v w
def Obs(P:Program):List Ob→World→Prop
 | [],_=>True
 | [o],w=>o.holds P w
 | o::os,w=>o.holds P w∧Obs P os w
theorem Obs.mem{P:Program}{w:World}:∀ {os:List Ob},Obs P os w→∀o∈os,o.holds P w
 | [_],h,o,ho=>by simp at ho;subst ho;exact h
 | _::o2::os,h,o,ho=>by
  cases ho with
  | head=>exact h.1
  | tail _ ho=>exact Obs.mem (os:=o2::os) h.2 o ho
def Ob.off(P:Program)(S:List Nat):Ob→World→Prop
 | .cell p _,_=>p.block∉S
 | .cells p _,_=>p.block∉S
 | .raw s v,w=>∀w',Upd S w w'→s.run P w'=.ok v w'
 | .eq _ _,_=>True
def Offs(P:Program)(S:List Nat):List Ob→World→Prop
 | [],_=>True
 | [o],w=>o.off P S w
 | o::os,w=>o.off P S w∧Offs P S os w
theorem Offs.mem{P:Program}{S:List Nat}{w:World}:∀ {os:List Ob},Offs P S os w→∀o∈os,o.off P S w
 | [_],h,o,ho=>by simp at ho;subst ho;exact h
 | _::o2::os,h,o,ho=>by
  cases ho with
  | head=>exact h.1
  | tail _ ho=>exact Offs.mem (os:=o2::os) h.2 o ho
theorem Ob.later{P:Program}{S:List Nat}{o:Ob}{w w':World}(h:o.holds P w)(hs:o.off P S w)(hu:Upd S w w'):o.holds P w':=by
 cases o with
 | eq u v=>exact h
 | cell p v=>exact hu.cell h hs
 | cells p vs=>exact Row.up hu h hs
 | raw s v=>exact hs w' hu
def yieldL(P:Program)(L:Tms)(o:Oper)(orc:Option (Bool×Value)):Option (Value×List Ob):=
 match orc with
 | none=>match Sem.pv P (execOp (rhoL L) o)with
  | some (.value u)=>some (u,[])
  | _=>none
 | some (false,v)=>match Sem.pv P (execOp (rhoL L) o)with
  | some (.value u)=>some (v,[.eq u v])
  | _=>none
 | some (true,v)=>match o.op with
   | .load t a=>match rhoL L a,Sem.pv P (isAgg t)with
    | .pointer (some p),some false=>some (v,[.cell p v])
    | .pointer (some p),some true=>match v with
     | .agg cs=>if Sem.pv P (sizeOf t)=some cs.size then some (v,[.cells p cs.toList])else none
     | _=>none
    | _,_=>none
   | .lookup t m k ok=>some (v,[.raw (Instr.lookup t (rhoL L m) (rhoL L k) ok) v])
   | .indexAddr t x ix=>some (v,[.raw (Instr.indexAt t (rhoL L x) (rhoL L ix)) v])
   | .slice t x lo hi mx=>some (v,[.raw (Instr.sliceAt t (rhoL L x) (lo.map (rhoL L)) (hi.map (rhoL L)) (mx.map (rhoL L))) v])
   | .binOp op t x y _=>some (v,[.raw (do eqGuard op t x y (rhoL L x) (rhoL L y);binOp op t (rhoL L x) (rhoL L y)) v])
   | _=>none

theorem Abn{P:Program}{L:Tms}{o:Oper}{orc:Option (Bool×Value)}{v:Value}{os:List Ob}(h:yieldL P L o orc=some (v,os))(w:World)(hos:∀x∈os,x.holds P w) :
  (execOp (rhoL L) o).run P w=.ok (.value v) w:=by
 unfold yieldL at h
 split at h
 ·split at h
  ·rename_i u hu
   simp only[Option.some.injEq,Prod.mk.injEq]at h;obtain⟨rfl,rfl⟩:=h
   exact Sem.pv_run P _ _ hu w
  ·cases h
 ·split at h
  ·rename_i u hu
   simp only[Option.some.injEq,Prod.mk.injEq]at h;obtain⟨rfl,rfl⟩:=h
   have e:u=_:=hos _ (List.mem_singleton.2 rfl)
   subst e;exact Sem.pv_run P _ _ hu w
  ·cases h
 ·rename_i v'
  split at h
  ·rename_i t a hop
   split at h
   ·rename_i p hp hagg
    simp only[Option.some.injEq,Prod.mk.injEq]at h;obtain⟨rfl,rfl⟩:=h
    have hc:w.cell? p=some v':=hos _ (List.mem_singleton.2 rfl)
    have ha:=Sem.pv_run P _ _ hagg w
    simp[execOp,hop,hp,Instr.loadAt,Instr.sureAddr,loadVar,Sem.run_bind,ha,load,Sem.run,hc,Result.andThen]
   ·rename_i p hp hagg
    split at h
    ·rename_i cs
     split at h
     ·rename_i hsz
      simp only[Option.some.injEq,Prod.mk.injEq]at h;obtain⟨rfl,rfl⟩:=h
      have hc:Row w p cs.toList:=hos _ (List.mem_singleton.2 rfl)
      have ha:=Sem.pv_run P _ _ hagg w
      have hs:=Sem.pv_run P _ _ hsz w
      have hl:=Ej (P:=P) hc
      simp only[Array.length_toList,Array.toArray_toList]at hl
      simp[execOp,hop,hp,Instr.loadAt,Instr.sureAddr,loadVar,Sem.run_bind,ha,hs,hl,Result.andThen]
     ·cases h
    ·cases h
   ·cases h
  ·rename_i t m k ok hop
   simp only[Option.some.injEq,Prod.mk.injEq]at h;obtain⟨rfl,rfl⟩:=h
   have hr:(Instr.lookup t (rhoL L m) (rhoL L k) ok).run P w=.ok v' w:=hos _ (List.mem_singleton.2 rfl)
   simp[execOp,hop,hr,Result.andThen]
  ·rename_i t x ix hop
   simp only[Option.some.injEq,Prod.mk.injEq]at h;obtain⟨rfl,rfl⟩:=h
   have hr:(Instr.indexAt t (rhoL L x) (rhoL L ix)).run P w=.ok v' w:=hos _ (List.mem_singleton.2 rfl)
   simp[execOp,hop,hr,Result.andThen]
  ·rename_i t x lo hi mx hop
   simp only[Option.some.injEq,Prod.mk.injEq]at h;obtain⟨rfl,rfl⟩:=h
   have hr:(Instr.sliceAt t (rhoL L x) (lo.map (rhoL L)) (hi.map (rhoL L)) (mx.map (rhoL L))).run P w=.ok v' w:=hos _ (List.mem_singleton.2 rfl)
   simp[execOp,hop,hr,Result.andThen]
  ·rename_i op t x y yt hop
   simp only[Option.some.injEq,Prod.mk.injEq]at h;obtain⟨rfl,rfl⟩:=h
   have hr:(do eqGuard op t x y (rhoL L x) (rhoL L y);Go.binOp op t (rhoL L x) (rhoL L y):Sem Value).run P w=.ok v' w:=hos _ (List.mem_singleton.2 rfl)
   simp only[execOp,hop]
   have:=congrArg (fun r=>Result.andThen r fun v w=>Sem.run P (pure (Next.value v)) w) hr
   rw[←Sem.run_bind]at this
   simpa [Result.andThen]using this
  ·cases h
end Go.Proofs.YtfcnhnbnjdccfaaGreat

namespace Go.Proofs.YtfcnhnbnjdccfaaGreat
set_option linter.all false
open Go

abbrev Orc:=List (Nat×Bool×Value)
def quiets(P:Program)(n:Nat)(ops:Array Oper)(orc:Orc):List (Nat×Bool)→Tms→Option (Tms×List Ob)
 | [],L=>some (L,[])
 | (i,true)::rest,L=>
  match ops[i]? with
  | none=>none
  | some o=>match wantL ops L o with
   | none=>none
   | some false=>match putL n L o.dst undef with
    | none=>none
    | some L1=>quiets P n ops orc rest L1
   | some true=>match knows L o with
    | false=>none
    | true=>match yieldL P L o (orc.lookup i)with
     | none=>none
     | some (v,os)=>match putL n L o.dst v with
      | none=>none
      | some L1=>match quiets P n ops orc rest L1 with
       | none=>none
       | some (L2,os2)=>some (L2,os++os2)
 | (_,false)::_,_=>none

theorem A47(tm:Array Value)(df:List Deferred)(d:Option Tmp)(v:Value):Act.put { tmps:=tm,defers:=df } d v={ tmps:=(Act.put { tmps:=tm,defers:=([]:List Deferred) } d v).tmps,defers:=df }:=by
 cases d<;>rfl

theorem Fo{P:Program}{n:Nat}{ops:Array Oper}{orc:Orc}{Q R:World→World→Prop}{K:Act→World→Prop}{df:List Deferred}{w:World}{rest:List (Nat×Bool)} :
  ∀(l:List (Nat×Bool)) {L L2:Tms} {os:List Ob} {tm:Array Value},Has n tm L→quiets P n ops orc l L=some (L2,os)→(∀x∈os,∀w',Q w w'→x.holds P w') →
   (∀tm2,Has n tm2 L2→Ff P ops Q R K rest { tmps:=tm2,defers:=df } w)→Ff P ops Q R K (l++rest) { tmps:=tm,defers:=df } w
 | [],L,L2,os,tm,htm,h,_,hk=>by
  simp only[quiets,Option.some.injEq,Prod.mk.injEq]at h
  obtain⟨rfl,rfl⟩:=h
  exact hk tm htm
 | (i,false)::l,_,_,_,_,_,h,_,_=>by simp[quiets]at h
 | (i,true)::l,L,L2,os,tm,htm,h,hos,hk=>by
  simp only[quiets]at h
  split at h
  ·cases h
  ·rename_i o ho
   have hd:N2 ops i=o.dst:=by simp[N2,ho]
   split at h
   ·cases h
   ·rename_i hwant
    split at h
    ·cases h
    ·rename_i L1 hput
     refine⟨undef,fun w' _=>⟨o,ho,fun hw=>?_,fun _=>rfl⟩,?_⟩
     ·rw[htm.want hwant]at hw;cases hw
     ·rw[hd,A47]
      exact Fo l (htm.put hput) h hos hk
   ·rename_i hwant
    split at h
    ·cases h
    ·rename_i hkn
     split at h
     ·cases h
     ·rename_i v os1 hy
      split at h
      ·cases h
      ·rename_i L1 hput
       split at h
       ·cases h
       ·rename_i L3 os2 hq
        simp only[Option.some.injEq,Prod.mk.injEq]at h
        obtain⟨rfl,rfl⟩:=h
        refine⟨v,fun w' hQ=>⟨o,ho,fun _=>⟨Uq hkn,?_⟩,fun hw=>?_⟩,?_⟩
        ·rw[htm.exec hkn]
         exact Abn hy w' (fun x hx=>hos x (List.mem_append_left _ hx) w' hQ)
        ·rw[htm.want hwant]at hw;cases hw
        ·rw[hd,A47]
         exact Fo l (htm.put hput) hq (fun x hx=>hos x (List.mem_append_right _ hx)) hk

theorem RG.q{r:Rg}{i:Nat}{L:Tms}{w:World}(j:Nat)(orc:Orc)(L':Tms)(os:List Ob)(hS:r.S=none)
  (h:(quiets r.P r.n r.ops orc ((r.ord.drop i).take j) L).map (fun x=>(L'.map (fun p=>x.1.lookup p.1),x.2))=some (L'.map (fun p=>some p.2),os))
  (hos:Obs r.P os w) (hh:RG r (i+j) L' w):RG r i L w:=by
 intro tm htm
 cases hq:quiets r.P r.n r.ops orc ((r.ord.drop i).take j) L with
 | none=>rw[hq]at h;cases h
 | some x=>
  obtain⟨L2,os2⟩:=x
  rw[hq]at h
  simp only[Option.map_some,Option.some.injEq,Prod.mk.injEq]at h
  obtain⟨h1,rfl⟩:=h
  have hsplit:r.ord.drop i=(r.ord.drop i).take j++r.ord.drop (i+j):=by rw[←List.drop_drop,List.take_append_drop]
  rw[hsplit]
  refine Fo _ htm hq (fun x hx w' hQ=>?_) (fun tm2 h2=>hh tm2 (h2.sub h1))
  have:w=w':=by simpa [Rg.Q,hS]using hQ
  subst this
  exact hos.mem x hx
theorem RG.qd{r:Rg}{i:Nat}{L:Tms}{w:World}(S:List Nat)(j:Nat)(orc:Orc)(L':Tms)(os:List Ob)(hS:r.S=some S)
  (h:(quiets r.P r.n r.ops orc ((r.ord.drop i).take j) L).map (fun x=>(L'.map (fun p=>x.1.lookup p.1),x.2))=some (L'.map (fun p=>some p.2),os))
  (hos:Obs r.P os w) (hoff:Offs r.P S os w) (hh:RG r (i+j) L' w):RG r i L w:=by
 intro tm htm
 cases hq:quiets r.P r.n r.ops orc ((r.ord.drop i).take j) L with
 | none=>rw[hq]at h;cases h
 | some x=>
  obtain⟨L2,os2⟩:=x
  rw[hq]at h
  simp only[Option.map_some,Option.some.injEq,Prod.mk.injEq]at h
  obtain⟨h1,rfl⟩:=h
  have hsplit:r.ord.drop i=(r.ord.drop i).take j++r.ord.drop (i+j):=by rw[←List.drop_drop,List.take_append_drop]
  rw[hsplit]
  refine Fo _ htm hq (fun x hx w' hQ=>?_) (fun tm2 h2=>hh tm2 (h2.sub h1))
  have hu:Upd S w w':=by simpa [Rg.Q,hS]using hQ
  exact Ob.later (hos.mem x hx) (hoff.mem x hx) hu

inductive NK where
 | ptr
 | sl (n:Nat)
 | mp
def NK.val:NK→Nat→Value
 | .ptr,b=>.pointer (some ⟨b,0,none⟩)
 | .sl n,b=>.slice (some ⟨b,0,none⟩) n n
 | .mp,b=>.map (some b)

inductive Sp where
 | new (o:Obj) (k:NK)
 | store (p:Addr) (vs:List Value)
 | call (f:FuncId) (args:Array Value)
 | yield (l:Nat) (args:Array Value)
 | run (s:Sem Value)
 | runU (s:Sem Unit)

def spOf(P:Program)(L:Tms)(o:Oper):Option Sp:=
 match o.op with
 | .box t v=>some (.new (.cells (rhoL L v).cells t) .ptr)
 | .alloc t=>match Sem.pv P (zeroValue t)with
  | some z=>some (.new (.cells z.cells t) .ptr)
  | none=>none
 | .buildSlice t len parts=>match Sem.pv P (underlying t)with
  | some (.slice elem)=>match Sem.pv P (sizeOf elem),Sem.pv P (zeroValue elem)with
   | some size,some z=>
    if len*size>2 ^ 24 then none
    else match Instr.fill (fun i=>some (i*size,size)) ((Array.range (len*size)).map ((if len*size=0 then #[]else z.cells)[· % (if len*size=0 then #[]else z.cells).size]!)) ((parts.map fun(i,x)=>(i,rhoL L x)).toList)with
     | some cells=>some (.new (.cells cells elem) (.sl len))
     | none=>none
   | _,_=>none
  | _=>none
 | .makeMap _ none=>some (.new (.map #[] 0) .mp)
 | .store t a v=>match rhoL L a with
  | .pointer (some p)=>if Sem.pv P (sizeOf t)=some (rhoL L v).cells.size then some (.store p (rhoL L v).cells.toList)else none
  | _=>none
 | .mapUpdate t m k x | .insert t m k x=>some (.runU (Instr.mapUpdate t (rhoL L m) (rhoL L k) (rhoL L x)))
 | .makeSlice t l c=>some (.run (Instr.makeSlice t (rhoL L l) (rhoL L c)))
 | .lookup t m k ok=>some (.run (Instr.lookup t (rhoL L m) (rhoL L k) ok))
 | .call c=>match c.callee with
  | .builtin .append=>some (.run (Builtin.append_ c.argTypes o.type (c.args.map (rhoL L))))
  | .builtin .copy=>some (.run (Builtin.copy_ c.argTypes o.type (c.args.map (rhoL L))))
  | .builtin .clear=>some (.run (Builtin.clear_ c.argTypes o.type (c.args.map (rhoL L))))
  | .builtin .delete=>some (.run (Builtin.delete_ c.argTypes o.type (c.args.map (rhoL L))))
  | .builtin .len=>some (.run (Builtin.len_ c.argTypes o.type (c.args.map (rhoL L))))
  | .builtin _=>none
  | .value f=>match rhoL L f with
   | .func (.yield l) first _=>some (.yield l (first++c.args.map (rhoL L)))
   | .func (.func g) first cap=>some (.call g (first++c.args.map (rhoL L)++cap))
   | _=>none
  | _=>none
 | _=>none
def Xe(P:Program)(f:FuncId):Prop:=∀args,Sem.pv P (callFunc f args)=some (.enter f args)
def Sp.ok(P:Program)(w:World)(K:Value→World→Prop):Sp→Prop
 | .new o k=>∀w',New o w w'→K (k.val w.heap.size) w'
 | .store p vs=>p.spot=none∧(∀v∈vs,flat v=true)∧∃l ty,Blk w p.block l ty∧p.off+vs.length≤l.length ∧
   ∀w',Put p.block (.cells (l.take p.off++vs++l.drop (p.off+vs.length)).toArray ty (0,0)) w w'→K undef w'
 | .call f args=>Xe P f∧Fn P f args w K
 | .yield l args=>∃r,w.heap[l]?=some (.loop r)∧args.size=r.params.size∧Round P l r.fn ((r.params.zip args).foldl (fun tmps (t,a)=>tmps.setIfInBounds t a) r.tmps) r.assign r.body w K
 | .run s=>∃v w',s.run P w=.ok v w'∧K v w'
 | .runU s=>∃w',s.run P w=.ok () w'∧K undef w'

theorem spOf_ok{P:Program}{L:Tms}{o:Oper}{sp:Sp}{w:World}{K:Act→World→Prop}{a:Act}(h:spOf P L o=some sp)(hk:sp.ok P w (fun v w'=>K (a.put o.dst v) w')) :
  match (execOp (rhoL L) o).run P w with
   | .ok (.value v) w'=>K (a.put o.dst v) w'
   | .ok .skip w'=>K (a.put o.dst undef) w'
   | .ok (.enter f args) w'=>Fn P f args w' fun v w''=>K (a.put o.dst v) w''
   | .ok (.round l f tmps assign body) w'=>Round P l f tmps assign body w' fun v w''=>K (a.put o.dst v) w''
   | _=>False:=by
 have hnew:∀(ob:Obj) (k:NK) (s:Sem Value),Sp.new ob k=sp→s.run P w=.ok (k.val w.heap.size) { w with heap:=w.heap.push ob } →
   execOp (rhoL L) o=(do pure (.value (←s)))→match (execOp (rhoL L) o).run P w with
   | .ok (.value v) w'=>K (a.put o.dst v) w'
   | .ok .skip w'=>K (a.put o.dst undef) w'
   | .ok (.enter f args) w'=>Fn P f args w' fun v w''=>K (a.put o.dst v) w''
   | .ok (.round l f tmps assign body) w'=>Round P l f tmps assign body w' fun v w''=>K (a.put o.dst v) w''
   | _=>False:=by
  intro ob k s e hs he
  subst e
  rw[he]
  simp only[Sem.run_bind,hs,Result.andThen,Sem.run_pure]
  exact hk _ (New.mk' ob w)
 have hrun:∀(s:Sem Value),Sp.run s=sp→execOp (rhoL L) o=(do pure (.value (←s)))→match (execOp (rhoL L) o).run P w with
   | .ok (.value v) w'=>K (a.put o.dst v) w'
   | .ok .skip w'=>K (a.put o.dst undef) w'
   | .ok (.enter f args) w'=>Fn P f args w' fun v w''=>K (a.put o.dst v) w''
   | .ok (.round l f tmps assign body) w'=>Round P l f tmps assign body w' fun v w''=>K (a.put o.dst v) w''
   | _=>False:=by
  intro s e he
  subst e
  obtain⟨v,w',hs,hK⟩:=hk
  rw[he]
  simp only[Sem.run_bind,hs,Result.andThen,Sem.run_pure]
  exact hK
 have hrunU:∀(s:Sem Unit),Sp.runU s=sp→execOp (rhoL L) o=(do s;pure .skip)→match (execOp (rhoL L) o).run P w with
   | .ok (.value v) w'=>K (a.put o.dst v) w'
   | .ok .skip w'=>K (a.put o.dst undef) w'
   | .ok (.enter f args) w'=>Fn P f args w' fun v w''=>K (a.put o.dst v) w''
   | .ok (.round l f tmps assign body) w'=>Round P l f tmps assign body w' fun v w''=>K (a.put o.dst v) w''
   | _=>False:=by
  intro s e he
  subst e
  obtain⟨w',hs,hK⟩:=hk
  rw[he]
  simp only[Sem.run_bind,hs,Result.andThen,Sem.run_pure]
  exact hK
 unfold spOf at h
 split at h
 ·rename_i t v hop
  exact hnew _ _ (Instr.box t (rhoL L v)) (Option.some.inj h) (by simp[Instr.box,newVar,newRow,newObj,Sem.run_bind,Sem.run,Result.andThen,NK.val,Sem.run_pure]) (by simp[execOp,hop])
 ·rename_i t hop
  split at h
  ·rename_i z hz
   have hz':=Sem.pv_run P _ _ hz w
   exact hnew _ _ (Instr.alloc t true (.tuple #[])) (Option.some.inj h) (by simp[Instr.alloc,newVar,newRow,newObj,Sem.run_bind,Sem.run,Result.andThen,NK.val,Sem.run_pure,hz']) (by simp[execOp,hop])
  ·cases h
 ·rename_i t len parts hop
  split at h
  ·rename_i elem hu
   split at h
   ·rename_i size z hs hz
    split at h
    ·cases h
    ·rename_i hle
     split at h
     ·rename_i cells hf
      have hu':=Sem.pv_run P _ _ hu w
      have hz':=Sem.pv_run P _ _ hz w
      have hs':=Sem.pv_run P _ _ hs w
      refine hnew _ _ (Instr.buildSlice t len (parts.map fun(i,x)=>(i,rhoL L x))) (Option.some.inj h) ?_ (by simp[execOp,hop])
      by_cases h0:len*size=0
      ·simp only[h0,if_true]at hf
       have h1:¬(0>2 ^ 24):=by omega
       simp only[Instr.buildSlice,Sem.run_bind,hu',hs',Result.andThen,h0,h1,if_false,if_true,Sem.run_pure,hf]
       simp[Sem.run_bind,Result.andThen,newRow,newObj,Sem.run,NK.val,Sem.run_pure]
      ·simp only[h0,if_false]at hf
       simp only[Instr.buildSlice,Sem.run_bind,hu',hs',hz',Result.andThen,h0,hle,if_false,Sem.run_pure,hf]
       simp[Sem.run_bind,Result.andThen,newRow,newObj,Sem.run,NK.val,Sem.run_pure]
     ·cases h
   ·cases h
  ·cases h
 ·rename_i t hop
  exact hnew _ _ (Instr.makeMap t none) (Option.some.inj h) (by simp[Instr.makeMap,newObj,Sem.run_bind,Sem.run,Result.andThen,NK.val,Sem.run_pure]) (by simp[execOp,hop])
 ·rename_i t x v hop
  split at h
  ·rename_i p hp
   split at h
   ·rename_i hsz
    obtain rfl:=Option.some.inj h
    obtain⟨hspot,hflat,l,ty,hB,hlen,hK⟩:=hk
    have hs':=Sem.pv_run P _ _ hsz w
    have hst:=Bw (P:=P) (rhoL L v).cells.toList p.off 0 l w hflat (by simpa using hlen) hB
    have hpe:(⟨p.block,p.off,none⟩:Addr)=p:=by cases p;simp_all
    rw[hpe]at hst
    simp only[Nat.add_zero]at hst
    have:(execOp (rhoL L) o)=(do Instr.storeAt t (rhoL L x) (rhoL L v);pure .skip):=by simp[execOp,hop]
    rw[this]
    simp only[Instr.storeAt,Instr.sureAddr,hp,storeVar,Sem.run_bind,Sem.run_pure,Result.andThen,hs',hst,ne_eq,not_true_eq_false,if_false]
    exact hK _ (Put.mk' _ hB)
   ·cases h
  ·cases h
 ·rename_i t m k x hop
  exact hrunU _ (Option.some.inj h) (by simp[execOp,hop])
 ·rename_i t m k x hop
  exact hrunU _ (Option.some.inj h) (by simp[execOp,hop])
 ·rename_i t l c hop
  exact hrun _ (Option.some.inj h) (by simp[execOp,hop])
 ·rename_i t m k ok hop
  exact hrun _ (Option.some.inj h) (by simp[execOp,hop])
 ·rename_i c hop
  have hbi:∀b,c.callee=.builtin b→∃cs,execOp (rhoL L) o=builtin b c.argTypes o.type cs (c.args.map (rhoL L)):=by
   intro b hb
   refine⟨?_,?_⟩
   rotate_left
   ·simp only[execOp,hop,resolve,hb,invoke]
    rfl
  split at h
  ·rename_i hb;exact hrun _ (Option.some.inj h) (by obtain⟨cs,e⟩:=hbi _ hb;rw[e];rfl)
  ·rename_i hb;exact hrun _ (Option.some.inj h) (by obtain⟨cs,e⟩:=hbi _ hb;rw[e];rfl)
  ·rename_i hb;exact hrun _ (Option.some.inj h) (by obtain⟨cs,e⟩:=hbi _ hb;rw[e];rfl)
  ·rename_i hb;exact hrun _ (Option.some.inj h) (by obtain⟨cs,e⟩:=hbi _ hb;rw[e];rfl)
  ·rename_i hb;exact hrun _ (Option.some.inj h) (by obtain⟨cs,e⟩:=hbi _ hb;rw[e];rfl)
  ·cases h
  ·rename_i f hcal
   split at h
   ·rename_i l first cap hv
    obtain rfl:=Option.some.inj h
    obtain⟨r,hr,hsz,hK⟩:=hk
    have:execOp (rhoL L) o=Instr.yield l (first++c.args.map (rhoL L)):=by simp[execOp,hop,resolve,hcal,Deferred.ofValue,hv,invoke]
    rw[this]
    simp only[Instr.yield,Instr.getLoop,getObj,Sem.run_bind,Sem.run,hr,Result.andThen,Sem.run_pure,hsz,ne_eq,not_true_eq_false,if_false]
    exact hK
   ·rename_i g first cap hv
    obtain rfl:=Option.some.inj h
    have:execOp (rhoL L) o=callFunc g (first++c.args.map (rhoL L)++cap):=by simp[execOp,hop,resolve,hcal,Deferred.ofValue,hv,invoke]
    rw[this,Sem.pv_run P _ _ (hk.1 _) w]
    exact hk.2
   ·cases h
  ·cases h
 ·cases h
def spL(P:Program)(n:Nat)(ops:Array Oper)(l:List (Nat×Bool))(L:Tms):Option (Option Tmp×Sp×Tms):=
 match l with
 | (i,false)::_=>match ops[i]? with
  | some o=>match wantL ops L o,knows L o with
   | some true,true=>match spOf P L o with
    | some sp=>match o.dst with
     | none=>some (none,sp,L)
     | some d=>if d<n then some (some d,sp,L.filter (fun p=>p.1 != d))else none
    | none=>none
   | _,_=>none
  | none=>none
 | _=>none
def addL(d:Option Tmp)(v:Value)(L:Tms):Tms:=match d with | none=>L | some d=>(d,v)::L

def A8c(r:Rg)(i:Nat):Bool:=match r.ord.drop i with | (j,_)::_=>Fe r.ops j | []=>false
theorem RG.sp{r:Rg}{i:Nat}{L:Tms}{w:World}(d:Option Tmp)(sp:Sp)(Lf:Tms)(h:spL r.P r.n r.ops (r.ord.drop i) L=some (d,sp,Lf))
  (hh:sp.ok r.P w (fun v w'=>(A8c r i=true∨r.R w w')∧RG r (i+1) (addL d v Lf) w')):RG r i L w:=by
 intro tm htm
 unfold spL at h
 split at h
 ·rename_i j rest hord
  have hrest:rest=r.ord.drop (i+1):=by rw[←List.drop_drop,hord];rfl
  have hlast:A8c r i=Fe r.ops j:=by unfold A8c;rw[hord]
  rw[hlast]at hh
  split at h
  ·rename_i o ho
   split at h
   ·rename_i hw hk
    split at h
    ·rename_i sp' hsp
     rw[hord]
     show opOK r.P r.ops j _ _ w
     unfold opOK
     simp only[ho,htm.want hw,if_true]
     refine⟨Uq hk,?_⟩
     rw[htm.exec hk]
     split at h
     ·rename_i hd
      simp only[Option.some.injEq,Prod.mk.injEq]at h
      obtain⟨rfl,rfl,rfl⟩:=h
      refine spOf_ok (K:=fun a w'=>(Fe r.ops j=true∨r.R w w')∧Ff r.P r.ops r.Q r.R (fun a w=>a.defers=r.df∧At r.P r.X r.k a w) rest a w') (a:={ tmps:=tm,defers:=r.df }) hsp ?_
      simp only[hd]
      have himp:∀v w',((Fe r.ops j=true∨r.R w w')∧RG r (i+1) (addL none v L) w')→((Fe r.ops j=true∨r.R w w')∧Ff r.P r.ops r.Q r.R (fun a w=>a.defers=r.df∧At r.P r.X r.k a w) rest (Act.put { tmps:=tm,defers:=r.df } none v) w'):=by
       rintro v w' ⟨h1,h2⟩
       refine⟨h1,?_⟩
       rw[hrest]
       exact h2 tm htm
      revert hh
      cases sp'<;>intro hh
      case new ob k=>exact fun w' h=>himp _ _ (hh w' h)
      case store p vs=>obtain⟨a,b,l,ty,c,e,f⟩:=hh;exact⟨a,b,l,ty,c,e,fun w' h=>himp _ _ (f w' h)⟩
      case call f args=>exact⟨hh.1,Fn.mono hh.2 himp⟩
      case yield l args=>obtain⟨a,b,c,e⟩:=hh;exact⟨a,b,c,Round.mono e himp⟩
      case run s=>obtain⟨v,w',a,b⟩:=hh;exact⟨v,w',a,himp _ _ b⟩
      case runU s=>obtain⟨w',a,b⟩:=hh;exact⟨w',a,himp _ _ b⟩
     ·rename_i d' hd
      split at h
      ·rename_i hlt
       simp only[Option.some.injEq,Prod.mk.injEq]at h
       obtain⟨rfl,rfl,rfl⟩:=h
       refine spOf_ok (K:=fun a w'=>(Fe r.ops j=true∨r.R w w')∧Ff r.P r.ops r.Q r.R (fun a w=>a.defers=r.df∧At r.P r.X r.k a w) rest a w') (a:={ tmps:=tm,defers:=r.df }) hsp ?_
       simp only[hd]
       have himp:∀v w',((Fe r.ops j=true∨r.R w w')∧RG r (i+1) (addL (some d') v (L.filter (fun p=>p.1 != d'))) w')→((Fe r.ops j=true∨r.R w w')∧Ff r.P r.ops r.Q r.R (fun a w=>a.defers=r.df∧At r.P r.X r.k a w) rest (Act.put { tmps:=tm,defers:=r.df } (some d') v) w'):=by
        rintro v w' ⟨h1,h2⟩
        refine⟨h1,?_⟩
        rw[hrest,A47]
        refine h2 _ (htm.put (d:=some d') ?_)
        simp[putL,hlt,addL]
       revert hh
       cases sp'<;>intro hh
       case new ob k=>exact fun w' h=>himp _ _ (hh w' h)
       case store p vs=>obtain⟨a,b,l,ty,c,e,f⟩:=hh;exact⟨a,b,l,ty,c,e,fun w' h=>himp _ _ (f w' h)⟩
       case call f args=>exact⟨hh.1,Fn.mono hh.2 himp⟩
       case yield l args=>obtain⟨a,b,c,e⟩:=hh;exact⟨a,b,c,Round.mono e himp⟩
       case run s=>obtain⟨v,w',a,b⟩:=hh;exact⟨v,w',a,himp _ _ b⟩
       case runU s=>obtain⟨w',a,b⟩:=hh;exact⟨w',a,himp _ _ b⟩
      ·cases h
    ·cases h
   ·cases h
  ·cases h
 ·cases h

end Go.Proofs.YtfcnhnbnjdccfaaGreat

namespace Go.Proofs.YtfcnhnbnjdccfaaGreat
set_option linter.all false
open Go

theorem Fn.ofSt{P:Program}{f:FuncId}{fn:Func}{c:Code}{args:Array Value}{w:World}{R:Value→World→Prop}(n:Nat)(k:List Item)(L:Tms)(hf:P.funcs[f]?=some fn)(hb:fn.body=some c)
  (hn:(n=fn.ntmps∧Nat.ble args.size fn.ntmps=true)∧norm 99 [.code c]=k) (hL:L.map (fun p=>(args.toList[p.1]?))=L.map (fun p=>some p.2))
  (h:∀cs,St P (fctx P f R cs) n k L [] w):Fn P f args w R:=by
 have hle:args.size≤fn.ntmps:=Nat.le_of_ble_eq_true hn.1.2
 refine Fn.of hf hb (fun cs=>At.norm 99 hn.2 (h cs _ ?_))
 refine Has.sub (L:=(List.range args.size).zip args.toList) ⟨?_,fun t v ht=>?_⟩ ?_
 ·simp;omega
 ·have:args.toList[t]?=some v:=by
   revert ht
   have:∀(l:List Value) (s:Nat),((List.range' s l.length).zip l).lookup t=some v→s≤t∧l[t-s]?=some v:=by
    intro l
    induction l with
    | nil=>intro s h;simp at h
    | cons x l ih=>
     intro s h
     simp only[List.length_cons,List.range'_succ,List.zip_cons_cons,List.lookup_cons]at h
     by_cases e:t=s
     ·subst e;simp at h;simp[h]
     ·have hne:(t==s)=false:=by simp[e]
      rw[hne]at h
      obtain⟨h1,h2⟩:=ih (s+1) h
      refine⟨by omega,?_⟩
      rw[show t-s=(t-(s+1))+1 by omega]
      simpa using h2
   intro ht
   rw[List.range_eq_range',←Array.length_toList]at ht
   have:=this args.toList 0 ht
   simpa using this.2
  rw[Array.getD_eq_getD_getElem?]
  have h2:args[t]?=some v:=by simpa using this
  have h3:t<args.size:=(Array.getElem?_eq_some_iff.1 h2).1
  simp[Array.getElem?_append,h3]
  exact(Array.getElem?_eq_some_iff.1 h2).2
 ·clear h hn
  have key:∀t,((List.range args.size).zip args.toList).lookup t=args.toList[t]?:=by
   intro t
   have:∀(l:List Value) (s:Nat),s≤t→((List.range' s l.length).zip l).lookup t=l[t-s]?:=by
    intro l
    induction l with
    | nil=>intro s _;simp
    | cons x l ih=>
     intro s hs
     simp only[List.length_cons,List.range'_succ,List.zip_cons_cons,List.lookup_cons]
     by_cases e:t=s
     ·subst e;simp
     ·have hne:(t==s)=false:=by simp[e]
      rw[hne,ih (s+1) (by omega),show t-s=(t-(s+1))+1 by omega]
      simp
   rw[List.range_eq_range',←Array.length_toList,this _ 0 (by omega)]
   simp
  simp only[key]
  exact hL

theorem St.toAt{P:Program}{X:Ctx}{n:Nat}{k:List Item}{L:Tms}{df:List Deferred}{w:World}{tm:Array Value}(h:St P X n k L df w)(htm:Has n tm L):At P X k { tmps:=tm,defers:=df } w:=h tm htm

def rfOf:List Item→Option (Operand×Array Tmp×Code×Code×List Item)
 | .code (.rangeFunc g ps a b)::k=>some (g,ps,a,b,k)
 | _=>none

def lrec(fn:FuncId)(tm:Array Value)(ps:Array Tmp)(assign body:Code)(D:Nat)(st:LoopState)(pend:Option Code):Loop:=
 { state:=st,pending:=pend,fn,tmps:=tm,params:=ps,assign,body,defers:=D }

theorem Uc{P:Program}{w:World}{l:Nat}{r:Loop}(h:w.heap[l]?=some (.loop r))(hb:r.state≠.busy) :
  (Instr.endLoop l).run P w=.ok r.pending { w with heap:=w.heap.setIfInBounds l (.loop { r with state:=.exhausted }) }:=by
 have:r.state=.ready∨r.state=.done∨r.state=.exhausted:=by cases hh:r.state<;>simp_all
 rcases this with e | e | e<;>simp[Instr.endLoop,Instr.getLoop,getObj,setObj,Sem.run,h,Result.andThen,e]

theorem St.rangeFunc{P:Program}{X:Ctx}{n:Nat}{kk k:List Item}{L:Tms}{df:List Deferred}{w:World}{g:Operand}{ps:Array Tmp}{assign body:Code}(f:FuncId)(first cap:Array Value)
  (hro:X.b.roundOf=none) (h:rfOf kk=some (g,ps,assign,body,k)) (hg:evL L g=some (.func (.func f) first cap)) (hcf:∀args,Sem.pv P (callFunc f args)=some (.enter f args))
  (hh:∀tm w',Has n tm L→Ext w w'→w'.heap.size=w.heap.size+2→w'.heap[w.heap.size]?=some (.deferred (some [])) →
   w'.heap[w.heap.size+1]?=some (.loop (lrec X.b.fn tm ps assign body w.heap.size .ready none)) →
   Fn P f (first++#[.func (.yield (w.heap.size+1)) #[] #[]]++cap) w' (fun _ w3=>∃r,w3.heap[w.heap.size+1]?=some (.loop r)∧r.state≠.busy∧∀w4,Put (w.heap.size+1) (.loop { r with state:=.exhausted }) w3 w4 →
    At P X ((r.pending.map Item.code).toList++k) { tmps:=tm,defers:={ target:=.collected w.heap.size,args:=#[] }::df } w4)) :
  St P X n kk L df w:=by
 intro tm htm
 unfold rfOf at h
 split at h
 ·rename_i g' ps' as' bd' k'
  simp only[Option.some.injEq,Prod.mk.injEq]at h
  obtain⟨rfl,rfl,rfl,rfl,rfl⟩:=h
  let w1:World:={ w with heap:=w.heap.push (.deferred (some [])) }
  let w2:World:={ w1 with heap:=w1.heap.push (.loop (lrec X.b.fn tm ps' as' bd' w.heap.size .ready none)) }
  have n1:=New.mk' (.deferred (some [])) w
  have n2:=New.mk' (.loop (lrec X.b.fn tm ps' as' bd' w.heap.size .ready none)) w1
  have hs1:w1.heap.size=w.heap.size+1:=n1.size
  have hev:Act.eval { tmps:=tm,defers:=df } g'=.func (.func f) first cap:=by
   rw[htm.ev (by rw[hg];rfl)];simp[rhoL,hg]
  have he:(Instr.enterLoop X.b.fn ({ tmps:=tm,defers:=df }:Act).tmps ps' as' bd' X.b.roundOf).run P w=.ok (w.heap.size+1,[{ target:=.collected w.heap.size,args:=#[] }]) w2:=by
   rw[hro]
   simp[Instr.enterLoop,newObj,Sem.run,Result.andThen,w2,w1,lrec]
   rfl
  have hres:(resolve (Act.eval { tmps:=tm,defers:=df }) (rangeCall g' (w.heap.size+1)) 0).run P w2=.ok { target:=.fn (.func f) cap,args:=first++#[.func (.yield (w.heap.size+1)) #[] #[]] } w2:=by
   have hm:∀l:Nat,Array.map (Act.eval { tmps:=tm,defers:=df }) #[Operand.const (.func (.yield l) #[] #[])]=#[.func (.yield l) #[] #[]]:=fun l=>by simp[Act.eval]
   simp only[resolve,rangeCall,hev,Deferred.ofValue,hm,Sem.run_pure]
  have hinv:(invoke (.fn (.func f) cap) (first++#[.func (.yield (w.heap.size+1)) #[] #[]])).run P w2=.ok (.enter f (first++#[.func (.yield (w.heap.size+1)) #[] #[]]++cap)) w2:=by
   simp only[invoke]
   exact Sem.pv_run P _ _ (hcf _) w2
  refine .head (stepR_rangeFunc he hres hinv) ?_
  have hb:=n2.blk
  rw[hs1]at hb
  obtain⟨v,w3,fr,⟨r,hr,hnb,hk⟩,st,_,hl⟩:=hh tm w2 htm (n1.ext.trans n2.ext) (by show w2.heap.size=_;rw[n2.size,hs1]) (n2.ext.blk n1.blk) hb
   (X.b.atR { tmps:=tm,defers:=[{ target:=.collected w.heap.size,args:=#[] }]++df } (.inRangeFunc (w.heap.size+1)::k')::X.cs)
  refine .steps st (.head (step_leave_returned hl) ?_)
  rw[finish_atR_inRangeFunc]
  refine .head (stepR_endRangeFunc (Uc hr hnb)) ?_
  exact hk _ (Put.mk' _ hr)
 ·cases h

theorem Has.params{n:Nat}{tm:Array Value}{L:Tms}(h:Has n tm L){t:Tmp}{v:Value}{L':Tms}(hp:putL n L (some t) v=some L'):Has n (tm.setIfInBounds t v) L':=h.put hp

theorem Li{P:Program}{w:World}{l:Nat}{r:Loop}(h:w.heap[l]?=some (.loop r))(hb:r.state=.ready) :
  (Instr.beginRound l).run P w=.ok () { w with heap:=w.heap.setIfInBounds l (.loop { r with state:=.busy }) }:=by
 simp[Instr.beginRound,Instr.getLoop,getObj,setObj,Sem.run_bind,Sem.run,h,Result.andThen,Sem.run_pure,hb]
theorem Da{P:Program}{w:World}{l:Nat}{r:Loop}(j:Option Code)(h:w.heap[l]?=some (.loop r)) :
  (Instr.endRound l j).run P w=.ok (.bool j.isNone) { w with heap:=w.heap.setIfInBounds l (.loop { r with state:=if j.isNone then .ready else .done,pending:=j }) }:=by
 simp[Instr.endRound,Instr.getLoop,getObj,setObj,Sem.run_bind,Sem.run,h,Result.andThen,Sem.run_pure]

theorem St.beginRound{P:Program}{l:Nat}{f:FuncId}{R:Value→World→Prop}{c:Frame}{cs:List Frame}{n:Nat}{k k':List Item}{L:Tms}{df:List Deferred}{w:World}{r:Loop}
  (hr:w.heap[l]?=some (.loop r)) (hb:r.state=.ready) (hn:norm 99 k=k') (h:∀w',Put l (.loop { r with state:=.busy }) w w'→St P (rctx l f R c cs) n k' L df w'):St P (rctx l f R c cs) n (.beginRound::k) L df w:=by
 intro tm htm
 exact .head (stepR_beginRound rfl (Li hr hb)) (At.norm 99 hn (h _ (Put.mk' _ hr) tm htm))

theorem St.roundEnd{P:Program}{l:Nat}{f:FuncId}{R:Value→World→Prop}{c:Frame}{cs:List Frame}{n:Nat}{L:Tms}{df:List Deferred}{w:World}{r:Loop}
  (hr:w.heap[l]?=some (.loop r)) (h:∀w',Put l (.loop { r with state:=.ready,pending:=none }) w w'→R (.bool true) w'):St P (rctx l f R c cs) n [] L df w:=by
 intro tm _
 refine .head (stepR_round_end rfl rfl (Da none hr)) ?_
 exact⟨_,⟨_,_,h _ (Put.mk' _ hr),rfl⟩,Steps.refl _ _⟩
theorem St.roundRet{P:Program}{l:Nat}{f:FuncId}{R:Value→World→Prop}{c:Frame}{cs:List Frame}{n:Nat}{k:List Item}{L:Tms}{df:List Deferred}{w:World}{r:Loop}
  (hr:w.heap[l]?=some (.loop r)) (h:∀w',Put l (.loop { r with state:=.done,pending:=some .ret }) w w'→R (.bool false) w'):St P (rctx l f R c cs) n (.code .ret::k) L df w:=by
 intro tm _
 refine .head (stepR_round_ret rfl rfl (Da (some .ret) hr)) ?_
 exact⟨_,⟨_,_,h _ (Put.mk' _ hr),rfl⟩,Steps.refl _ _⟩
theorem Round.ofSt{P:Program}{l:Nat}{f:FuncId}{tmps:Array Value}{assign body:Code}{w:World}{R:Value→World→Prop}(n:Nat)(k:List Item)(L:Tms)(htm:Has n tmps L)
  (hn:norm 99 [.code assign,.beginRound,.code body]=k) (h:∀c cs,St P (rctx l f R c cs) n k L [] w):Round P l f tmps assign body w R:=
 Round.of (fun c cs=>At.norm 99 hn (h c cs tmps htm))

theorem St.cond{P:Program}{X:Ctx}{n:Nat}{kk k1 k2:List Item}{L:Tms}{df:List Deferred}{w:World}(b:Bool)
  (h:(condOf kk).map (fun p=>(evL L p.1,norm 99 p.2.1,norm 99 p.2.2))=some (some (.bool b),k1,k2)) (h1:b=true→St P X n k1 L df w) (h2:b=false→St P X n k2 L df w):St P X n kk L df w:=by
 intro tm htm
 refine At.cond (b:=b) (k1:=k1) (k2:=k2) ?_ (fun e=>h1 e tm htm) (fun e=>h2 e tm htm)
 cases hc:condOf kk with
 | none=>rw[hc]at h;cases h
 | some p=>
  rw[hc]at h
  simp only[Option.map_some,Option.some.injEq,Prod.mk.injEq]at h ⊢
  exact⟨by rw[htm.ev (by rw[h.1];rfl)];simp[rhoL,h.1],h.2⟩
inductive Res (P:Program) (w:World) (L:Tms):ResultVar→Value→Prop
 | tmp {t:Tmp} {v:Value} (h:L.lookup t=some v):Res P w L (.tmp t) v
 | cell1 {a:Tmp} {t:TypeId} {p:Addr} {v:Value} (h:L.lookup a=some (.pointer (some p))) (ha:Sem.pv P (isAgg t)=some false) (hc:w.cell? p=some v):Res P w L (.cell a t) v
 | cells {a:Tmp} {t:TypeId} {p:Addr} {vs:List Value} (h:L.lookup a=some (.pointer (some p))) (ha:Sem.pv P (isAgg t)=some true) (hs:Sem.pv P (sizeOf t)=some vs.length) (hc:Row w p vs):Res P w L (.cell a t) (.agg vs.toArray)
inductive O0 (P:Program) (w:World) (L:Tms):List ResultVar→List Value→Prop
 | nil:O0 P w L [] []
 | cons {r:ResultVar} {v:Value} {rs:List ResultVar} {vs:List Value} (h:Res P w L r v) (hs:O0 P w L rs vs):O0 P w L (r::rs) (v::vs)
def Kw:List Value→Value
 | [v]=>v
 | vs=>.tuple vs.toArray

theorem Ub{P:Program}{fn:Func}{n:Nat}{tm:Array Value}{L:Tms}{rs:List ResultVar}{vs:List Value}{w:World}(htm:Has n tm L)(hr:fn.results=rs.toArray)(h:O0 P w L rs vs) :
  (results fn tm).run P w=.ok (Kw vs) w:=by
 have key:∀(f:ResultVar→Sem Value),(∀r v,Res P w L r v→(f r).run P w=.ok v w)→∀(rs:List ResultVar) (vs:List Value),O0 P w L rs vs→(rs.mapM f).run P w=.ok vs w:=by
  intro f hf rs
  induction rs with
  | nil=>intro vs h;cases h;simp
  | cons r rs ih=>
   intro vs h
   cases h with
   | cons h1 h2=>simp[hf _ _ h1,ih _ h2]
 unfold results
 rw[hr]
 simp only[List.mapM_toArray,Sem.run_bind,Sem.run_map]
 rw[key _ ?_ _ _ h]
 ·simp only[Result.andThen_ok,Sem.run_pure]
  congr 1
  match vs with
  | []=>rfl
  | [v]=>rfl
  | v::u::vs=>rfl
 ·intro r v hrv
  cases hrv with
  | tmp h=>simp only[htm.2 _ _ h,Sem.run_pure]
  | cell1 h ha hc=>
   have ha':=Sem.pv_run P _ _ ha w
   simp[htm.2 _ _ h,asAddr,loadVar,ha',hc]
  | cells h ha hs hc=>
   have ha':=Sem.pv_run P _ _ ha w
   have hs':=Sem.pv_run P _ _ hs w
   have hl:=Ej (P:=P) hc
   simp[htm.2 _ _ h,asAddr,loadVar,ha',hs',hl]

def isOut:List Item→Bool
 | []=>true
 | .code .ret::_=>true
 | _=>false
theorem St.ret{P:Program}{f:FuncId}{fn:Func}{R:Value→World→Prop}{cs:List Frame}{n:Nat}{k:List Item}{L:Tms}{w:World}(rs:List ResultVar)(vs:List Value)(hk:isOut k=true)
  (hf:P.funcs[f]?=some fn) (hr:fn.results=rs.toArray) (h:O0 P w L rs vs) (hR:R (Kw vs) w):St P (fctx P f R cs) n k L [] w:=by
 intro tm htm
 refine At.out rfl ?_ (Out.done hf (Ub htm hr h) hR)
 match k,hk with
 | [],_=>exact .inl rfl
 | .code .ret::k',_=>exact .inr ⟨k',rfl⟩
theorem St.retMarks{P:Program}{f:FuncId}{fn:Func}{R:Value→World→Prop}{cs:List Frame}{n:Nat}{k:List Item}{L:Tms}{w:World}(Ds:List Nat)(rs:List ResultVar)(vs:List Value)(hk:isOut k=true)
  (hf:P.funcs[f]?=some fn) (hr:fn.results=rs.toArray) (hnd:Ds.Nodup) (hD:∀D∈Ds,w.heap[D]?=some (.deferred (some []))) (hR:∀w',Upd Ds w w'→w'.heap.size=w.heap.size→O0 P w' L rs vs∧R (Kw vs) w') :
  St P (fctx P f R cs) n k L (Ds.map fun D=>{ target:=.collected D,args:=#[] }) w:=by
 intro tm htm
 refine At.out rfl ?_ ?_
 ·match k,hk with
  | [],_=>exact .inl rfl
  | .code .ret::k',_=>exact .inr ⟨k',rfl⟩
 ·simp only
  suffices ∀(Ds':List Nat) (w1:World),Ds'.Nodup→(∀D∈Ds',w1.heap[D]?=some (.deferred (some [])))→(∀D∈Ds',D∈Ds)→Upd Ds w w1→w1.heap.size=w.heap.size→Out P (fctx P f R cs) tm (Ds'.map fun D=>{ target:=.collected D,args:=#[] }) w1 from
   this Ds w hnd hD (fun _ h=>h) (Upd.refl _ _) rfl
  intro Ds'
  induction Ds' with
  | nil=>
   intro w1 _ _ _ hu hs
   obtain⟨h1,h2⟩:=hR w1 hu hs
   exact Out.done hf (Ub htm hr h1) h2
  | cons D Ds' ih=>
   intro w1 hnd1 hD1 hin hu hs
   refine Out.mark (hD1 D (by simp)) ?_
   have hp:=Put.mk' (.deferred none) (hD1 D (by simp))
   refine ih _ (List.nodup_cons.1 hnd1).2 (fun E hE=>hp.upd.blk (hD1 E (by simp[hE])) ?_) (fun E hE=>hin E (by simp[hE])) (hu.trans (hp.upd.mono (fun k hk=>?_))) (hp.size.trans hs)
   ·intro e
    simp at e
    subst e
    exact(List.nodup_cons.1 hnd1).1 hE
   ·simp at hk
    subst hk
    exact hin _ (by simp)

end Go.Proofs.YtfcnhnbnjdccfaaGreat

namespace Go.Proofs.YtfcnhnbnjdccfaaGreat
set_option linter.all false
open Go
def sub:Code→List Nat→Code
 | c,[]=>c
 | .seq a b,i::l=>if i=0 then sub a l else sub b l
 | .block _ c,_::l=>sub c l
 | .loop c,_::l=>sub c l
 | .scope c,_::l=>sub c l
 | .cond _ a b,i::l=>if i=0 then sub a l else sub b l
 | .rangeFunc _ _ a b,i::l=>if i=0 then sub a l else sub b l
 | c,_=>c
def rops(kk:List Item):Array Oper:=match regOf kk with | some p=>p.1 | none=>#[]
def RX(P:Program)(X:Ctx)(n:Nat)(kk k:List Item)(ord:List (Nat×Bool))(S:Option (List Nat))(df:List Deferred)(i:Nat)(L:Tms)(w:World):Prop:=
 RG { P,X,n,ops:=rops kk,ord,k,S,df } i L w

section
variable {P:Program} {X:Ctx} {n:Nat} {kk k:List Item} {ord:List (Nat×Bool)} {df:List Deferred} {i:Nat} {L:Tms} {w:World}

theorem St.reg(k:List Item)(ord:List (Nat×Bool))(h:(regOf kk).map (fun p=>(p.2.1,norm 99 p.2.2))=some (false,k))(ho:ord.map (·.1)=List.range (rops kk).size)
  (hh:RX P X n kk k ord none df 0 L w):St P X n kk L df w:=by
 refine St.region (ops:=rops kk) ord ?_ ho hh
 unfold rops
 revert h
 cases regOf kk with
 | none=>intro h;cases h
 | some p=>
  intro h
  simp only[Option.map_some,Option.some.injEq,Prod.mk.injEq]at h ⊢
  exact⟨trivial,h.1,h.2⟩
theorem St.drw(k:List Item)(S:List Nat)(ord:List (Nat×Bool))(hm:P.follows .mixedOrders=true)(h:(regOf kk).map (fun p=>(p.2.1,norm 99 p.2.2))=some (true,k))
  (ho:(Region.noSelect (rops kk)&&planFits (rops kk) ord (Array.replicate (rops kk).size false)&&ord.length==(rops kk).size)=true)
  (hh:∀w',Ext w w'→w'.heap.size=w.heap.size→RX P X n kk k ord (some S) df 0 L w'):St P X n kk L df w:=by
 refine St.draw (ops:=rops kk) S ord hm ?_ ho hh
 unfold rops
 revert h
 cases regOf kk with
 | none=>intro h;cases h
 | some p=>
  intro h
  simp only[Option.map_some,Option.some.injEq,Prod.mk.injEq]at h ⊢
  exact⟨trivial,h.1,h.2⟩

theorem RX.q(j:Nat)(orc:Orc)(L':Tms)(os:List Ob)(h:(quiets P n (rops kk) orc ((ord.drop i).take j) L).map (fun x=>(L'.map (fun p=>x.1.lookup p.1),x.2))=some (L'.map (fun p=>some p.2),os))
  (hos:Obs P os w) (hh:RX P X n kk k ord none df (i+j) L' w):RX P X n kk k ord none df i L w:=
 RG.q j orc L' os rfl h hos hh
theorem RX.qd{S:List Nat}(j:Nat)(orc:Orc)(L':Tms)(os:List Ob)(h:(quiets P n (rops kk) orc ((ord.drop i).take j) L).map (fun x=>(L'.map (fun p=>x.1.lookup p.1),x.2))=some (L'.map (fun p=>some p.2),os))
  (hos:Obs P os w) (hoff:Offs P S os w) (hh:RX P X n kk k ord (some S) df (i+j) L' w):RX P X n kk k ord (some S) df i L w:=
 RG.qd S j orc L' os rfl h hos hoff hh
theorem RX.done{S:Option (List Nat)}(L':Tms)(he:(ord.drop i).isEmpty=true)(hs:L'.map (fun p=>L.lookup p.1)=L'.map (fun p=>some p.2))(h:St P X n k L' df w):RX P X n kk k ord S df i L w:=
 RG.done L' he hs h
def skL(n:Nat)(ops:Array Oper)(l:List (Nat×Bool))(L:Tms):Option Tms:=
 match l with
 | (i,false)::_=>match ops[i]? with
  | some o=>match wantL ops L o with
   | some false=>putL n L o.dst undef
   | _=>none
  | none=>none
 | _=>none
theorem RX.skip{S:Option (List Nat)}(L':Tms)(h:(skL n (rops kk) (ord.drop i) L).map (fun x=>L'.map (fun p=>x.lookup p.1))=some (L'.map (fun p=>some p.2)))(hh:RX P X n kk k ord S df (i+1) L' w):RX P X n kk k ord S df i L w:=by
 intro tm htm
 have hR0:Rg.R { P,X,n,ops:=rops kk,ord,k,S,df } w w:=by cases S with
  | none=>trivial
  | some S=>exact Upd.refl S w
 show Ff P (rops kk) _ _ _ (ord.drop i) _ w
 cases hs:skL n (rops kk) (ord.drop i) L with
 | none=>rw[hs]at h;cases h
 | some L1=>
  rw[hs]at h
  simp only[Option.map_some,Option.some.injEq]at h
  unfold skL at hs
  split at hs
  ·rename_i j rest hord
   have hrest:rest=ord.drop (i+1):=by rw[←List.drop_drop,hord];rfl
   split at hs
   ·rename_i o ho
    split at hs
    ·rename_i hw
     rw[hord]
     show opOK P (rops kk) j _ _ w
     unfold opOK
     simp only[ho,htm.want hw,Bool.false_eq_true,if_false]
     refine⟨.inr hR0,?_⟩
     rw[hrest,A47]
     exact hh _ ((htm.put hs).sub h)
    ·cases hs
   ·cases hs
  ·cases hs

def spK(P:Program)(n:Nat)(kk:List Item)(ord:List (Nat×Bool))(i:Nat)(L:Tms):Option (Option Tmp×Sp×Tms):=spL P n (rops kk) (ord.drop i) L

structure X5 (b:Nat) (o:Obj) (w w':World):Prop where
 at_:b=w.heap.size
 ext:Ext w w'
 size:w'.heap.size=w.heap.size+1
 blk:w'.heap[b]?=some o
theorem RX.new(d:Tmp)(o:Obj)(t:NK)(Lf:Tms)(h:spK P n kk ord i L=some (some d,.new o t,Lf))(hh:∀b w',X5 b o w w'→RX P X n kk k ord none df (i+1) ((d,t.val b)::Lf) w') :
  RX P X n kk k ord none df i L w:=RG.sp (some d) _ Lf h (fun w' hn=>⟨.inr trivial,hh _ w' ⟨rfl,hn.ext,hn.size,hn.blk⟩⟩)
theorem RX.store1(b o:Nat)(v:Value)(l:List Value)(ty:TypeId)(h:spK P n kk ord i L=some (none,.store ⟨b,o,none⟩ [v],L))(hf:flat v=true)(hB:Blk w b l ty)(hl:o<l.length)
  (hh:∀w',Put b (.cells (l.set o v).toArray ty (0,0)) w w'→RX P X n kk k ord none df (i+1) L w'):RX P X n kk k ord none df i L w:=
 RG.sp none _ L h ⟨rfl,by simpa using hf,l,ty,hB,hl,fun w' hp=>⟨.inr trivial,hh w' (by
  have e:l.take o++[v]++l.drop (o+[v].length)=l.set o v:=by rw[List.set_eq_take_append_cons_drop,if_pos hl];simp
  rw[e]at hp;exact hp)⟩⟩
theorem RX.store(b o:Nat)(vs l l':List Value)(ty:TypeId)(h:spK P n kk ord i L=some (none,.store ⟨b,o,none⟩ vs,L))(hf:vs.all flat=true)(hB:Blk w b l ty)(hl:Nat.ble (o+vs.length) l.length=true)(he:l.take o++vs++l.drop (o+vs.length)=l')
  (hh:∀w',Put b (.cells l'.toArray ty (0,0)) w w'→RX P X n kk k ord none df (i+1) L w'):RX P X n kk k ord none df i L w:=
 RG.sp none _ L h ⟨rfl,by simpa using hf,l,ty,hB,Nat.le_of_ble_eq_true hl,fun w' hp=>⟨.inr trivial,hh w' (by rw[he]at hp;exact hp)⟩⟩
theorem RX.store1L{S:List Nat}(b o:Nat)(v:Value)(l:List Value)(ty:TypeId)(h:spK P n kk ord i L=some (none,.store ⟨b,o,none⟩ [v],L))(hf:flat v=true)(hB:Blk w b l ty)(hl:o<l.length)(hS:A8c { P,X,n,ops:=rops kk,ord,k,S:=some S,df } i=true)
  (hh:∀w',Put b (.cells (l.set o v).toArray ty (0,0)) w w'→RX P X n kk k ord (some S) df (i+1) L w'):RX P X n kk k ord (some S) df i L w:=
 RG.sp none _ L h ⟨rfl,by simpa using hf,l,ty,hB,hl,fun w' hp=>by
  have e:l.take o++[v]++l.drop (o+[v].length)=l.set o v:=by rw[List.set_eq_take_append_cons_drop,if_pos hl];simp
  rw[e]at hp;exact⟨.inl hS,hh w' hp⟩⟩
theorem RX.call(d:Tmp)(f:FuncId)(args:Array Value)(Lf:Tms)(hc:Xe P f)(h:spK P n kk ord i L=some (some d,.call f args,Lf))(hh:Fn P f args w (fun v w'=>RX P X n kk k ord none df (i+1) ((d,v)::Lf) w')) :
  RX P X n kk k ord none df i L w:=RG.sp (some d) _ Lf h ⟨hc,Fn.mono hh (fun _ _ h=>⟨.inr trivial,h⟩)⟩
theorem RX.callD{S:List Nat}(d:Tmp)(f:FuncId)(args:Array Value)(Lf:Tms)(hc:Xe P f)(h:spK P n kk ord i L=some (some d,.call f args,Lf))(hh:Fn P f args w (fun v w'=>Upd S w w'∧RX P X n kk k ord (some S) df (i+1) ((d,v)::Lf) w')) :
  RX P X n kk k ord (some S) df i L w:=RG.sp (some d) _ Lf h ⟨hc,Fn.mono hh (fun _ _ h=>⟨.inr h.1,h.2⟩)⟩
theorem RX.run(d:Tmp)(s:Sem Value)(Lf:Tms){v:Value}{w':World}(h:spK P n kk ord i L=some (some d,.run s,Lf))(hr:s.run P w=.ok v w')(hh:RX P X n kk k ord none df (i+1) ((d,v)::Lf) w') :
  RX P X n kk k ord none df i L w:=RG.sp (some d) _ Lf h ⟨v,w',hr,.inr trivial,hh⟩
theorem RX.runD{S:List Nat}(d:Tmp)(s:Sem Value)(Lf:Tms){v:Value}{w':World}(h:spK P n kk ord i L=some (some d,.run s,Lf))(hr:s.run P w=.ok v w')(hu:Upd S w w')(hh:RX P X n kk k ord (some S) df (i+1) ((d,v)::Lf) w') :
  RX P X n kk k ord (some S) df i L w:=RG.sp (some d) _ Lf h ⟨v,w',hr,.inr hu,hh⟩
theorem RX.runU(s:Sem Unit){w':World}(h:spK P n kk ord i L=some (none,.runU s,L))(hr:s.run P w=.ok () w')(hh:RX P X n kk k ord none df (i+1) L w') :
  RX P X n kk k ord none df i L w:=RG.sp none _ L h ⟨w',hr,.inr trivial,hh⟩
def Dj(P:Program)(l:Nat)(args:Array Value)(w:World)(K:Value→World→Prop):Prop:=
 ∃r,w.heap[l]?=some (.loop r)∧args.size=r.params.size∧Round P l r.fn ((r.params.zip args).foldl (fun tmps (t,a)=>tmps.setIfInBounds t a) r.tmps) r.assign r.body w K
theorem Dj.mono{l:Nat}{args:Array Value}{K K':Value→World→Prop}(h:Dj P l args w K)(hk:∀v w',K v w'→K' v w'):Dj P l args w K':=
 let ⟨r,a,b,c⟩:=h;⟨r,a,b,c.mono hk⟩
theorem RX.yield(d:Tmp)(l:Nat)(args:Array Value)(Lf:Tms)(h:spK P n kk ord i L=some (some d,.yield l args,Lf))(hh:Dj P l args w (fun v w'=>RX P X n kk k ord none df (i+1) ((d,v)::Lf) w')) :
  RX P X n kk k ord none df i L w:=RG.sp (some d) _ Lf h (Dj.mono hh (fun _ _ h=>⟨.inr trivial,h⟩))
theorem RX.yieldL{S:List Nat}(d:Tmp)(l:Nat)(args:Array Value)(Lf:Tms)(h:spK P n kk ord i L=some (some d,.yield l args,Lf))(hS:A8c { P,X,n,ops:=rops kk,ord,k,S:=some S,df } i=true)(hh:Dj P l args w (fun v w'=>RX P X n kk k ord (some S) df (i+1) ((d,v)::Lf) w')) :
  RX P X n kk k ord (some S) df i L w:=RG.sp (some d) _ Lf h (Dj.mono hh (fun _ _ h=>⟨.inl hS,h⟩))
end

theorem wrap64{z:Int}(h:-9223372036854775808≤z∧z≤9223372036854775807):IntKind.i64.wrap z=z:=Go.IntWalk.i64_in z h
theorem int64{z:Int}(h:-9223372036854775808≤z∧z≤9223372036854775807):Value.int .i64 (IntKind.i64.wrap z)=.int .i64 z:=by rw[wrap64 h]
theorem bT{b:Bool}(h:b=true):Value.bool b=.bool true:=by rw[h]
theorem bF{b:Bool}(h:b=false):Value.bool b=.bool false:=by rw[h]
end Go.Proofs.YtfcnhnbnjdccfaaGreat

namespace Go.Proofs.YtfcnhnbnjdccfaaGreat
set_option linter.all false
open Go
def Ii(lo hi:Nat)(w w':World):Prop:=∀k,lo≤k→k<hi→w'.heap[k]?=w.heap[k]?
theorem Ii.trans{lo hi:Nat}{a b c:World}(h:Ii lo hi a b)(k:Ii lo hi b c):Ii lo hi a c:=fun i h1 h2=>(k i h1 h2).trans (h i h1 h2)
theorem Ii.refl(lo hi:Nat)(w:World):Ii lo hi w w:=fun _ _ _=>rfl
theorem Upd.agree{S:List Nat}{lo hi:Nat}{w w':World}(h:Upd S w w')(hh:hi≤w.heap.size)(hs:∀k,k∈S→k<lo∨hi≤k):Ii lo hi w w':=fun i h1 h2=>
 h.same i (by omega) (fun hi=>by have:=hs i hi;omega)
theorem Ext.agree{lo hi:Nat}{w w':World}(h:Ext w w')(hh:hi≤w.heap.size):Ii lo hi w w':=Upd.agree h hh (fun _ h=>by cases h)
theorem Upd.put{S:List Nat}{w0 w w':World}{b:Nat}{o:Obj}(h:Upd S w0 w)(hp:Put b o w w')(hb:w0.heap.size≤b∨b∈S):Upd S w0 w':=
 ⟨hp.upd.os.trans h.os,hp.upd.tape.trans h.tape,hp.upd.output.trans h.output,Nat.le_trans h.size hp.upd.size,fun k hk hs=>
  (hp.upd.same k (Nat.lt_of_lt_of_le hk h.size) (by simp;intro e;subst e;rcases hb with hb | hb;omega;exact hs hb)).trans (h.same k hk hs)⟩
theorem Upd.upd{S T:List Nat}{w0 w w':World}(h:Upd S w0 w)(hp:Upd T w w')(hb:∀k,k∈T→w0.heap.size≤k∨k∈S):Upd S w0 w':=
 ⟨hp.os.trans h.os,hp.tape.trans h.tape,hp.output.trans h.output,Nat.le_trans h.size hp.size,fun k hk hs=>
  (hp.same k (Nat.lt_of_lt_of_le hk h.size) (fun hT=>by rcases hb k hT with hb | hb;omega;exact hs hb)).trans (h.same k hk hs)⟩
theorem Upd.ext{S:List Nat}{w0 w w':World}(h:Upd S w0 w)(hp:Ext w w'):Upd S w0 w':=h.upd hp (fun _ h=>by cases h)
theorem Put.other{b k:Nat}{o x:Obj}{w w':World}(h:Put b o w w')(hk:w.heap[k]?=some x)(hne:k≠b):w'.heap[k]?=some x:=h.upd.blk hk (by simpa using hne)
def Sl(lo:Nat)(w:World)(v:Value)(n sz:Nat)(cs:List Value):Prop:=
 ∃a cap,v=.slice a n cap∧n≤cap∧cs.length=n*sz∧(cs=[]∨∃b off,a=some ⟨b,off,none⟩∧lo≤b∧b<w.heap.size∧Row w ⟨b,off,none⟩ cs)

theorem Row.agree{lo hi:Nat}{w w':World}{p:Addr}{cs:List Value}(h:Row w p cs)(ha:Ii lo hi w w')(h1:lo≤p.block)(h2:p.block<hi):Row w' p cs:=fun i v hv=>by
 have:=h i v hv
 have hb:(p.add i).block=p.block:=by unfold Addr.add;split<;>rfl
 have e:=ha p.block h1 h2
 rw[←hb]at e
 unfold World.cell? at *
 rw[e];exact this
theorem Sl.agree{lo:Nat}{w w':World}{v:Value}{n sz:Nat}{cs:List Value}(h:Sl lo w v n sz cs)(ha:Ii lo w.heap.size w w')(hs:w.heap.size≤w'.heap.size):Sl lo w' v n sz cs:=by
 obtain⟨a,cap,e,hc,hl,hr⟩:=h
 refine⟨a,cap,e,hc,hl,?_⟩
 rcases hr with hr | ⟨b,off,e2,h1,h2,hr⟩
 ·exact .inl hr
 ·exact .inr ⟨b,off,e2,h1,by omega,hr.agree ha h1 h2⟩
theorem Sl.ext{lo:Nat}{w w':World}{v:Value}{n sz:Nat}{cs:List Value}(h:Sl lo w v n sz cs)(he:Ext w w'):Sl lo w' v n sz cs:=h.agree (he.agree (Nat.le_refl _)) he.size
theorem Sl.lo{lo lo':Nat}{w:World}{v:Value}{n sz:Nat}{cs:List Value}(h:Sl lo w v n sz cs)(hl:lo'≤lo):Sl lo' w v n sz cs:=by
 obtain⟨a,cap,e,hc,hl',hr⟩:=h
 refine⟨a,cap,e,hc,hl',?_⟩
 rcases hr with hr | ⟨b,off,e2,h1,h2,hr⟩
 ·exact .inl hr
 ·exact .inr ⟨b,off,e2,by omega,h2,hr⟩

theorem Aw(b o i:Nat):(⟨b,o,none⟩:Addr).add i=⟨b,o+i,none⟩:=by unfold Addr.add;split<;>simp_all
theorem Sl.at{P:Program}{t e:TypeId}{lo:Nat}{w:World}{a:Option Addr}{n sz cap:Nat}{cs:List Value}(h:Sl lo w (.slice a n cap) n sz cs)(ht:Sem.pv P (underlying t)=some (.slice e))(hs:Sem.pv P (sizeOf e)=some sz)(hsz:0<sz)(k:Nat)(hk:k<n) :
  ∃b o,lo≤b∧b<w.heap.size∧(∀w',(Instr.indexAt t (.slice a n cap) (.int .i64 (k:Int))).run P w'=.ok (.pointer (some ⟨b,o,none⟩)) w')∧∀j,j<sz→w.cell? ⟨b,o+j,none⟩=cs[k*sz+j]?:=by
 obtain⟨a',cap',e1,hc,hl,hr⟩:=h
 simp only[Value.slice.injEq]at e1
 obtain⟨rfl,_,rfl⟩:=e1
 have hpos:0<cs.length:=by rw[hl];exact Nat.mul_pos (by omega) hsz
 rcases hr with hr | ⟨b,off,rfl,h1,h2,hr⟩
 ·subst hr;simp at hpos
 ·refine⟨b,off+k*sz,h1,h2,fun w'=>?_,fun j hj=>?_⟩
  ·have ht':=Sem.pv_run P _ _ ht w'
   have hs':=Sem.pv_run P _ _ hs w'
   have h0:(0:Int)≤(k:Int)∧(k:Int)<(n:Int):=⟨by omega,by omega⟩
   simp[Instr.indexAt,asIntOf,ht',hs',h0.1,hk,Aw]
  ·have hlt:k*sz+j<cs.length:=by
    rw[hl]
    calc k*sz+j<k*sz+sz:=by omega
     _=(k+1)*sz:=by rw[Nat.succ_mul]
     _≤n*sz:=Nat.mul_le_mul_right _ hk
   have:=hr (k*sz+j) _ (List.getElem?_eq_getElem hlt)
   rw[Aw]at this
   rw[List.getElem?_eq_getElem hlt,←this]
   congr 2
   omega
def Ints(kd:IntKind)(lo:Nat)(w:World)(v:Value)(l:List Int):Prop:=Sl lo w v l.length 1 (l.map (.int kd))
theorem Ints.agree{kd:IntKind}{lo:Nat}{w w':World}{v:Value}{l:List Int}(h:Ints kd lo w v l)(ha:Ii lo w.heap.size w w')(hs:w.heap.size≤w'.heap.size):Ints kd lo w' v l:=Sl.agree h ha hs
theorem Ints.ext{kd:IntKind}{lo:Nat}{w w':World}{v:Value}{l:List Int}(h:Ints kd lo w v l)(he:Ext w w'):Ints kd lo w' v l:=Sl.ext h he
theorem Ints.lo{kd:IntKind}{lo lo':Nat}{w:World}{v:Value}{l:List Int}(h:Ints kd lo w v l)(hl:lo'≤lo):Ints kd lo' w v l:=Sl.lo h hl
theorem Ints.shape{kd:IntKind}{lo:Nat}{w:World}{v:Value}{l:List Int}(h:Ints kd lo w v l):∃a cap,v=.slice a l.length cap∧l.length≤cap:=by
 obtain⟨a,cap,e,hc,_⟩:=h;exact⟨a,cap,e,hc⟩
theorem Ints.nil(kd:IntKind)(lo:Nat)(w:World):Ints kd lo w (.slice none 0 0) []:=⟨none,0,rfl,Nat.le_refl _,rfl,.inl rfl⟩
theorem Ints.at{P:Program}{kd:IntKind}{t e:TypeId}{lo:Nat}{w:World}{a:Option Addr}{cap:Nat}{l:List Int}(h:Ints kd lo w (.slice a l.length cap) l)(ht:Sem.pv P (underlying t)=some (.slice e))(hs:Sem.pv P (sizeOf e)=some 1)(k:Nat)(hk:k<l.length) :
  ∃b o,lo≤b∧b<w.heap.size∧(∀w',(Instr.indexAt t (.slice a l.length cap) (.int .i64 (k:Int))).run P w'=.ok (.pointer (some ⟨b,o,none⟩)) w')∧w.cell? ⟨b,o,none⟩=some (.int kd (l.getD k 0)):=by
 obtain⟨b,o,h1,h2,h3,h4⟩:=Sl.at h ht hs (by decide) k hk
 refine⟨b,o,h1,h2,h3,?_⟩
 have:=h4 0 (by decide)
 simp only[Nat.mul_one,Nat.add_zero,List.getElem?_map]at this
 rw[this]
 simp[List.getD,List.getElem?_eq_getElem hk]
theorem A3j{P:Program}{t e:TypeId}{n sz:Nat}(ht:Sem.pv P (underlying t)=some (.array n e))(hs:Sem.pv P (sizeOf e)=some sz)(b o k:Nat)(hk:k<n)(w:World) :
  (Instr.indexAt t (.pointer (some ⟨b,o,none⟩)) (.int .i64 (k:Int))).run P w=.ok (.pointer (some ⟨b,o+k*sz,none⟩)) w:=by
 have ht':=Sem.pv_run P _ _ ht w
 have hs':=Sem.pv_run P _ _ hs w
 have h0:(0:Int)≤(k:Int)∧(k:Int)<(n:Int):=⟨by omega,by omega⟩
 simp[Instr.indexAt,Instr.sureAddr,asIntOf,ht',hs',hk,Aw]
end Go.Proofs.YtfcnhnbnjdccfaaGreat

namespace Go.Proofs.YtfcnhnbnjdccfaaGreat
set_option linter.all false
open Go

def enc2(p:Int×Int):List Value:=[.int .i64 p.1,.int .i64 p.2]
def Prs(lo:Nat)(w:World)(v:Value)(l:List (Int×Int)):Prop:=Sl lo w v l.length 2 (l.flatMap enc2)
theorem Prs.agree{lo:Nat}{w w':World}{v:Value}{l:List (Int×Int)}(h:Prs lo w v l)(ha:Ii lo w.heap.size w w')(hs:w.heap.size≤w'.heap.size):Prs lo w' v l:=Sl.agree h ha hs
theorem Prs.ext{lo:Nat}{w w':World}{v:Value}{l:List (Int×Int)}(h:Prs lo w v l)(he:Ext w w'):Prs lo w' v l:=Sl.ext h he
theorem Prs.lo{lo lo':Nat}{w:World}{v:Value}{l:List (Int×Int)}(h:Prs lo w v l)(hl:lo'≤lo):Prs lo' w v l:=Sl.lo h hl
theorem Prs.shape{lo:Nat}{w:World}{v:Value}{l:List (Int×Int)}(h:Prs lo w v l):∃a cap,v=.slice a l.length cap∧l.length≤cap:=by
 obtain⟨a,cap,e,hc,_⟩:=h;exact⟨a,cap,e,hc⟩
theorem Prs.nil(lo:Nat)(w:World):Prs lo w (.slice none 0 0) []:=⟨none,0,rfl,Nat.le_refl _,rfl,.inl rfl⟩
theorem Ag1(l:List (Int×Int))(k j:Nat)(hk:k<l.length)(hj:j<2):(l.flatMap enc2)[k*2+j]?=(enc2 (l.getD k (0,0)))[j]?:=by
 induction l generalizing k with
 | nil=>simp at hk
 | cons p l ih=>
  simp only[List.flatMap_cons]
  cases k with
  | zero=>rw[List.getElem?_append_left (by simp[enc2];omega)];simp
  | succ k=>
   rw[List.getElem?_append_right (by simp[enc2];omega)]
   have:=ih k (by simpa using hk)
   simp only[List.getD_cons_succ]
   rw[←this]
   congr 1
   simp[enc2];omega
theorem Prs.at{P:Program}{t e:TypeId}{lo:Nat}{w:World}{a:Option Addr}{cap:Nat}{l:List (Int×Int)}(h:Prs lo w (.slice a l.length cap) l)(ht:Sem.pv P (underlying t)=some (.slice e))(hs:Sem.pv P (sizeOf e)=some 2)(k:Nat)(hk:k<l.length) :
  ∃b o,lo≤b∧b<w.heap.size∧(∀w',(Instr.indexAt t (.slice a l.length cap) (.int .i64 (k:Int))).run P w'=.ok (.pointer (some ⟨b,o,none⟩)) w')∧Row w ⟨b,o,none⟩ [.int .i64 (l.getD k (0,0)).1,.int .i64 (l.getD k (0,0)).2]:=by
 obtain⟨b,o,h1,h2,h3,h4⟩:=Sl.at h ht hs (by decide) k hk
 refine⟨b,o,h1,h2,h3,fun i v hv=>?_⟩
 have hi:i<2:=by
  have:=(List.getElem?_eq_some_iff.1 hv).1
  simpa using this
 rw[Aw,h4 i hi,Ag1 l k i hk hi]
 exact hv
def Gi(lo:Nat)(w:World)(v:Value)(ll:List (List Int)):Prop:=
 ∃vs,Sl lo w v ll.length 1 vs∧∀i,i<ll.length→∃u,vs[i]?=some u∧Ints .i64 lo w u (ll.getD i [])
theorem Gi.agree{lo:Nat}{w w':World}{v:Value}{l:List (List Int)}(h:Gi lo w v l)(ha:Ii lo w.heap.size w w')(hs:w.heap.size≤w'.heap.size):Gi lo w' v l:=by
 obtain⟨vs,h1,h2⟩:=h
 exact⟨vs,h1.agree ha hs,fun i hi=>let ⟨u,a,b⟩:=h2 i hi;⟨u,a,b.agree ha hs⟩⟩
theorem Gi.ext{lo:Nat}{w w':World}{v:Value}{l:List (List Int)}(h:Gi lo w v l)(he:Ext w w'):Gi lo w' v l:=h.agree (he.agree (Nat.le_refl _)) he.size
theorem Gi.lo{lo lo':Nat}{w:World}{v:Value}{l:List (List Int)}(h:Gi lo w v l)(hl:lo'≤lo):Gi lo' w v l:=by
 obtain⟨vs,h1,h2⟩:=h
 exact⟨vs,h1.lo hl,fun i hi=>let ⟨u,a,b⟩:=h2 i hi;⟨u,a,b.lo hl⟩⟩
theorem Gi.shape{lo:Nat}{w:World}{v:Value}{l:List (List Int)}(h:Gi lo w v l):∃a cap,v=.slice a l.length cap∧l.length≤cap:=by
 obtain⟨vs,⟨a,cap,e,hc,_⟩,_⟩:=h;exact⟨a,cap,e,hc⟩
theorem Gi.nil(lo:Nat)(w:World):Gi lo w (.slice none 0 0) []:=⟨[],⟨none,0,rfl,Nat.le_refl _,rfl,.inl rfl⟩,fun i hi=>by simp at hi⟩
theorem Gi.at{P:Program}{t e:TypeId}{lo:Nat}{w:World}{a:Option Addr}{cap:Nat}{l:List (List Int)}(h:Gi lo w (.slice a l.length cap) l)(ht:Sem.pv P (underlying t)=some (.slice e))(hs:Sem.pv P (sizeOf e)=some 1)(k:Nat)(hk:k<l.length) :
  ∃b o a' cap',lo≤b∧b<w.heap.size∧(∀w',(Instr.indexAt t (.slice a l.length cap) (.int .i64 (k:Int))).run P w'=.ok (.pointer (some ⟨b,o,none⟩)) w')∧w.cell? ⟨b,o,none⟩=some (.slice a' (l.getD k []).length cap')∧Ints .i64 lo w (.slice a' (l.getD k []).length cap') (l.getD k []):=by
 obtain⟨vs,hs1,h2⟩:=h
 obtain⟨b,o,h3,h4,h5,h6⟩:=Sl.at hs1 ht hs (by decide) k hk
 obtain⟨u,hu,hi⟩:=h2 k hk
 obtain⟨a',cap',rfl,_⟩:=hi.shape
 refine⟨b,o,a',cap',h3,h4,h5,?_,hi⟩
 have:=h6 0 (by decide)
 simp only[Nat.mul_one,Nat.add_zero]at this
 rw[this,hu]
theorem Jm{P:Program}{t e:TypeId}{sz:Nat}(ht:Sem.pv P (underlying t)=some (.slice e))(hs:Sem.pv P (sizeOf e)=some sz)(b o n c k:Nat)(hk:k<n)(w:World) :
  (Instr.indexAt t (.slice (some ⟨b,o,none⟩) n c) (.int .i64 (k:Int))).run P w=.ok (.pointer (some ⟨b,o+k*sz,none⟩)) w:=by
 have ht':=Sem.pv_run P _ _ ht w
 have hs':=Sem.pv_run P _ _ hs w
 have h0:(0:Int)≤(k:Int)∧(k:Int)<(n:Int):=⟨by omega,by omega⟩
 simp[Instr.indexAt,asIntOf,ht',hs',hk,Aw]
end Go.Proofs.YtfcnhnbnjdccfaaGreat

namespace Go.Proofs.YtfcnhnbnjdccfaaGreat
set_option linter.all false
open Go
structure N6 (P:Program) (t e:TypeId) (sz by_:Nat) (z:Value):Prop where
 und:Sem.pv P (underlying t)=some (.slice e)
 size:Sem.pv P (sizeOf e)=some sz
 info:(P.info? e).map (fun i=>i.bytes)=some by_
 zero:Sem.pv P (zeroValue e)=some z
 zsz:z.cells.size=sz
 pos:0<sz
 fits:by_≤128

theorem I2(z:Array Value)(n:Nat)(hz:0<z.size):((Array.range (n*z.size)).map (z[· % z.size]!))=((List.replicate n z.toList).flatten).toArray:=by
 apply Array.ext'
 simp only[Array.toList_map,Array.toList_range]
 induction n with
 | zero=>simp
 | succ n ih=>
  rw[Nat.succ_mul,List.range_add,List.map_append,ih,List.replicate_succ',List.flatten_append]
  congr 1
  simp only[List.map_map,List.flatten_cons,List.flatten_nil,List.append_nil]
  apply List.ext_getElem?
  intro i
  simp only[List.getElem?_map,List.getElem?_range]
  by_cases hi:i<z.size
  ·simp[hi,Nat.mod_eq_of_lt hi]
  ·simp[hi]

theorem N6.infoE{P:Program}{t e:TypeId}{sz by_:Nat}{z:Value}(h:N6 P t e sz by_ z):∃i,P.info? e=some i∧i.bytes=by_:=by
 have:=h.info
 cases hi:P.info? e with
 | none=>rw[hi]at this;cases this
 | some i=>rw[hi]at this;exact⟨i,rfl,by simpa using this⟩
theorem Fj{P:Program}{e:TypeId}{i:TypeInfo}(h:P.info? e=some i)(w:World):(typeInfo e).run P w=.ok i w:=by
 unfold typeInfo program
 simp[bind,Sem.bind,Sem.run,h]

theorem Cr{P:Program}{t e:TypeId}{sz by_:Nat}{z:Value}(hT:N6 P t e sz by_ z)(n:Nat)(hn:n≤1000000000)(w:World) :
  ∃b w',(Instr.makeSlice t (.int .i64 (n:Int)) (.int .i64 (n:Int))).run P w=.ok (.slice (some ⟨b,0,none⟩) n n) w'∧X5 b (.cells ((List.replicate n z.cells.toList).flatten).toArray e (0,0)) w w':=by
 obtain⟨i,hi,hby⟩:=hT.infoE
 have hty:=Fj (P:=P) hi
 have hund:=Sem.pv_run P _ _ hT.und
 have hsz:=Sem.pv_run P _ _ hT.size
 have hz:=Sem.pv_run P _ _ hT.zero
 have hw:IntKind.i64.wrap (n:Int)=n:=wrap64 (by omega)
 have hfit:=hT.fits
 have hroom:n*by_≤roomBytes:=by
  unfold roomBytes
  have:n*by_≤1000000000*128:=Nat.mul_le_mul hn hfit
  omega
 have hbig:¬((by_:Int)*(n:Int)>2 ^ 48):=by
  have h1:by_*n≤128000000000:=Nat.le_trans (Nat.mul_le_mul hfit hn) (by decide)
  have h2:((by_*n:Nat):Int)=(by_:Int)*(n:Int):=Int.natCast_mul by_ n
  rw[←h2]
  omega
 have hrm:Array.map (fun x=>(if n*sz=0 then(#[]:Array Value)else z.cells)[x % (if n*sz=0 then(#[]:Array Value)else z.cells).size]!) (Array.range (n*sz))=((List.replicate n z.cells.toList).flatten).toArray:=by
  by_cases h0:n*sz=0
  ·have:n=0:=by
    rcases Nat.mul_eq_zero.1 h0 with h | h
    ·exact h
    ·have:=hT.pos;omega
   subst this;simp
  ·rw[if_neg h0,←hT.zsz]
   exact I2 z.cells n (by rw[hT.zsz];exact hT.pos)
 refine⟨w.heap.size,{ w with heap:=w.heap.push (.cells ((List.replicate n z.cells.toList).flatten).toArray e (0,0)) },?_,?_⟩
 ·have hneg:¬((n:Int)<0):=by omega
  have hask:(askRoom (n*by_)).run P w=.ok () w:=by
   unfold askRoom
   rw[if_neg (by omega)];rfl
  rw[←hrm]
  have hai:∀w,(asInt (.int .i64 (n:Int))).run P w=.ok (n:Int) w:=fun _=>rfl
  have hc1:(decide ((n:Int)<0) || decide ((by_:Int)*(n:Int)>2 ^ 48))=false:=by
   simp only[Bool.or_eq_false_iff,decide_eq_false_iff_not];exact⟨hneg,hbig⟩
  have hc2:((decide ((n:Int)<0) || decide ((by_:Int)*(n:Int)>2 ^ 48)) || decide ((n:Int)<0) || decide ((n:Int)>(n:Int)))=false:=by
   rw[hc1];simp
  unfold Instr.makeSlice
  simp only[Sem.run_bind,hund,Result.andThen_ok,hai,hty,hby,hw]
  simp only[hc2,Bool.false_eq_true,if_false,Sem.run_bind,Sem.run_pure,Result.andThen_ok,Int.toNat_natCast,hask,hsz]
  by_cases h0:n*sz=0
  ·simp only[h0,if_true,Sem.run_pure,Result.andThen_ok,newRow,newObj,Sem.run_bind,Sem.run]
  ·simp only[h0,if_false,Sem.run_pure,Result.andThen_ok,newRow,newObj,Sem.run_bind,Sem.run,hz]
 ·have:=New.mk' (.cells ((List.replicate n z.cells.toList).flatten).toArray e (0,0)) w
  exact⟨rfl,this.ext,this.size,this.blk⟩
theorem Dk{P:Program}{lo:Nat}{w:World}{v:Value}{n sz:Nat}{cs:List Value}(h:Sl lo w v n sz cs)(m:Nat)(hm:m≤n) :
  (Builtin.firstCells sz m v).run P w=.ok (cs.take (m*sz)).toArray w:=by
 obtain⟨a,cap,rfl,hc,hl,hr⟩:=h
 rcases hr with rfl | ⟨b,off,rfl,h1,h2,hr⟩
 ·have h0:m*sz=0:=by
   have h3:n*sz=0:=by simpa using hl.symm
   have:m*sz≤n*sz:=Nat.mul_le_mul_right _ hm
   omega
  cases a with
  | none=>simp[Builtin.firstCells]
  | some a=>simp[Builtin.firstCells,h0,loadCells,loadCellsFrom]
 ·have hlen:(cs.take (m*sz)).length=m*sz:=by
   rw[List.length_take,hl]
   have:m*sz≤n*sz:=Nat.mul_le_mul_right _ hm
   omega
  have hrow:Row w ⟨b,off,none⟩ (cs.take (m*sz)):=fun i u hi=>hr i u (by
   rw[List.getElem?_take]at hi
   split at hi
   ·exact hi
   ·cases hi)
  have:=Ej (P:=P) hrow
  rw[hlen]at this
  simpa [Builtin.firstCells]using this
def Acc(e:TypeId)(sz lo:Nat)(w:World)(v:Value)(n:Nat)(cs:List Value)(ab:List Nat):Prop:=
 cs.length=n*sz∧((v=.slice none 0 0∧n=0∧ab=[])∨∃b cap rest,v=.slice (some ⟨b,0,none⟩) n cap∧ab=[b]∧lo≤b∧(n≤cap∧cap≤9223372036854775807)∧rest.length=(cap-n)*sz∧∃ty,Blk w b (cs++rest) ty)
theorem Acc.nil(e:TypeId)(sz lo:Nat)(w:World):Acc e sz lo w (.slice none 0 0) 0 [] []:=⟨by simp,.inl ⟨rfl,rfl,rfl⟩⟩
theorem Acc.upd{e:TypeId}{sz lo:Nat}{S:List Nat}{w w':World}{v:Value}{n:Nat}{cs:List Value}{ab:List Nat}(h:Acc e sz lo w v n cs ab)(hu:Upd S w w')(hs:∀k∈ab,k∉S):Acc e sz lo w' v n cs ab:=by
 obtain⟨h1,h2⟩:=h
 refine⟨h1,?_⟩
 rcases h2 with h2 | ⟨b,cap,rest,e1,rfl,hlo,hc,hr,ty,hB⟩
 ·exact .inl h2
 ·exact .inr ⟨b,cap,rest,e1,rfl,hlo,hc,hr,ty,hu.blk hB (hs b (by simp))⟩
theorem Acc.ext{e:TypeId}{sz lo:Nat}{w w':World}{v:Value}{n:Nat}{cs:List Value}{ab:List Nat}(h:Acc e sz lo w v n cs ab)(hu:Ext w w'):Acc e sz lo w' v n cs ab:=h.upd hu (by simp)
theorem Acc.put{e:TypeId}{sz lo b:Nat}{o:Obj}{w w':World}{v:Value}{n:Nat}{cs:List Value}{ab:List Nat}(h:Acc e sz lo w v n cs ab)(hp:Put b o w w')(hb:b∉ab):Acc e sz lo w' v n cs ab:=h.upd hp.upd (fun k hk hk2=>by simp at hk2;subst hk2;exact hb hk)
theorem Acc.lt{e:TypeId}{sz lo:Nat}{w:World}{v:Value}{n:Nat}{cs:List Value}{ab:List Nat}(h:Acc e sz lo w v n cs ab):∀k∈ab,lo≤k∧k<w.heap.size:=by
 obtain⟨h1,h2⟩:=h
 rcases h2 with⟨_,_,rfl⟩ | ⟨b,cap,rest,_,rfl,hlo,_,_,_,hB⟩
 ·simp
 ·intro k hk;simp at hk;subst hk;exact⟨hlo,A8 hB⟩
theorem Acc.sl{e:TypeId}{sz lo:Nat}{w:World}{v:Value}{n:Nat}{cs:List Value}{ab:List Nat}(h:Acc e sz lo w v n cs ab):Sl lo w v n sz cs:=by
 obtain⟨h1,h2⟩:=h
 rcases h2 with⟨rfl,rfl,_⟩ | ⟨b,cap,rest,rfl,_,hlo,hc,_,_,hB⟩
 ·exact⟨none,0,rfl,Nat.le_refl _,h1,.inl (by simpa using h1)⟩
 ·refine⟨_,cap,rfl,hc.1,h1,.inr ⟨b,0,rfl,hlo,A8 hB,fun i u hi=>?_⟩⟩
  rw[Aw,Nat.zero_add]
  exact Blk.cell hB (by rw[List.getElem?_append_left (List.getElem?_eq_some_iff.1 hi).1];exact hi)
theorem Acc.shape{e:TypeId}{sz lo:Nat}{w:World}{v:Value}{n:Nat}{cs:List Value}{ab:List Nat}(h:Acc e sz lo w v n cs ab):∃a cap,v=.slice a n cap:=by
 obtain⟨a,cap,e,_⟩:=h.sl;exact⟨a,cap,e⟩

theorem A11(n:Nat):∀(r c:Nat),Builtin.growBy n r c≤max c (n+(n+768) / 4)
 | 0,c=>by simp[Builtin.growBy];omega
 | r+1,c=>by
  simp only[Builtin.growBy]
  split
  ·omega
  ·have:=A11 n r (c+(c+768) / 4)
   omega
theorem Acw(n c:Nat)(h:c<n):Builtin.nextslicecap n c≤2*n+1000:=by
 unfold Builtin.nextslicecap
 split
 ·omega
 ·split
  ·omega
  ·have:=A11 n 4 c;omega
theorem Wk(z:Array Value)(n:Nat):(Builtin.zeroCells z n).size=n*z.size:=by simp[Builtin.zeroCells]

theorem append_run{P:Program}{t e u:TypeId}{sz by_:Nat}{z:Value}(hT:N6 P t e sz by_ z)(hu:(match Sem.pv P (underlying u)with | some (.slice _)=>true | _=>false)=true){ty:TypeId}{lo lo2:Nat}{w:World}{v x:Value}{n m:Nat}{cs xs:List Value}{ab:List Nat}(hA:Acc e sz lo w v n cs ab)
  (hx:Sl lo2 w x m sz xs) (hf:∀c∈xs,flat c=true) (hn:n+m≤1000000000) (hlo:lo≤w.heap.size) :
  ∃v' w' ab',(Builtin.append_ #[t,u] ty #[v,x]).run P w=.ok v' w'∧Acc e sz lo w' v' (n+m) (cs++xs) ab'∧Upd ab w w'∧(∀k∈ab',k∈ab∨w.heap.size≤k)∧w'.heap.size≤w.heap.size+1:=by
 obtain⟨i,hi,hby⟩:=hT.infoE
 have hty:=Fj (P:=P) hi
 have hund:=Sem.pv_run P _ _ hT.und
 have hsz:=Sem.pv_run P _ _ hT.size
 have hz:=Sem.pv_run P _ _ hT.zero
 have hu':∃e',∀w,(underlying u).run P w=.ok (.slice e') w:=by
  split at hu
  ·rename_i e' he;exact⟨e',fun w=>Sem.pv_run P _ _ he w⟩
  ·cases hu
 obtain⟨e',hu'⟩:=hu'
 have hxl:xs.length=m*sz:=by obtain⟨_,_,_,_,h,_⟩:=hx;exact h
 have hlen:∀w,(Builtin.lenOf x).run P w=.ok m w:=by obtain⟨a,c,rfl,_⟩:=hx;intro w;rfl
 have hfx:∀w',Ext w w'→(Builtin.firstCells sz m x).run P w'=.ok xs.toArray w':=by
  intro w' he
  have:=Dk (P:=P) (hx.ext he) m (Nat.le_refl _)
  rwa [List.take_of_length_le (by omega)]at this
 have hcl:=hA.1
 have hfs:∀w',Ext w w'→(Builtin.firstCells sz n v).run P w'=.ok cs.toArray w':=by
  intro w' he
  have:=Dk (P:=P) (hA.sl.ext he) n (Nat.le_refl _)
  rwa [List.take_of_length_le (by omega)]at this
 have grow:∀(a:Option Addr) (cap:Nat),v=.slice a n cap→¬n+m≤cap→∃v' w' ab',(Builtin.append_ #[t,u] ty #[v,x]).run P w=.ok v' w'∧Acc e sz lo w' v' (n+m) (cs++xs) ab'∧Upd ab w w'∧(∀k∈ab',k∈ab∨w.heap.size≤k)∧w'.heap.size≤w.heap.size+1:=by
  intro a cap hv hcap
  have hnc:=Acw (n+m) cap (by omega)
  have hfit:=hT.fits
  have hbig:¬(Builtin.nextslicecap (n+m) cap*by_>2 ^ 48):=by
   have:Builtin.nextslicecap (n+m) cap*by_≤(2*1000000000+1000)*128:=Nat.mul_le_mul (by omega) hfit
   omega
  have hmax:¬(((n+m:Nat):Int)>IntKind.i64.max∧by_=0):=by
   have:IntKind.i64.max=9223372036854775807:=by decide
   omega
  let q:Question:=.appendCap (n+m) cap e
  let nc:=q.cut (w.tape w.drawn q)
  have hnc':n+m≤nc:=by simp only[nc,q,Question.cut];omega
  have hnc63:nc≤9223372036854775807:=by
   have hlt:=Nat.mod_lt (w.tape w.drawn q) (show 0<2 ^ 63-(n+m)by omega)
   simp only[nc,q,Question.cut]at hlt ⊢
   omega
  let w1:=bump w
  have hask:(askRoom (nc*by_)).run P w1=.ok () w1:=by
   unfold askRoom mark
   split<;>rfl
  let rest:=Builtin.zeroCells z.cells (nc-(n+m))
  refine⟨.slice (some ⟨w.heap.size,0,none⟩) (n+m) nc,{ w1 with heap:=w1.heap.push (.cells (cs.toArray++xs.toArray++rest) e (0,0)) },[w.heap.size],?_,?_,?_,?_,?_⟩
  ·have hch:∀k:Nat→Sem Value,(choose q >>= k).run P w=(k nc).run P w1:=by
    intro k
    simp only[choose,bind,Sem.bind,Sem.run,q,Question.forced]
    rfl
   have h1:=hfs w1 (P3 w)
   have h2:=hfx w1 (P3 w)
   rw[hv]at h1 ⊢
   simp only[Builtin.append_,List.getElem?_toArray,List.getElem?_cons_zero,List.getElem?_cons_succ,Sem.run_bind,hund,Result.andThen_ok,hsz,hu',Sem.run_pure,hlen,if_neg hcap,hty,hby]
   simp only[Bool.false_eq_true,if_false,Sem.run_bind,Result.andThen_ok,hty,hby,hbig,Sem.run_pure,false_or,hmax,Sem.run_ite]
   simp only[hlen,Result.andThen_ok,hcap,if_false,hty,hby,hbig,hmax]
   rw[show(choose (.appendCap (n+m) cap e)).run P w=.ok nc w1 from rfl]
   simp only[Result.andThen_ok,hty,hby,hask,h1,h2,hz,newRow,newObj,Sem.run_bind,Sem.run_pure,Sem.run]
   rfl
  ·have hb:(w1.heap.push (.cells (cs.toArray++xs.toArray++rest) e (0,0)))[w.heap.size]?=some (.cells (cs.toArray++xs.toArray++rest) e (0,0)):=by
    show(w.heap.push _)[w.heap.size]?=_
    simp
   refine⟨by simp[hcl,hxl,Nat.add_mul],.inr ⟨w.heap.size,nc,rest.toList,rfl,rfl,hlo,⟨hnc',hnc63⟩,?_,e,?_⟩⟩
   ·simp only[rest,Array.length_toList,Wk,hT.zsz]
   ·show(w1.heap.push (.cells (cs.toArray++xs.toArray++rest) e (0,0)))[w.heap.size]?=_
    rw[hb]
    congr 2
    apply Array.ext'
    simp
  ·have hn1:=New.mk' (.cells (cs.toArray++xs.toArray++rest) e (0,0)) w1
   exact Ext.up ((P3 w).trans hn1.ext)
  ·intro k hk;simp at hk;right;omega
  ·show(w.heap.push _).size≤_;simp
 obtain⟨h1,h2⟩:=hA
 rcases h2 with⟨rfl,rfl,rfl⟩ | ⟨b,cap,rest,rfl,rfl,hlob,hc,hr,bty,hB⟩
 ·by_cases h0:m=0
  ·subst h0
   have:xs=[]:=by simpa using hxl
   subst this
   refine⟨.slice none 0 0,w,[],?_,⟨by simpa using h1,.inl ⟨rfl,rfl,rfl⟩⟩,Upd.refl _ _,by simp,by omega⟩
   have h2:=hfx w (Upd.refl _ _)
   simp[Builtin.append_,hund,hsz,hu',hlen,h2]
  ·exact grow none 0 rfl (by omega)
 ·by_cases hcap:n+m≤cap
  ·have hrest:rest.length=(cap-n)*sz:=hr
   have hmr:m*sz≤rest.length:=by rw[hrest];exact Nat.mul_le_mul_right _ (by omega)
   have hst:=Bw (P:=P) xs (n*sz) 0 (cs++rest) w hf (by simp;omega) hB
   have e2:(cs++rest).take (n*sz+0)++xs++(cs++rest).drop (n*sz+0+xs.length)=(cs++xs)++rest.drop (m*sz):=by
    rw[Nat.add_zero,hxl,←h1,List.take_left,List.drop_append]
    simp
    first | done | (rw[List.drop_of_length_le (by omega)];simp)
   rw[e2]at hst
   refine⟨.slice (some ⟨b,0,none⟩) (n+m) cap,{ w with heap:=w.heap.setIfInBounds b (.cells ((cs++xs)++rest.drop (m*sz)).toArray bty (0,0)) },[b],?_,?_,?_,fun k hk=>.inl hk,?_⟩
   ·have h2:=hfx w (Upd.refl _ _)
    have ha:(⟨b,0,none⟩:Addr).add (n*sz)=⟨b,n*sz,none⟩:=by rw[Aw];simp
    simp[Builtin.append_,hund,hsz,hu',hlen,hcap,h2,ha,hst]
   ·have hp:=Put.mk' (.cells ((cs++xs)++rest.drop (m*sz)).toArray bty (0,0)) hB
    refine⟨by simp[h1,hxl,Nat.add_mul],.inr ⟨b,cap,rest.drop (m*sz),rfl,rfl,hlob,⟨hcap,hc.2⟩,?_,bty,hp.blk⟩⟩
    rw[List.length_drop,hrest,←Nat.sub_mul]
    congr 1;omega
   ·exact(Put.mk' _ hB).upd
   ·simp
  ·exact grow _ cap rfl hcap
theorem Acc.prs{e:TypeId}{lo:Nat}{w:World}{v:Value}{l:List (Int×Int)}{ab:List Nat}(h:Acc e 2 lo w v l.length (l.flatMap enc2) ab):Prs lo w v l:=h.sl
theorem Ints.sl{kd:IntKind}{lo:Nat}{w:World}{v:Value}{l:List Int}(h:Ints kd lo w v l):Sl lo w v l.length 1 (l.map (.int kd)):=h
theorem Prs.sl{lo:Nat}{w:World}{v:Value}{l:List (Int×Int)}(h:Prs lo w v l):Sl lo w v l.length 2 (l.flatMap enc2):=h
end Go.Proofs.YtfcnhnbnjdccfaaGreat

namespace Go.Proofs.YtfcnhnbnjdccfaaGreat
set_option linter.all false
open Go

inductive Ty where
 | int (k:IntKind)
 | bool
 | pair (a b:Ty)
 | sl (a:Ty)
 | ptr (a:Ty)
 deriving DecidableEq
@[reducible] def Ty.den:Ty→Type
 | .int _=>Int
 | .bool=>Bool
 | .pair a b=>a.den×b.den
 | .sl a=>List a.den
 | .ptr a=>a.den
def Ty.cells:Ty→Nat
 | .pair a b=>a.cells+b.cells
 | _=>1
def Ty.dflt:(t:Ty)→t.den
 | .int _=>(0:Int)
 | .bool=>false
 | .pair a b=>(a.dflt,b.dflt)
 | .sl _=>[]
 | .ptr a=>a.dflt
def Ty.beq:(t:Ty)→t.den→t.den→Bool
 | .int _,x,y=>decide ((x:Int)=y)
 | .bool,x,y=>(x:Bool)==y
 | .pair a b,x,y=>a.beq x.1 y.1&&b.beq x.2 y.2
 | .sl _,_,_=>false
 | .ptr _,_,_=>false

inductive AV:Type where
 | i (k:IntKind) (n:Int)
 | b (c:Bool)
 | undef
 | nilp
 | nilf
 | nils
 | nilm
 | sl (t:Ty) (l:List t.den)
 | fe (t:Ty) (x:t.den) (j:Nat)
 | fz (ps:List AV) (j:Nat)
 | fa (t:Ty) (l:List t.den) (k j:Nat)
 | own (id base:Nat)
 | elt (id base k c j:Nat)
 | ols (id:Nat)
 | osl (id n:Nat)
 | mp (id:Nat)
 | arr (t:Ty) (n:Nat) (l:List t.den)
 | fn (f:FuncId) (first cap:List AV)
 | agg (ps:List AV)
 | tup (vs:List AV)
inductive Blk':Type where
 | segs (ps:List AV)
 | rsegs (ps:List AV)
 | lst (t:Ty) (l:List t.den)
 | frz (t:Ty) (l:List t.den)
 | map (kt vt:Ty) (l:List (kt.den×vt.den))
 | dead
abbrev LL:=List (Nat×AV)
abbrev HH:=List Blk'

def AV.psz:AV→Nat
 | .arr t n _=>n*t.cells
 | _=>1
def AV.parts:AV→List AV
 | .agg ps=>ps
 | a=>[a]
def psz:List AV→Nat
 | []=>0
 | p::ps=>p.psz+psz ps
def AV.part:AV→Bool
 | .agg _ | .tup _ | .undef=>false
 | _=>true

def okI:Int→Bool
 | .ofNat m=>Nat.ble m 9223372036854775807
 | .negSucc m=>Nat.ble m 9223372036854775807
def lmI:Int→Bool
 | .ofNat m=>Nat.ble m 1000000
 | .negSucc _=>false
section
variable {Z α:Type}
def br(c:Bool)(x y:Option Z):Option Z:=match c with | true=>x | false=>y
def chk(n:Int)(x:Option Z):Option Z:=match okI n with | true=>x | false=>none
def grd(c:Bool)(x:Option Z):Option Z:=match c with | true=>x | false=>none
def rng(i:Int)(n:Nat)(x:Option Z):Option Z:=if 0≤i∧i<n then x else none
def idx(l:List α)(i:Int)(f:α→Option Z):Option Z:=if 0≤i then(match l[i.toNat]? with | some x=>f x | none=>none)else none
def get(l:List α)(k:Nat)(f:α→Option Z):Option Z:=match l[k]? with | some x=>f x | none=>none
def lim(n:Nat)(x:Option Z):Option Z:=if n≤1000000 then x else none
end

def avs:(t:Ty)→t.den→List AV
 | .int k,n=>[.i k n]
 | .bool,c=>[.b c]
 | .pair a b,x=>avs a x.1++avs b x.2
 | .sl a,l=>[.sl a l]
 | .ptr a,x=>[.fe a x 0]
def Ty.av(t:Ty)(x:t.den):AV:=match t,x with
 | .int k,n=>.i k n
 | .bool,c=>.b c
 | .pair a b,x=>.agg (avs (.pair a b) x)
 | .sl a,l=>.sl a l
 | .ptr a,x=>.fe a x 0
def Fg(a t:Ty)(l:List a.den):Option (List t.den):=if h:a=t then some (h▸l)else none
def A5p(a t:Ty)(x:a.den):Option t.den:=if h:a=t then some (h▸x)else none
def cont(H:HH)(id:Nat)(t:Ty):Option (List t.den):=match H[id]? with
 | some (.lst a l)=>Fg a t l
 | some (.frz a l)=>Fg a t l
 | _=>none
abbrev tup4(k:IntKind):Ty:=.pair (.int k) (.pair (.int k) (.pair (.int k) (.int k)))
def unA:(t:Ty)→List AV→Option (t.den×List AV×List Nat)
 | t,.arr (.int k) 4 l::r=>(A5p (tup4 k) t (l.getD 0 (0:Int),l.getD 1 (0:Int),l.getD 2 (0:Int),l.getD 3 (0:Int))).map fun x=>(x,r,[])
 | _,_=>none
def un(H:HH):(t:Ty)→List AV→Option (t.den×List AV×List Nat)
 | .int k,.i k' n::r=>if k'=k then some (n,r,[])else none
 | .bool,.b c::r=>some (c,r,[])
 | .pair a b,ps=>match unA (.pair a b) ps with
  | some r=>some r
  | none=>(un H a ps).bind fun x=>(un H b x.2.1).bind fun y=>some ((x.1,y.1),y.2.1,x.2.2++y.2.2)
 | .sl t,.sl a l::r=>(Fg a t l).bind fun l=>some (l,r,[])
 | .sl _,.nils::r=>some ([],r,[])
 | .sl t,.ols id::r=>(cont H id t).bind fun l=>some (l,r,[id])
 | .ptr t,.fe a x 0::r=>(A5p a t x).bind fun x=>some (x,r,[])
 | _,_=>none
def un1(H:HH)(t:Ty)(a:AV):Option (t.den×List Nat):=(un H t a.parts).bind fun x=>match x.2.1 with | []=>some (x.1,x.2.2) | _::_=>none
def unL(H:HH)(t:Ty):List AV→Option (List t.den×List Nat)
 | []=>some ([],[])
 | p::ps=>(un H t [p]).bind fun x=>match x.2.1 with
  | []=>(unL H t ps).map fun y=>(x.1::y.1,x.2.2++y.2)
  | _::_=>none
def unLf{α:Type}(f:AV→Option (α×List Nat)):List AV→Option (List α×List Nat)
 | []=>some ([],[])
 | p::ps=>(f p).bind fun x=>(unLf f ps).map fun y=>(x.1::y.1,x.2++y.2)
def unF(H:HH)(t:Ty)(a:AV):Option (t.den×List Nat):=(un H t [a]).bind fun x=>match x.2.1 with
 | []=>some (x.1,x.2.2)
 | _::_=>none
def unE(H:HH):(t:Ty)→AV→Option (t.den×List Nat)
 | .sl t,a=>match a with
  | .osl id n=>match H[id]? with
   | some (.segs ps) | some (.rsegs ps)=>(unLf (unE H t) ps).bind fun x=>if decide (x.1.length=n∧n≤1000000)&&!x.2.contains id then some (x.1,id::x.2)else none
   | _=>none
  | a=>unF H (.sl t) a
 | .int k,a=>unF H (.int k) a
 | .bool,a=>unF H .bool a
 | .pair b c,a=>unF H (.pair b c) a
 | .ptr b,a=>unF H (.ptr b) a
def frzB:Blk'→Blk'
 | .lst t l=>.frz t l
 | .segs ps=>.rsegs ps
 | b=>b
def frzs:List Nat→HH→HH
 | [],H=>H
 | id::ids,H=>frzs ids (H.modify id frzB)

def skipP:List AV→Nat→Option (List AV)
 | ps,0=>some ps
 | [],_+1=>none
 | p::ps,n+1=>if p.psz≤n+1 then skipP ps (n+1-p.psz)else none
def Es:List AV→Nat→Option (List AV)
 | _,0=>some []
 | [],_+1=>none
 | p::ps,n+1=>if p.psz≤n+1 then(Es ps (n+1-p.psz)).map (p::·)else none
def putP:List AV→Nat→List AV→Option (List AV)
 | ps,0,new=>(skipP ps (psz new)).map (new++·)
 | [],_+1,_=>none
 | p::ps,n+1,new=>if p.psz≤n+1 then(putP ps (n+1-p.psz) new).map (p::·)else none
def valOf(agg:Bool)(ps:List AV):Option AV:=match agg,ps with
 | true,[.arr t n l]=>some (.arr t n l)
 | true,ps=>some (.agg ps)
 | false,[a]=>if a.part&&(a.psz==1)then(match a with | .arr ..=>none | a=>some a)else none
 | false,_=>none

def tyOf(P:Program):Nat→TypeId→Option Ty
 | 0,_=>none
 | n+1,t=>match P.underlying t with
  | some .bool=>some .bool
  | some (.int k)=>some (.int k)
  | some (.slice e)=>(tyOf P n e).map .sl
  | some (.struct fs)=>if 2≤fs.size then tys (fs.toList.map (·.type)) (tyOf P n)else none
  | some (.array m e)=>if m=4 then(match P.underlying e with | some (.int k)=>some (tup4 k) | _=>none)else none
  | _=>none
where
 tys:List TypeId→(TypeId→Option Ty)→Option Ty
  | [],_=>none
  | [t],f=>f t
  | t::ts,f=>(f t).bind fun a=>(tys ts f).map (.pair a)
def szOf(P:Program)(t:TypeId):Option Nat:=(P.info? t).map (·.size)
def Ty.isPair:Ty→Bool
 | .pair _ _=>true
 | _=>false
def isAggV:Value→Bool
 | .agg _=>true
 | _=>false
def J8:AV→Bool
 | .agg _=>true
 | _=>false
def isNilS:Value→Bool
 | .slice none 0 0=>true
 | _=>false
def zeroD:Ty→List Value→Option (List Value)
 | .int k,v::r=>(match v with | .int k' n=>if k'=k∧n=0 then some r else none | _=>none)
 | .bool,v::r=>(match v with | .bool false=>some r | _=>none)
 | .pair a b,vs=>(zeroD a vs).bind (zeroD b)
 | .sl _,v::r=>if isNilS v then some r else none
 | .ptr _,_::_=>none
 | _,[]=>none
def elTy(P:Program)(e:TypeId):Option Ty:=
 match tyOf P 9 e,P.info? e with
 | some y,some i=>if i.size=y.cells∧i.bytes≤128 then
   (match i.zero with
    | some z=>if isAggV z=y.isPair then(match zeroD y z.cells.toList with | some []=>some y | _=>none)else none
    | none=>none)else none
 | _,_=>none
def slTy(P:Program)(t:TypeId):Option (TypeId×Ty):=match P.underlying t with
 | some (.slice e)=>(elTy P e).map fun y=>(e,y)
 | _=>none
def aggOf(P:Program)(t:TypeId):Option Bool:=match P.underlying t with
 | some (.struct _) | some (.array ..)=>some true
 | some _=>some false
 | none=>none
def zp(P:Program):Nat→TypeId→Option (List AV)
 | 0,_=>none
 | n+1,t=>match P.underlying t with
  | some .bool=>some [.b false]
  | some (.int k)=>some [.i k 0]
  | some (.slice _)=>some [.nils]
  | some (.pointer _)=>some [.nilp]
  | some (.map ..)=>some [.nilm]
  | some (.func ..)=>some [.nilf]
  | some (.struct fs)=>zps (fs.toList.map (·.type)) (zp P n)
  | some (.array m e)=>match zp P n e,tyOf P 9 e with
   | some [.arr y q _],_=>some [.arr y (m*q) (List.replicate (m*q) y.dflt)]
   | _,some y=>some [.arr y m (List.replicate m y.dflt)]
   | _,_=>none
  | _=>none
where
 zps:List TypeId→(TypeId→Option (List AV))→Option (List AV)
  | [],_=>some []
  | t::ts,f=>(f t).bind fun a=>(zps ts f).map (a++·)
def zeroDs(t:Ty):Nat→List Value→Option (List Value)
 | 0,vs=>some vs
 | n+1,vs=>(zeroD t vs).bind (zeroDs t n)
def zeroM:AV→Value→Bool
 | .i k n,.int k' n'=>(k==k')&&decide (n=0)&&decide (n'=0)
 | .b c,.bool d=>!c&&!d
 | .nils,v=>isNilS v
 | .nilp,.pointer a=>a.isNone
 | .nilm,.map a=>a.isNone
 | .nilf,.nilFunc=>true
 | _,_=>false
def matchP:List AV→List Value→Bool
 | [],vs=>vs.isEmpty
 | p::ps,vs=>match p with
  | .arr t n _=>(match zeroDs t n vs with | some r=>matchP ps r | none=>false)
  | p=>match vs with
   | []=>false
   | v::us=>zeroM p v&&matchP ps us
def zeroP(P:Program)(t:TypeId):Option (List AV):=
 match zp P 9 t,P.info? t with
 | some ps,some i=>match i.zero with
  | some z=>if matchP ps z.cells.toList then some ps else none
  | none=>none
 | _,_=>none

def cst1:Value→Option AV
 | .int k n=>if k.min≤n∧n≤k.max then some (.i k n)else none
 | .bool c=>some (.b c)
 | .pointer none=>some .nilp
 | .slice none 0 0=>some .nils
 | .map none=>some .nilm
 | .nilFunc=>some .nilf
 | _=>none
def A99:List Value→Option (List AV)
 | []=>some []
 | v::vs=>(cst1 v).bind fun a=>(A99 vs).map (a::·)
def cst:Value→Option AV
 | .agg cs=>(A99 cs.toList).map .agg
 | .func (.func f) a c=>if a.size=0∧c.size=0 then some (.fn f [] [])else none
 | v=>cst1 v
def opd(L:LL):Operand→Option AV
 | .tmp t=>L.lookup t
 | .const v=>cst v
 | .func f=>some (.fn f [] [])
 | .global _=>none
def opds(L:LL):List Operand→Option (List AV)
 | []=>some []
 | x::xs=>(opd L x).bind fun a=>(opds L xs).map (a::·)
def sameOpd:Operand→Operand→Bool
 | .tmp a,.tmp b=>a==b
 | .const (.int _ a),.const (.int _ b)=>decide (a=b)
 | _,_=>false

inductive Sh:Type where
 | i (k:IntKind)
 | b
 | sl (t:Ty)
 | own (id base:Nat)
 | ols (id:Nat)
 | osl (id n:Nat)
 | mp (id:Nat)
 | arr (t:Ty) (n:Nat)
 | fe (t:Ty)
 | fz (l:List Sh)
 | nilp
 | nilf
 | nils
 | nilm
 | undef
 | fn (f:FuncId) (first cap:List Sh)
 | agg (l:List Sh)
mutual
@[reducible] def Sh.den:Sh→Type
 | .i _=>Int
 | .b=>Bool
 | .sl t=>List t.den
 | .arr t _=>List t.den
 | .fe t=>t.den
 | .fz l=>Shs.den l
 | .fn _ a c=>Shs.den a×Shs.den c
 | .agg l=>Shs.den l
 | _=>Unit
@[reducible] def Shs.den:List Sh→Type
 | []=>Unit
 | s::ss=>s.den×Shs.den ss
end
inductive BSh:Type where
 | segs (l:List Sh)
 | lst (t:Ty)
 | map (kt vt:Ty)
 | dead
def BSh.live:BSh→Bool
 | .dead=>false
 | _=>true
@[reducible] def BSh.den:BSh→Type
 | .segs l=>Shs.den l
 | .lst t=>List t.den
 | .map kt vt=>List (kt.den×vt.den)
 | .dead=>Unit
@[reducible] def BShs.den:List BSh→Type
 | []=>Unit
 | s::ss=>s.den×BShs.den ss
structure StSh where
 avs:List Sh
 blks:List BSh
@[reducible] def StSh.den (s:StSh):Type:=Shs.den s.avs×BShs.den s.blks
structure FS where
 m:List (Option (Option Nat))
 fz:List Nat
def FS.bind(s:FS)(j:Nat)(id:Option Nat):Option FS:=match s.m[j]? with
 | some none=>some { s with m:=s.m.set j (some id) }
 | some (some x)=>if x=id∧id.isSome then some s else none
 | none=>none
mutual
def fit(H:HH):(s:Sh)→AV→FS→Option (s.den×FS)
 | .i k,.i k' n,σ=>if k'=k then some (n,σ)else none
 | .b,.b c,σ=>some (c,σ)
 | .sl t,.sl a l,σ=>(Fg a t l).map (·,σ)
 | .sl _,.nils,σ=>some ([],σ)
 | .sl t,.ols id,σ=>(cont H id t).map (·,{ σ with fz:=id::σ.fz })
 | .sl t,.osl id n,σ=>(match H[id]? with
  | some (.segs ps) | some (.rsegs ps)=>(unLf (unE H t) ps).bind fun x=>if decide (x.1.length=n∧n≤1000000)&&!x.2.contains id then some (x.1,{ σ with fz:=id::(x.2++σ.fz) })else none
  | _=>none)
 | .own j base,.own id base',σ=>if base=base' then(σ.bind j (some id)).map ((),·)else none
 | .ols j,.ols id,σ=>(σ.bind j (some id)).map ((),·)
 | .osl j n,.osl id n',σ=>if n=n' then(σ.bind j (some id)).map ((),·)else none
 | .ols j,.nils,σ=>(σ.bind j none).map ((),·)
 | .mp j,.mp id,σ=>(σ.bind j (some id)).map ((),·)
 | .arr t n,.arr a n' l,σ=>if n=n' then(Fg a t l).map (·,σ)else none
 | .fz l,.fz ps 0,σ=>fits H l ps σ
 | .fz l,.own id 0,σ=>(match H[id]? with
  | some (.segs ps) | some (.rsegs ps)=>(fits H l ps σ).map fun x=>(x.1,{ x.2 with fz:=id::x.2.fz })
  | _=>none)
 | .fe t,.fe a x 0,σ=>(A5p a t x).map (·,σ)
 | .fe t,.own id 0,σ=>(match H[id]? with
  | some (.segs ps) | some (.rsegs ps)=>(un H t ps).bind fun x=>if x.2.1.isEmpty&&!x.2.2.contains id then some (x.1,{ σ with fz:=id::(x.2.2++σ.fz) })else none
  | _=>none)
 | .nilp,.nilp,σ=>some ((),σ)
 | .nilf,.nilf,σ=>some ((),σ)
 | .nils,.nils,σ=>some ((),σ)
 | .nilm,.nilm,σ=>some ((),σ)
 | .undef,.undef,σ=>some ((),σ)
 | .fn f a c,.fn f' a' c',σ=>if f=f' then(fits H a a' σ).bind fun x=>(fits H c c' x.2).map fun y=>((x.1,y.1),y.2)else none
 | .agg l,.agg ps,σ=>fits H l ps σ
 | _,_,_=>none
def fits(H:HH):(ss:List Sh)→List AV→FS→Option (Shs.den ss×FS)
 | [],[],σ=>some ((),σ)
 | s::ss,a::as,σ=>(fit H s a σ).bind fun x=>(fits H ss as x.2).map fun y=>((x.1,y.1),y.2)
 | _,_,_=>none
end
def fitB(H:HH):(s:BSh)→Blk'→FS→Option (s.den×FS)
 | .segs l,.segs ps,σ=>fits H l ps σ
 | .lst t,.lst a l,σ=>(Fg a t l).map (·,σ)
 | .dead,_,σ=>some ((),σ)
 | .map kt vt,.map kt' vt' l,σ=>if h:kt'=kt∧vt'=vt then some (h.1▸h.2▸l,σ)else none
 | _,_,_=>none
def fitBs(H:HH):(ss:List BSh)→Nat→FS→Option (BShs.den ss×FS)
 | [],_,σ=>some ((),σ)
 | s::ss,j,σ=>match σ.m[j]? with
  | some (some (some id))=>match H[id]? with
   | some blk=>(fitB H s blk σ).bind fun x=>(fitBs H ss (j+1) x.2).map fun y=>((x.1,y.1),y.2)
   | none=>none
  | some (some none)=>(match s with
   | .lst t=>(fitBs H ss (j+1) σ).map fun y=>((([]:List t.den),y.1),y.2)
   | _=>none)
  | _=>none
end Go.Proofs.YtfcnhnbnjdccfaaGreat

namespace Go.Proofs.YtfcnhnbnjdccfaaGreat
set_option linter.all false
open Go

mutual
def enc(f:Nat→Nat):(s:Sh)→s.den→AV
 | .i k,n=>.i k n
 | .b,c=>.b c
 | .sl t,l=>.sl t l
 | .own j base,_=>.own (f j) base
 | .ols j,_=>.ols (f j)
 | .osl j n,_=>.osl (f j) n
 | .mp j,_=>.mp (f j)
 | .arr t n,l=>.arr t n l
 | .fe t,x=>.fe t x 0
 | .fz l,p=>.fz (encs f l p) 0
 | .nilp,_=>.nilp
 | .nilf,_=>.nilf
 | .nils,_=>.nils
 | .nilm,_=>.nilm
 | .undef,_=>.undef
 | .fn g a c,p=>.fn g (encs f a p.1) (encs f c p.2)
 | .agg l,p=>.agg (encs f l p)
def encs(f:Nat→Nat):(ss:List Sh)→Shs.den ss→List AV
 | [],_=>[]
 | s::ss,p=>enc f s p.1::encs f ss p.2
end
def encB(f:Nat→Nat):(s:BSh)→s.den→Blk'
 | .segs l,p=>.segs (encs f l p)
 | .lst t,l=>.lst t l
 | .map kt vt,l=>.map kt vt l
 | .dead,_=>.dead
def encBs(f:Nat→Nat):(ss:List BSh)→BShs.den ss→List Blk'
 | [],_=>[]
 | s::ss,p=>encB f s p.1::encBs f ss p.2

def FS.ids(σ:FS):List Nat:=σ.m.filterMap fun x=>x.bind (·)
def nodupB:List Nat→Bool
 | []=>true
 | x::xs=>!xs.contains x&&nodupB xs
def lids:List BSh→List (Option (Option Nat))→List Nat
 | b::bs,x::xs=>(match b.live,x with | true,some (some i)=>i::lids bs xs | _,_=>lids bs xs)
 | _,_=>[]
def fitAll(s:StSh)(pre:List (Option (Option Nat)))(as:List AV)(H:HH):Option (s.den×FS):=
 (fits H s.avs as { m:=pre++List.replicate (s.blks.length-pre.length) none,fz:=[] }).bind fun x=>
  (fitBs H s.blks 0 x.2).bind fun y=>
   if nodupB y.2.ids&&y.2.fz.all (fun i=>!(lids s.blks y.2.m).contains i&&decide (i<H.length))&&decide (pre.length≤s.blks.length)then some ((x.1,y.1),y.2)else none

@[reducible] def altD:List StSh→Type
 | []=>Empty
 | [s]=>s.den
 | s::t::ss=>s.den⊕altD (t::ss)
def Aid{Z:Type}:(os:List StSh)→altD os→((o:StSh)→o.den→Option Z)→Option Z
 | [],r,_=>nomatch r
 | [s],r,k=>k s r
 | s::_::_,.inl r,k=>k s r
 | _::t::ss,.inr r,k=>Aid (t::ss) r k
structure Spec where
 f:FuncId
 ins:StSh
 outs:List StSh
 run:{Z:Type}→ins.den→(altD outs→Option Z)→Option Z

mutual
def Sh.flat:Sh→Bool
 | .i _ | .b | .nilp | .nilf | .nils | .nilm | .undef=>true
 | .agg l=>Shs.flat l
 | _=>false
def Shs.flat:List Sh→Bool
 | []=>true
 | s::ss=>s.flat&&Shs.flat ss
end
def Is(σ:FS)(m n j:Nat):Nat:=match σ.m[j]? with | some (some (some id))=>id | _=>n+(j-m)
def setIds:List Nat→List Blk'→HH→HH
 | id::ids,b::bs,H=>setIds ids bs (H.set id b)
 | _,_,H=>H
def resVal:List AV→AV
 | [a]=>a
 | as=>.tup as

section
variable {Z:Type}
def lend(o:StSh)(σ:FS):List Nat:=if Shs.flat o.avs&&o.blks.isEmpty then []else σ.fz
def callC(as:List AV)(f:FuncId)(H:HH)(κ:AV→HH→List Nat→List Nat→Option Z):List Spec→Option Z
 | []=>none
 | s::ss=>if s.f=f then
    match fitAll s.ins [] as H with
    | some (p,σ)=>if σ.m.all (fun x=>(x.bind id).isSome)&&s.ins.blks.all BSh.live&&s.outs.all (fun o=>decide (s.ins.blks.length≤o.blks.length))then s.run p fun r=>Aid s.outs r fun o r=>
    let bs:=encBs (Is σ s.ins.blks.length H.length) o.blks r.2
    κ (resVal (encs (Is σ s.ins.blks.length H.length) o.avs r.1)) (setIds σ.ids bs (frzs (lend o σ) H)++bs.drop s.ins.blks.length) (σ.ids++σ.fz) (σ.ids++lend o σ++List.range' H.length (o.blks.length-s.ins.blks.length))else none
    | none=>callC as f H κ ss
  else callC as f H κ ss

def scal(a m:Nat):Nat:=if m=1 then a else a*m
def arrAt(H:HH)(id base:Nat):Option ((t:Ty)×List t.den):=match H[id]? with
 | some (.lst t l)=>if base=0 then some ⟨t,l⟩else none
 | some (.segs ps)=>match skipP ps base with
  | some (.arr t _ l::_)=>some ⟨t,l⟩
  | _=>none
 | _=>none
def Aih(H:HH)(id base:Nat)(t:Ty)(l:List t.den):Option HH:=match H[id]? with
 | some (.lst _ _)=>some (H.set id (.lst t l))
 | some (.segs ps)=>match skipP ps base with
  | some (.arr _ n _::_)=>(putP ps base [.arr t n l]).map fun ps=>H.set id (.segs ps)
  | _=>none
 | _=>none
def eqT(P:Program):Nat→TypeId→List AV→List AV→Option Bool
 | 0,_,_,_=>none
 | d+1,t,ps,qs=>match P.underlying t with
  | some .bool=>(match ps,qs with | [.b a],[.b b]=>some (a==b) | _,_=>none)
  | some (.int _)=>(match ps,qs with | [.i k a],[.i k' b]=>if k=k' then some (decide (a=b))else none | _,_=>none)
  | some (.struct fs)=>if P.stoodInHeld t then none else eqF (eqT P d) 0 fs.toList ps qs
  | some (.array n e)=>if 1≤d∧n=4∧szOf P e=some 1 then(match P.underlying e with
   | some (.int k)=>(match ps,qs with
    | [.i k0 a0,.i k1 a1,.i k2 a2,.i k3 a3],[.i l0 b0,.i l1 b1,.i l2 b2,.i l3 b3]=>if(k0=k∧k1=k∧k2=k∧k3=k)∧l0=k∧l1=k∧l2=k∧l3=k then some (decide ([a0,a1,a2,a3]=[b0,b1,b2,b3]))else none
    | _,_=>none)
   | _=>none)else none
  | _=>none
where
 eqF (e:TypeId→List AV→List AV→Option Bool) (o:Nat):List Field→List AV→List AV→Option Bool
  | [],_,_=>none
  | f :: fs, ps, qs => if f.name = "_" ∨ f.offset ≠ o then none else
      (szOf P f.type).bind fun n=>if n=0 then none else(Es ps n).bind fun p=>(Es qs n).bind fun q=>(e f.type p q).bind fun a=>match fs with
     | []=>some a
     | _::_=>(skipP ps n).bind fun ps=>(skipP qs n).bind fun qs=>(eqF e (o+n) fs ps qs).map fun r=>a&&r
def evBin(P:Program)(t:TypeId)(op:BinOp)(x y:AV)(κ:AV→Option Z):Option Z:=match x,y with
 | .i k a,.i k' b=>match op with
  | .shl=>grd (decide (0≤b∧b≤62)) (if k=.i64 then chk (a*2 ^ b.toNat) (κ (.i k (a*2 ^ b.toNat)))else none)
  | .shr=>grd (decide (0≤b∧b≤31)) (if 32≤k.bits then κ (.i k (a.fdiv (2 ^ b.toNat)))else none)
  | _=>if k=k' then match op with
   | .add=>if k=.i64 then chk (a+b) (κ (.i k (a+b)))else κ (.i k (k.wrap (a+b)))
   | .sub=>if k=.i64 then chk (a-b) (κ (.i k (a-b)))else κ (.i k (k.wrap (a-b)))
   | .mul=>if k=.i64 then chk (a*b) (κ (.i k (a*b)))else κ (.i k (k.wrap (a*b)))
   | .quo=>grd (!decide (b=0)) (κ (.i k (k.wrap (a.tdiv b))))
   | .rem=>grd (!decide (b=0)) (κ (.i k (a.tmod b)))
   | .and=>grd (decide (0≤a∧0≤b)) (κ (.i k ((a.toNat &&& b.toNat:Nat):Int)))
   | .or=>grd (decide (0≤a∧0≤b)) (κ (.i k ((a.toNat ||| b.toNat:Nat):Int)))
   | .xor=>grd (decide (0≤a∧0≤b)) (κ (.i k ((a.toNat ^^^ b.toNat:Nat):Int)))
   | .eql=>κ (.b (decide (a=b)))
   | .neq=>κ (.b (!decide (a=b)))
   | .lss=>κ (.b (decide (a<b)))
   | .leq=>κ (.b (decide (a≤b)))
   | .gtr=>κ (.b (decide (b<a)))
   | .geq=>κ (.b (decide (b≤a)))
   | _=>none
   else none
 | .b a,.b b=>match P.underlying t,op with
  | some .bool,.eql=>κ (.b (a==b))
  | some .bool,.neq=>κ (.b (!(a==b)))
  | _,_=>none
 | .agg ps,.agg qs=>if P.eqGuardType P.depth t=true∨aggOf P t≠some true then none else match op,eqT P 9 t ps qs with
  | .eql,some r=>κ (.b r)
  | .neq,some r=>κ (.b (!r))
  | _,_=>none
 | .arr (.int k) n l,.arr (.int k') n' l'=>match P.underlying t with
  | some (.array m e)=>(match P.underlying e with
   | some (.int k'')=>if k=k'∧k=k''∧n=m∧n'=m∧P.eqGuardType P.depth t=false∧szOf P e=some 1 then(match op with
    | .eql=>κ (.b (decide (l=l')))
    | .neq=>κ (.b (!decide (l=l')))
    | _=>none)else none
   | _=>none)
  | _=>none
 | .nils,.nils=>match P.underlying t,op with | some (.slice _),.eql=>κ (.b true) | some (.slice _),.neq=>κ (.b false) | _,_=>none
 | .sl _ l,.nils=>match P.underlying t,op with | some (.slice _),.eql=>grd (!l.isEmpty) (κ (.b false)) | some (.slice _),.neq=>grd (!l.isEmpty) (κ (.b true)) | _,_=>none
 | _,_=>none
def keyFs(P:Program)(ok:TypeId→Ty→Bool):Nat→List Field→Ty→Bool
 | _,[],_=>false
 | o, [f], y => !(f.name == "_") && f.offset == o && szOf P f.type == some y.cells && ok f.type y
 | o, f :: g :: fs, .pair a b => !(f.name == "_") && f.offset == o && szOf P f.type == some a.cells && ok f.type a && keyFs P ok (o + a.cells) (g :: fs) b
 | _,_,_=>false
def keyOK(P:Program):Nat→TypeId→Ty→Bool
 | 0,_,_=>false
 | d+1,t,y=>match P.underlying t,y with
  | some (.int k'),.int k=>decide (k'=k)
  | some .bool,.bool=>true
  | some (.struct fs),y=>!P.stoodInHeld t&&keyFs P (keyOK P d) 0 fs.toList y
  | some (.array n e),y=>decide (1≤d∧n=4∧szOf P e=some 1)&&(match P.underlying e with | some (.int k)=>decide (y=tup4 k) | _=>false)
  | _,_=>false
def fldOf(P:Program)(t:TypeId)(f:Nat):Option (Nat×TypeId):=match P.underlying t with
 | some (.struct fs)=>(fs[f]?).map fun x=>(x.offset,x.type)
 | _=>none
def putFields(P:Program)(t:TypeId)(L:LL):List AV→List (Nat×Operand)→Option (List AV)
 | ps,[]=>some ps
 | ps,(i,x)::r=>(fldOf P t i).bind fun f=>(szOf P f.2).bind fun n=>(opd L x).bind fun a=>
   if psz a.parts=n∧a.parts.all AV.part then(putP ps f.1 a.parts).bind fun ps=>putFields P t L ps r else none
def putElems(H:HH)(L:LL)(t:Ty):List t.den→List (Nat×Operand)→Option (List t.den×List Nat)
 | l,[]=>some (l,[])
 | l,(i,x)::r=>(opd L x).bind fun a=>(un1 H t a).bind fun y=>if i<l.length then(putElems H L t (l.set i y.1) r).map fun z=>(z.1,y.2++z.2)else none

def isSlT(P:Program)(t:Option TypeId):Bool:=match t with
 | some t=>(match P.underlying t with | some (.slice _)=>true | _=>false)
 | none=>false
def RdL(x:AV)(H:HH)(t:Ty):Option (List t.den×List Nat):=match x with
 | .sl a l=>(Fg a t l).map fun l=>(l,([]:List Nat))
 | .nils=>some ([],[])
 | .ols id=>(cont H id t).map fun l=>(l,[id])
 | _=>none
def evCall(P:Program)(specs:List Spec)(L:LL)(H:HH)(c:Call)(κ:AV→HH→List Nat→List Nat→Option Z):Option Z:=
 match c.callee with
 | .value g=>(opd L g).bind fun g=>(opds L c.args.toList).bind fun as=>match g with
  | .fn f a cap=>callC (a++as++cap) f H κ specs
  | _=>none
 | .invoke ..=>none
 | .builtin bi=>(opds L c.args.toList).bind fun as=>match bi,as with
  | .len,[x]=>if isSlT P c.argTypes[0]? then match x with
   | .sl _ l=>κ (.i .i64 (l.length:Int)) H [] []
   | .nils=>κ (.i .i64 0) H [] []
   | .ols id=>(match H[id]? with | some (.lst _ l) | some (.frz _ l)=>κ (.i .i64 (l.length:Int)) H [id] [] | _=>none)
   | .osl _ n=>if n≤1000000 then κ (.i .i64 (n:Int)) H [] []else none
   | _=>none
   else none
  | .min,[.i k a,.i k2 b]=>if k2=k then κ (.i k (min a b)) H [] []else none
  | .max,[.i k a,.i k2 b]=>if k2=k then κ (.i k (max a b)) H [] []else none
  | .min,[.i k a,.i k2 b,.i k3 d]=>if k2=k∧k3=k then κ (.i k (min (min a b) d)) H [] []else none
  | .append,[s,x]=>(match c.argTypes[0]? with
   | some st=>if !isSlT P c.argTypes[1]? then none else(slTy P st).bind fun ty=>
    (RdL x H ty.2).bind fun x=>
    match s with
     | .nils=>lim x.1.length (κ (.ols H.length) (H++[Blk'.lst ty.2 x.1]) x.2 [H.length])
     | .ols id=>(match H[id]? with
      | some (.lst a l)=>(Fg a ty.2 l).bind fun l=>if x.2.contains id then none else lim (l.length+x.1.length) (κ (.ols H.length) (H.set id .dead++[Blk'.lst ty.2 (l++x.1)]) (id::x.2) [id,H.length])
      | _=>none)
     | _=>none
   | none=>none)
  | .clear,[.ols id]=>(match c.argTypes[0]?,H[id]? with
   | some st,some (.lst t l)=>if(slTy P st).map (·.2)=some t then κ (.tup []) (H.set id (.lst t (List.replicate l.length t.dflt))) [id] [id]else none
   | _,_=>none)
  | .copy,[.ols id,x]=>(match c.argTypes[0]?,H[id]? with
   | some st,some (.lst t l)=>if(slTy P st).map (·.2)=some t then(RdL x H t).bind fun x=>if x.2.contains id then none else
     let n:=min x.1.length l.length
     κ (.i .i64 (n:Int)) (H.set id (.lst t (x.1.take n++l.drop n))) (id::x.2) [id]else none
   | _,_=>none)
  | _,_=>none
def Aod:List Spec→Bool
 | s::_=>s.outs.isEmpty&&s.ins.avs.isEmpty
 | []=>false
def A24:List Spec→Nat
 | s::_=>if s.outs.isEmpty then s.ins.avs.length else 0
 | []=>0
def Apg(L:LL)(l:List (Nat×Operand)):Bool:=!l.isEmpty&&l.all fun x=>match opd L x.2 with | some .nils=>true | _=>false
def rowB(m:Nat)(nl:Bool):Option (TypeId×Ty)→Bool
 | none=>true
 | some (_,.sl _)=>Nat.beq m 2 || Nat.beq m 5 || (Nat.ble 3 m&&nl)
 | _=>false
def sliceK(P:Program)(L:LL)(H:HH)(κ:AV→HH→List Nat→List Nat→Option Z)(t:TypeId)(x:Operand)(lo hi:Option Operand):Option Z:=
 match lo,hi,opd L x with
 | none,some y,some (.ols id)=>match opd L y,slTy P t,H[id]? with
  | some (.i _ n),some ty,some (.lst a l)=>(Fg a ty.2 l).bind fun l=>grd (decide (0≤n∧n≤l.length)) (κ (.ols H.length) (H.set id .dead++[Blk'.lst ty.2 (l.take n.toNat)]) [id] [id,H.length])
  | _,_,_=>none
 | _,_,_=>none
def Ajn(i:Int)(f:Nat→Option Z):Nat→Nat→Option Z
 | _,0=>none
 | k,n+1=>br (decide (i=(k:Int))) (f k) (Ajn i f (k+1) n)
def AV.one:AV→Bool
 | .arr .. | .agg _ | .tup _ | .undef=>false
 | _=>true
def oneT(P:Program)(e:TypeId):Bool:=match P.info? e with
 | some i=>decide (i.size=1∧i.bytes≤64)&&(match i.zero with | some z=>decide (z.cells.size=1) | none=>false)
 | none=>false
def Akd(P:Program)(t:TypeId)(n:Nat)(parts:List (Nat×Operand))(L:LL)(H:HH)(κ:AV→HH→List Nat→List Nat→Option Z):Option Z:=match P.underlying t with
 | some (.slice e)=>if oneT P e&&decide (parts.map (·.1)=List.range n∧n≤64)then(opds L (parts.map (·.2))).bind fun as=>if as.all AV.one then κ (.osl H.length n) (H++[.segs as]) [] [H.length]else none else none
 | _=>none
def cstN:Operand→Option Nat
 | .const (.int .i64 n)=>if 0≤n∧n≤64 then some n.toNat else none
 | _=>none
def evMake(P:Program)(t:TypeId)(n c:Operand)(H:HH)(κ:AV→HH→List Nat→List Nat→Option Z):Option Z:=(slTy P t).bind fun ty=>match ty.2,cstN n,cstN c with
 | .sl _,some k,some k'=>if k=k' then κ (.osl H.length k) (H++[.segs (List.replicate k .nils)]) [] [H.length]else none
 | _,_,_=>none
def evOp(P:Program)(specs:List Spec)(o:Oper)(L:LL)(H:HH)(κ:AV→HH→List Nat→List Nat→Option Z):Option Z:=
 match o.op with
 | .move x | .assign x=>(opd L x).bind fun a=>κ a H [] []
 | .pick c a b=>(opd L c).bind fun c=>(opd L a).bind fun a=>(opd L b).bind fun b=>match c with
  | .b c=>br c (κ a H [] []) (κ b H [] [])
  | _=>none
 | .binOp op t x y _=>(opd L x).bind fun x=>(opd L y).bind fun y=>match Aod specs,op,x,y with
  | true,.sub,.i .i64 a,.i .i64 b=>κ (.i .i64 (IntKind.i64.wrap (a-b))) H [] []
  | _,_,.ols id,.nils=>(match H[id]?,P.underlying t,op with
   | some (.lst _ l),some (.slice _),.eql=>grd (!l.isEmpty) (κ (.b false) H [id] [])
   | some (.lst _ l),some (.slice _),.neq=>grd (!l.isEmpty) (κ (.b true) H [id] [])
   | _,_,_=>none)
  | _,_,_,_=>evBin P t op x y fun a=>κ a H [] []
 | .unOp op _ x=>(opd L x).bind fun x=>match op,x with
  | .not,.b c=>κ (.b (!c)) H [] []
  | .neg,.i .i64 n=>chk (0-n) (κ (.i .i64 (0-n)) H [] [])
  | _,_=>none
 | .convert src dst x=>if(P.underlying src).isNone then none else(opd L x).bind fun x=>match P.underlying dst,x with
  | some (.int k),.i k' n=>if k=k' then κ (.i k n) H [] []else κ (.i k (k.wrap n)) H [] []
  | _,_=>none
 | .extract x n=>(opd L x).bind fun x=>match x with
  | .tup vs=>(vs[n]?).bind fun a=>κ a H [] []
  | _=>none
 | .nilCheck x=>(opd L x).bind fun x=>match x with
  | .own .. | .elt .. | .fe .. | .fz .. | .fn .. | .fa ..=>κ x H [] []
  | _=>none
 | .makeFunc (.func f) a c=>(opds L a.toList).bind fun a=>(opds L c.toList).bind fun c=>κ (.fn f a c) H [] []
 | .fieldAddr t x f=>(opd L x).bind fun x=>(fldOf P t f).bind fun f=>(szOf P f.2).bind fun n=>if n=0 then none else match x with
  | .own id base=>κ (.own id (base+f.1)) H [] []
  | .elt id base k c j=>κ (.elt id base k c (j+f.1)) H [] []
  | .fe t y j=>κ (.fe t y (j+f.1)) H [] []
  | .fz ps j=>κ (.fz ps (j+f.1)) H [] []
  | .fa t l k j=>κ (.fa t l k (j+f.1)) H [] []
  | _=>none
 | .field t x f=>(opd L x).bind fun x=>(fldOf P t f).bind fun f=>(szOf P f.2).bind fun n=>(aggOf P f.2).bind fun ag=>match x with
  | .agg ps=>((skipP ps f.1).bind fun r=>(Es r n).bind (valOf ag)).bind fun a=>κ a H [] []
  | _=>none
 | .indexAddr t x i=>(opd L x).bind fun x=>(opd L i).bind fun i=>match P.underlying t,x,i with
  | some (.slice e),.sl y l,.i _ i=>if szOf P e=some y.cells then idx l i fun x=>κ (.fe y x 0) H [] []else none
  | some (.slice e),.ols id,.i _ i=>(match H[id]? with
    | some (.lst y l)=>if szOf P e=some y.cells then rng i l.length (κ (.elt id 0 i.toNat y.cells 0) H [id] [])else none
    | some (.frz y l)=>if szOf P e=some y.cells then idx l i fun x=>κ (.fe y x 0) H [id] []else none
    | _=>none)
  | some (.slice e),.osl id n,.i _ i=>if szOf P e=some 1 then Ajn i (fun k=>κ (.own id k) H [] []) 0 n else none
  | some (.array n e),.own id base,.i _ i=>(szOf P e).bind fun es=>match arrAt H id base with
   | some ⟨y,_⟩=>if es % y.cells=0 then rng i n (κ (.elt id base (scal i.toNat (es / y.cells)) y.cells 0) H [id] [])else none
   | none=>rng i n (κ (.own id (base+i.toNat*es)) H [id] [])
  | some (.array n e),.elt id base k c 0,.i _ i=>(szOf P e).bind fun es=>if es % c=0 then rng i n (κ (.elt id base (k+scal i.toNat (es / c)) c 0) H [] [])else none
  | some (.array n e),.fz ps j,.i _ i=>(szOf P e).bind fun es=>match skipP ps j with
   | some (.arr y _ l::_)=>if es % y.cells=0 then rng i n (κ (.fa y l (scal i.toNat (es / y.cells)) 0) H [] [])else none
   | _=>none
  | some (.array n e),.fa y l k 0,.i _ i=>(szOf P e).bind fun es=>if es % y.cells=0 then rng i n (κ (.fa y l (k+scal i.toNat (es / y.cells)) 0) H [] [])else none
  | _,_,_=>none
 | .index t x i=>(opd L x).bind fun x=>(opd L i).bind fun i=>match P.underlying t,x,i with
  | some (.array n e),.arr y m l,.i _ i=>if n=m∧elTy P e=some y then idx l i fun x=>κ (y.av x) H [] []else none
  | _,_,_=>none
 | .load t x=>(opd L x).bind fun x=>(szOf P t).bind fun n=>(aggOf P t).bind fun ag=>match x with
  | .own id base=>(match H[id]? with
   | some (.segs ps) | some (.rsegs ps)=>((skipP ps base).bind fun r=>(Es r n).bind (valOf ag)).bind fun a=>κ a H [id] []
   | _=>none)
  | .fe y x j=>((skipP (avs y x) j).bind fun r=>(Es r n).bind (valOf ag)).bind fun a=>κ a H [] []
  | .fz ps j=>((skipP ps j).bind fun r=>(Es r n).bind (valOf ag)).bind fun a=>κ a H [] []
  | .fa y l k j=>get l k fun x=>((skipP (avs y x) j).bind fun r=>(Es r n).bind (valOf ag)).bind fun a=>κ a H [] []
  | .elt id base k c j=>(match arrAt H id base with
   | some ⟨y,l⟩=>if y.cells=c then get l k fun x=>((skipP (avs y x) j).bind fun r=>(Es r n).bind (valOf ag)).bind fun a=>κ a H [id] []else none
   | none=>none)
  | _=>none
 | .store t x v=>(opd L x).bind fun x=>(opd L v).bind fun v=>(szOf P t).bind fun n=>if psz v.parts=n∧v.parts.all AV.part then match x with
  | .own id base=>(match H[id]? with
   | some (.segs ps)=>(putP ps base v.parts).bind fun ps=>κ .undef (H.set id (.segs ps)) [id] [id]
   | _=>none)
  | .elt id base k c j=>(match arrAt H id base with
   | some ⟨y,l⟩=>if y.cells=c then get l k fun x=>(putP (avs y x) j v.parts).bind fun ps=>(un H y ps).bind fun z=>if z.2.1.isEmpty&&!z.2.2.contains id then
     (Aih (frzs z.2.2 H) id base y (l.set k z.1)).bind fun H'=>κ .undef H' (id::z.2.2) (id::z.2.2)else none else none
   | none=>none)
  | _=>none
  else none
 | .alloc t=>(zeroP P t).bind fun ps=>κ (.own H.length 0) (H++[.segs ps]) [] [H.length]
 | .box t v=>(opd L v).bind fun v=>(szOf P t).bind fun n=>if psz v.parts=n∧v.parts.all AV.part then κ (.own H.length 0) (H++[.segs v.parts]) [] [H.length]else none
 | .build t parts=>(zeroP P t).bind fun z=>match P.underlying t with
  | some (.struct fs)=>if fs.toList.all (fun f=>(szOf P f.type).isSome)then(putFields P t L z parts.toList).bind fun ps=>κ (.agg ps) H [] []else none
  | some (.array n e)=>match z with
   | [.arr y m l]=>if m=n∧elTy P e=some y then(putElems H L y l parts.toList).bind fun l=>κ (.arr y n l.1) (frzs l.2 H) l.2 l.2 else none
   | _=>none
  | _=>none
 | .buildSlice t n parts=>match rowB (A24 specs) (Apg L parts.toList) (slTy P t)with
  | true=>Akd P t n parts.toList L H κ
  | false=>(slTy P t).bind fun ty=>(putElems H L ty.2 (List.replicate n ty.2.dflt) parts.toList).bind fun l=>if n*ty.2.cells≤1000000 then κ (.ols H.length) (frzs l.2 H++[.lst ty.2 l.1]) l.2 (H.length::l.2)else none
 | .makeSlice t n c=>match Nat.ble 1 (A24 specs)with
  | true=>evMake P t n c H κ
  | false=>(slTy P t).bind fun ty=>if sameOpd n c then(opd L n).bind fun n=>(opd L c).bind fun c=>match n,c with
  | .i .i64 n,.i .i64 _=>grd (lmI n) (κ (.ols H.length) (H++[.lst ty.2 (List.replicate n.toNat ty.2.dflt)]) [] [H.length])
  | _,_=>none
  else none
 | .slice t x lo hi none=>match Nat.ble 4 (A24 specs)with
  | true=>sliceK P L H κ t x lo hi
  | false=>(opd L x).bind fun x=>(match lo with | some y=>(opd L y).map some | none=>some none).bind fun lo=>(match hi with | some y=>(opd L y).map some | none=>some none).bind fun hi=>
  match P.underlying t with
  | some (.slice e)=>(match x with
    | .sl y l=>some (⟨⟨y,l⟩,[]⟩:((t:Ty)×List t.den)×List Nat)
    | .ols id=>(match H[id]? with | some (.lst y l) | some (.frz y l)=>some (⟨⟨y,l⟩,[id]⟩:((t:Ty)×List t.den)×List Nat) | _=>none)
    | _=>none).bind fun x=>if szOf P e=some x.1.1.cells then(match lo,hi with
     | none,none=>κ (.sl x.1.1 x.1.2) (frzs x.2 H) x.2 x.2
     | some (.i _ lo),none=>grd (decide (0≤lo∧lo≤x.1.2.length)) (κ (.sl x.1.1 (x.1.2.drop lo.toNat)) (frzs x.2 H) x.2 x.2)
     | none,some (.i _ hi)=>grd (decide (0≤hi∧hi≤x.1.2.length)) (κ (.sl x.1.1 (x.1.2.take hi.toNat)) (frzs x.2 H) x.2 x.2)
     | some (.i _ lo),some (.i _ hi)=>grd (decide (0≤lo∧lo≤hi∧hi≤x.1.2.length)) (κ (.sl x.1.1 ((x.1.2.take hi.toNat).drop lo.toNat)) (frzs x.2 H) x.2 x.2)
     | _,_=>none)else none
  | some (.array n e)=>(match x,lo,hi with
   | .own id base,none,some (.i _ hi)=>(match H[id]? with
    | some (.segs ps)=>(match skipP ps base with
     | some (.arr y m l::_)=>if m=n∧szOf P e=some y.cells∧n≤1000000 then grd (decide (0≤hi∧hi≤n)) (κ (.sl y (l.take hi.toNat)) (frzs [id] H) [id] [id])else none
     | _=>none)
    | _=>none)
   | _,_,_=>none)
  | _=>none
 | .makeMap t none=>(match P.underlying t with
  | some (.map kt vt)=>(elTy P kt).bind fun a=>(elTy P vt).bind fun b=>κ (.mp H.length) (H++[.map a b []]) [] [H.length]
  | _=>none)
 | .lookup t m k ok=>(opd L m).bind fun m=>(opd L k).bind fun k=>match P.underlying t,m with
  | some (.map kt vt),.mp id=>(match H[id]? with
   | some (.map a b l)=>if elTy P kt=some a∧elTy P vt=some b∧keyOK P 9 kt a=true∧J8 k=a.isPair then(un1 [] a k).bind fun x=>
     let r:=l.find? fun y=>a.beq y.1 x.1
     let v:=b.av ((r.map (·.2)).getD b.dflt)
     κ (if ok then .tup [v,.b r.isSome]else v) H [id] []else none
   | _=>none)
  | _,_=>none
 | .mapUpdate t m k v=>(opd L m).bind fun m=>(opd L k).bind fun k=>(opd L v).bind fun v=>match P.underlying t,m with
  | some (.map kt vt),.mp id=>(match H[id]? with
   | some (.map a b l)=>if elTy P kt=some a∧elTy P vt=some b∧keyOK P 9 kt a=true∧J8 k=a.isPair∧J8 v=b.isPair then(un1 [] a k).bind fun x=>(un1 [] b v).bind fun y=>κ .undef (H.set id (.map a b ((x.1,y.1)::l))) [id] [id]else none
   | _=>none)
  | _,_=>none
 | .insert t m k v=>(opd L m).bind fun m=>(opd L k).bind fun k=>(opd L v).bind fun v=>match P.underlying t,m with
  | some (.map kt vt),.mp id=>(match H[id]? with
   | some (.map a b l)=>if elTy P kt=some a∧elTy P vt=some b∧keyOK P 9 kt a=true∧J8 k=a.isPair∧J8 v=b.isPair then(un1 [] a k).bind fun x=>(un1 [] b v).bind fun y=>κ .undef (H.set id (.map a b ((x.1,y.1)::l))) [id] [id]else none
   | _=>none)
  | _,_=>none
 | .call c=>evCall P specs L H c κ
 | _=>none

structure Rec where
 dst:Option Tmp
 us:List Tmp
 rd:List Nat
 wr:List Nat
def Apy:Operand→Option Tmp
 | .tmp t=>some t
 | _=>none
def Dn(ops:Array Oper)(o:Oper):List Tmp:=
 (match o.guard with | some (g,_)=>((ops[g]?).bind (·.dst)).toList | none=>[])++o.op.operands.toList.filterMap Apy
def dstOK(n:Nat):Option Tmp→Bool
 | none=>true
 | some t=>decide (t<n)
def backB:List Oper→Nat→Bool
 | [],_=>true
 | o::os,i=>o.after.all (fun e=>!Region.binds .any e || decide (e.on<i))&&backB os (i+1)
def putA(L:LL)(d:Option Tmp)(v:AV):LL:=match d with | none=>L | some t=>(t,v)::L
def confl(a b:Rec):Bool:=
 (match a.dst with | some t=>b.us.contains t || b.dst==some t | none=>false) || (match b.dst with | some t=>a.us.contains t | none=>false)
  || a.wr.any (fun x=>b.rd.contains x || b.wr.contains x) || a.rd.any (fun x=>b.wr.contains x)
def befs:List Oper→List Nat→List Nat
 | [],acc=>acc
 | o::os,acc=>befs os (acc++[o.after.toList.foldl (fun s e=>if Region.binds .any e then s ||| 2 ^ e.on ||| acc.getD e.on 0 else s) 0])
def apartB:List Rec→List Nat→Nat→Bool
 | [],_,_=>true
 | r::rs,bs,i=>(go r rs (bs.drop (i+1)) i)&&apartB rs bs (i+1)
where
 go (r:Rec):List Rec→List Nat→Nat→Bool
  | [],_,_=>true
  | q::qs,b::bs,i=>(!confl r q || b.testBit i)&&go r qs bs i
  | _,_,_=>false
def evOps(P:Program)(specs:List Spec)(n:Nat)(all:Array Oper)(κ:List Rec→LL→HH→Option Z):List Oper→List Rec→LL→HH→Option Z
 | [],acc,L,H=>κ acc L H
 | o::os,acc,L,H=>if dstOK n o.dst then match o.guard with
  | none=>evOp P specs o L H fun v H' rd wr=>evOps P specs n all κ os (⟨o.dst,Dn all o,rd,wr⟩::acc) (putA L o.dst v) H'
  | some (g,want)=>match (all[g]?).bind (·.dst)with
   | none=>none
   | some t=>match L.lookup t with
    | some (.b c)=>br c
      (if want then evOp P specs o ((t,.b true)::L) H fun v H' rd wr=>evOps P specs n all κ os (⟨o.dst,Dn all o,rd,wr⟩::acc) (putA ((t,.b true)::L) o.dst v) H'
       else evOps P specs n all κ os (⟨o.dst,Dn all o,[],[]⟩::acc) (putA ((t,.b true)::L) o.dst .undef) H)
      (if want then evOps P specs n all κ os (⟨o.dst,Dn all o,[],[]⟩::acc) (putA ((t,.b false)::L) o.dst .undef) H
       else evOp P specs o ((t,.b false)::L) H fun v H' rd wr=>evOps P specs n all κ os (⟨o.dst,Dn all o,rd,wr⟩::acc) (putA ((t,.b false)::L) o.dst v) H')
    | some .undef=>evOps P specs n all κ os (⟨o.dst,Dn all o,[],[]⟩::acc) (putA L o.dst .undef) H
    | _=>none
  else none

inductive PI where
 | c (p:List Nat)
 | b (id:Nat)
 | l (p:List Nat)
 | r
 | s (p:List Nat)
 deriving DecidableEq
def exitP(id:Nat):List PI→Option (List PI)
 | []=>none
 | .b j::k=>if j=id then some k else exitP id k
 | _::k=>exitP id k
def nrm1(c:Code):List PI→Option (List PI)
 | .b _::k=>some k
 | .l p::k=>some (.c p::.l p::k)
 | .s _::k=>some k
 | .c p::k=>match sub c p with
  | .skip | .label _=>some k
  | .seq _ _=>some (.c (p++[0])::.c (p++[1])::k)
  | .block id _=>some (.c (p++[0])::.b id::k)
  | .loop _=>some (.c (p++[0])::.l (p++[0])::k)
  | .scope _=>some (.c (p++[0])::.s (p++[0])::k)
  | .exit id=>exitP id k
  | _=>none
 | .r::_=>none
 | []=>none
def nrm(c:Code):Nat→List PI→List PI
 | 0,k=>k
 | n+1,k=>match nrm1 c k with
  | some k'=>nrm c n k'
  | none=>k
structure Sta where
 tmps:List Tmp
 sh:StSh
structure Leaf (Z:Type) where
 at_:List PI
 sta:Sta
 fn:sta.sh.den→Option Z
@[reducible] def exD:List (List PI×Sta)→Type
 | []=>Empty
 | e::es=>e.2.sh.den⊕exD es
structure Hs where
 at_:List PI
 sta:Sta
 exits:List (List PI×Sta)
 run:{Z:Type}→sta.sh.den→(exD exits→Option Z)→Option Z
structure Body where
 c:Code
 n:Nat
 res:List ResultVar
 outs:List StSh
 m0:Nat

def lkups(L:LL):List Tmp→Option (List AV)
 | []=>some []
 | t::ts=>(L.lookup t).bind fun a=>(lkups L ts).map (a::·)
def pins(m:Nat):List (Option (Option Nat)):=(List.range m).map fun i=>some (some i)
def stL(s:Sta)(p:s.sh.den):LL:=s.tmps.zip (encs id s.sh.avs p.1)
def stH(s:Sta)(p:s.sh.den):HH:=encBs id s.sh.blks p.2
def atLeaf(m0:Nat)(k:List PI)(L:LL)(H:HH)(κ:Option Z):List (Leaf Z)→Option Z
 | []=>κ
 | x::xs=>if x.at_=k then(lkups L x.sta.tmps).bind fun as=>(fitAll x.sta.sh (pins m0) as H).bind fun y=>x.fn y.1 else atLeaf m0 k L H κ xs
def Xl(go:List PI→LL→HH→Option Z):(es:List (List PI×Sta))→exD es→Option Z
 | [],e=>nomatch e
 | x::_,.inl p=>go x.1 (stL x.2 p) (stH x.2 p)
 | _::xs,.inr e=>Xl go xs e
def atLoop(m0:Nat)(go:List PI→LL→HH→Option Z)(k:List PI)(L:LL)(H:HH)(κ:Option Z):List Hs→Option Z
 | []=>κ
 | x::xs=>if x.at_=k then(match (lkups L x.sta.tmps).bind fun as=>fitAll x.sta.sh (pins m0) as H with
  | some y=>x.run y.1 fun e=>Xl go x.exits e
  | none=>match xs with
   | []=>none
   | _::_=>atLoop m0 go k L H κ xs)else atLoop m0 go k L H κ xs
def resOf(L:LL)(H:HH)(P:Program):List ResultVar→Option (List AV)
 | []=>some []
 | .tmp t::rs=>(L.lookup t).bind fun a=>(resOf L H P rs).map (a::·)
 | .cell a t::rs=>(match L.lookup a,szOf P t,aggOf P t with
  | some (.own id base),some n,some ag=>(match H[id]? with
   | some (.segs ps)=>(skipP ps base).bind fun r=>(Es r n).bind (valOf ag)
   | _=>none)
  | _,_,_=>none).bind fun v=>(resOf L H P rs).map (v::·)
def fitAlt(pre:List (Option (Option Nat)))(as:List AV)(H:HH):(os:List StSh)→Option (altD os)
 | []=>none
 | [s]=>(fitAll s pre as H).map (·.1)
 | s::t::ss=>match fitAll s pre as H with
  | some y=>some (.inl y.1)
  | none=>(fitAlt pre as H (t::ss)).map .inr
def atRet(P:Program)(B:Body)(L:LL)(H:HH)(rt:Option (altD B.outs→Option Z)):Option Z:=match rt with
 | none=>none
 | some rt=>(resOf L H P B.res).bind fun as=>(fitAlt (pins B.m0) as H B.outs).bind fun y=>rt y

def ev(P:Program)(specs:List Spec)(B:Body)(loops:List Hs)(leaves:List (Leaf Z))(rt:Option (altD B.outs→Option Z)):Nat→Bool→List PI→LL→HH→Option Z
 | 0,_,_,_,_=>none
 | n+1,skip,k,L,H=>
  let node:Option Z:=match k with
   | []=>atRet P B L H rt
   | .c p::r=>match sub B.c p with
    | .region _ ops draw=>evOps P specs B.n ops (fun acc L' H'=>if !draw || (backB ops.toList 0&&apartB acc.reverse (befs ops.toList []) 0)then ev P specs B loops leaves rt n false (nrm B.c 99 r) L' H' else none) ops.toList [] L H
    | .cond x _ _=>(opd L x).bind fun v=>match v with
     | .b v=>br v (ev P specs B loops leaves rt n false (nrm B.c 99 (.c (p++[0])::r)) L H) (ev P specs B loops leaves rt n false (nrm B.c 99 (.c (p++[1])::r)) L H)
     | _=>none
    | .ret=>atRet P B L H rt
    | _=>none
   | _=>none
  match skip with
  | true=>node
  | false=>atLeaf B.m0 k L H (atLoop B.m0 (fun k' L' H'=>ev P specs B loops leaves rt n false k' L' H') k L H node loops) leaves
end
end Go.Proofs.YtfcnhnbnjdccfaaGreat

namespace Go.Proofs.YtfcnhnbnjdccfaaGreat
set_option linter.all false
open Go
structure Gh where
 ρ:Nat→Option (Option (Nat×Nat×Nat))
 M:Nat→Option Obj
structure GE (g g':Gh):Prop where
 ρ:∀id x,g.ρ id=some x→g'.ρ id=some x
 M:∀b o,g.M b=some o→g'.M b=some o
theorem GE.refl(g:Gh):GE g g:=⟨fun _ _ h=>h,fun _ _ h=>h⟩
theorem GE.trans{a b c:Gh}(h:GE a b)(k:GE b c):GE a c:=⟨fun _ _ x=>k.ρ _ _ (h.ρ _ _ x),fun _ _ x=>k.M _ _ (h.M _ _ x)⟩

def inR(k:IntKind)(n:Int):Prop:=k.min≤n∧n≤k.max
def Seg(vs:List Value)(o:Nat)(us:List Value):Prop:=∀j u,us[j]?=some u→vs[o+j]?=some u
abbrev CTy:=TypeId×(Nat×Nat)
def RepS{α:Type}(M:Nat→Option Obj)(c:Nat)(R:α→List Value→Prop)(l:List α)(v:Value):Prop:=
 l.length≤9223372036854775807∧∃a cap,v=.slice a l.length cap∧l.length≤cap ∧
  (l=[]∨∃b o vs,∃ty:CTy,  a=some ⟨b,o,none⟩∧M b=some (.cells (List.toArray vs) ty.1 ty.2)∧∀i x,l[i]?=some x→∃us,Seg vs (o+i*c) us∧R x us)
def RepC(M:Nat→Option Obj):(t:Ty)→t.den→List Value→Prop
 | .int k,n,vs=>vs=[.int k n]∧inR k n
 | .bool,c,vs=>vs=[.bool c]
 | .pair a b,x,vs=>∃v1 v2,vs=v1++v2∧RepC M a x.1 v1∧RepC M b x.2 v2
 | .sl a,l,vs=>∃v,vs=[v]∧RepS M a.cells (RepC M a) l v
 | .ptr a,x,vs=>∃b o ws,∃ty:CTy,∃us,  vs=[.pointer (some ⟨b,o,none⟩)]∧M b=some (.cells (List.toArray ws) ty.1 ty.2)∧Seg ws o us∧RepC M a x us
def RepL(M:Nat→Option Obj)(t:Ty):List t.den→List Value→Prop
 | [],vs=>vs=[]
 | x::xs,vs=>∃v1 v2,vs=v1++v2∧RepC M t x v1∧RepL M t xs v2

def PartOf(g:Gh):AV→List Value→(Value→Prop)→Prop
 | .arr t n l,vs,_=>l.length=n∧RepL g.M t l vs
 | .agg _,_,_ | .tup _,_,_ | .undef,_,_=>False
 | _,vs,R=>∃v,vs=[v]∧R v
mutual
def RepV(g:Gh):AV→Value→Prop
 | .i k n,v=>v=.int k n∧inR k n
 | .b c,v=>v=.bool c
 | .undef,v=>v=undef
 | .nilp,v=>v=.pointer none
 | .nilf,v=>v=.nilFunc
 | .nils,v=>v=.slice none 0 0
 | .nilm,v=>v=.map none
 | .sl t l,v=>RepS g.M t.cells (RepC g.M t) l v
 | .fe t x j,v=>∃b o vs,∃ty:CTy,∃us,  v=.pointer (some ⟨b,o+j,none⟩)∧g.M b=some (.cells (List.toArray vs) ty.1 ty.2)∧Seg vs o us∧RepC g.M t x us
 | .fz ps j,v=>∃b o vs,∃ty:CTy,∃us,  v=.pointer (some ⟨b,o+j,none⟩)∧g.M b=some (.cells (List.toArray vs) ty.1 ty.2)∧Seg vs o us∧A7 g ps us
 | .fa t l k j,v=>∃b o vs,∃ty:CTy,v=.pointer (some ⟨b,o+k*t.cells+j,none⟩)∧g.M b=some (.cells (List.toArray vs) ty.1 ty.2)∧∀i x,l[i]?=some x→∃us,Seg vs (o+i*t.cells) us∧RepC g.M t x us
 | .own id base,v=>∃b c n,g.ρ id=some (some (b,c,n))∧v=.pointer (some ⟨b,base,none⟩)
 | .elt id base k c j,v=>∃b c' n,g.ρ id=some (some (b,c',n))∧v=.pointer (some ⟨b,base+k*c+j,none⟩)
 | .ols id,v=>(g.ρ id=some none∧v=.slice none 0 0)∨∃b c n,g.ρ id=some (some (b,c,n))∧v=.slice (some ⟨b,0,none⟩) n c
 | .osl id n,v=>∃b c m,g.ρ id=some (some (b,c,m))∧v=.slice (some ⟨b,0,none⟩) n n
 | .mp id,v=>∃b c n,g.ρ id=some (some (b,c,n))∧v=.map (some b)
 | .arr t n l,v=>∃vs:List Value,v=.agg vs.toArray∧l.length=n∧RepL g.M t l vs
 | .fn f a c,v=>∃va vc:List Value,v=.func (.func f) va.toArray vc.toArray∧RepVs g a va∧RepVs g c vc
 | .agg ps,v=>∃vs:List Value,v=.agg vs.toArray∧A7 g ps vs
 | .tup ps,v=>∃vs:List Value,v=.tuple vs.toArray∧RepVs g ps vs
def RepVs(g:Gh):List AV→List Value→Prop
 | [],vs=>vs=[]
 | a::as,vs=>∃v us,vs=v::us∧RepV g a v∧RepVs g as us
def A7(g:Gh):List AV→List Value→Prop
 | [],vs=>vs=[]
 | p::ps,vs=>∃v1 v2,vs=v1++v2∧PartOf g p v1 (RepV g p)∧A7 g ps v2
end

def Blk'.mut:Blk'→Bool
 | .segs _ | .lst _ _ | .map _ _ _=>true
 | _=>false
def CV(t:Ty)(us:List Value)(v:Value):Prop:=match t with
 | .pair _ _=>v=.agg us.toArray
 | _=>us=[v]
def RepE(M:Nat→Option Obj)(t:Ty)(x:t.den)(v:Value):Prop:=∃us,RepC M t x us∧CV t us v
def RepM(M:Nat→Option Obj)(kt vt:Ty)(l:List (kt.den×vt.den))(es:Array MapEntry):Prop:=
 (∀e∈es.toList,∃x y,RepE M kt x e.key∧l.find? (fun z=>kt.beq z.1 x)=some (x,y)∧RepE M vt y e.val) ∧
 (∀z∈l,∃e∈es.toList,RepE M kt z.1 e.key) ∧
 ∀(i j:Nat) (ei ej:MapEntry),es[i]?=some ei→es[j]?=some ej→ei.key=ej.key→i=j
def RepBlk(g:Gh)(w:World)(id:Nat):Blk'→Prop
 | .segs ps=>∃b c n vs ty,g.ρ id=some (some (b,c,n))∧w.heap[b]?=some (.cells (List.toArray vs) ty (0,0))∧A7 g ps vs∧g.M b=none
 | .rsegs ps=>∃b c n vs,∃ty:CTy,  g.ρ id=some (some (b,c,n))∧g.M b=some (.cells (List.toArray vs) ty.1 ty.2)∧A7 g ps vs
 | .lst t l=>l.length≤1000000∧((g.ρ id=some none∧l=[])∨∃b c vs rest ty,g.ρ id=some (some (b,c,l.length))∧w.heap[b]?=some (.cells (List.toArray (vs++rest)) ty (0,0))∧RepL g.M t l vs∧(l.length≤c∧c≤9223372036854775807)∧rest.length=(c-l.length)*t.cells∧g.M b=none)
 | .frz t l=>l.length≤1000000∧((g.ρ id=some none∧l=[])∨∃b c vs rest,∃ty:CTy,  g.ρ id=some (some (b,c,l.length))∧g.M b=some (.cells (List.toArray (vs++rest)) ty.1 ty.2)∧RepL g.M t l vs∧l.length≤c)
 | .map kt vt l=>∃b c n es k,g.ρ id=some (some (b,c,n))∧w.heap[b]?=some (.map es k)∧g.M b=none∧RepM g.M kt vt l es
 | .dead=>True
structure Sim (g:Gh) (h:Nat→Option Blk') (w:World):Prop where
 mem:∀b o,g.M b=some o→w.heap[b]?=some o
 blk:∀id k,h id=some k→RepBlk g w id k
 inj:∀i j ki kj b ci ni cj nj,h i=some ki→h j=some kj→ki.mut=true→kj.mut=true→g.ρ i=some (some (b,ci,ni))→g.ρ j=some (some (b,cj,nj))→i=j
def isCel:Obj→Bool
 | .cells _ _ _=>true
 | _=>false
structure Stp (S:Nat→Prop) (nw:Nat→Prop) (g:Gh) (w:World) (g':Gh) (w':World):Prop where
 os:w'.os=w.os
 tape:w'.tape=w.tape
 output:w'.output=w.output
 size:w.heap.size≤w'.heap.size
 same:∀b,b<w.heap.size→¬S b→w'.heap[b]?=w.heap[b]?
 ge:GE g g'
 ρn:∀id,g.ρ id=none→g'.ρ id≠none→nw id
 ρb:∀id b c n,g.ρ id=none→g'.ρ id=some (some (b,c,n))→w.heap.size≤b∨S b
 Mn:∀b o,g'.M b=some o→g.M b=some o∨g.M b=none∧(w.heap.size≤b∨S b)∧isCel o=true
theorem Stp.refl(S nw:Nat→Prop)(g:Gh)(w:World):Stp S nw g w g w:=
 ⟨rfl,rfl,rfl,Nat.le_refl _,fun _ _ _=>rfl,GE.refl g,fun _ h h'=>absurd h h',fun _ _ _ _ h h'=>(by rw[h]at h';cases h'),fun _ _ h=>.inl h⟩
theorem Stp.mono{S S' nw nw':Nat→Prop}{g g':Gh}{w w':World}(h:Stp S nw g w g' w')(hS:∀b,S b→S' b)(hn:∀id,nw id→nw' id):Stp S' nw' g w g' w':=
 ⟨h.os,h.tape,h.output,h.size,fun b hb hs=>h.same b hb (fun x=>hs (hS b x)),h.ge,fun id a b=>hn id (h.ρn id a b),fun id b c n x y=>(h.ρb id b c n x y).imp (fun z=>z) (hS b),
  fun b o x=>(h.Mn b o x).imp (fun z=>z) (fun y=>⟨y.1,y.2.1.imp (fun z=>z) (hS b),y.2.2⟩)⟩
theorem Stp.trans{S T nw nw':Nat→Prop}{g g' g'':Gh}{w w' w'':World}(h:Stp S nw g w g' w')(k:Stp T nw' g' w' g'' w'')(hT:∀b,T b→S b∨w.heap.size≤b)(hn:∀id,nw' id→nw id):Stp S nw g w g'' w'':=by
 refine⟨k.os.trans h.os,k.tape.trans h.tape,k.output.trans h.output,Nat.le_trans h.size k.size,fun b hb hs=>?_,h.ge.trans k.ge,fun id h0 h2=>?_,fun id b c n h0 h2=>?_,fun b o h2=>?_⟩
 ·refine(k.same b (Nat.lt_of_lt_of_le hb h.size) (fun x=>?_)).trans (h.same b hb hs)
  rcases hT b x with y | y
  ·exact hs y
  ·omega
 ·by_cases h1:g'.ρ id=none
  ·exact hn id (k.ρn id h1 h2)
  ·exact h.ρn id h0 h1
 ·cases h1:g'.ρ id with
  | none=>
   rcases k.ρb id b c n h1 h2 with y | y
   ·exact .inl (Nat.le_trans h.size y)
   ·exact(hT b y).symm
  | some x=>
   have:=k.ge.ρ id x h1
   rw[this]at h2
   cases h2
   exact h.ρb id b c n h0 h1
 ·rcases k.Mn b o h2 with y | ⟨y1,y2,y3⟩
  ·exact h.Mn b o y
  ·cases hM:g.M b with
   | some o'=>
    have:=h.ge.M b o' hM
    rw[this]at y1;cases y1
   | none=>
    refine .inr ⟨rfl,?_,y3⟩
    rcases y2 with y | y
    ·exact .inl (Nat.le_trans h.size y)
    ·exact(hT b y).symm

theorem RepS.mono{α:Type}{M M':Nat→Option Obj}{c:Nat}{R R':α→List Value→Prop}{l:List α}{v:Value}(h:RepS M c R l v)(hM:∀b o,M b=some o→M' b=some o)(hR:∀x us,R x us→R' x us):RepS M' c R' l v:=by
 obtain⟨hl,a,cap,e,hc,h⟩:=h
 refine⟨hl,a,cap,e,hc,?_⟩
 rcases h with h | ⟨b,o,vs,ty,e2,hm,hx⟩
 ·exact .inl h
 ·exact .inr ⟨b,o,vs,ty,e2,hM _ _ hm,fun i x hi=>let ⟨us,h1,h2⟩:=hx i x hi;⟨us,h1,hR _ _ h2⟩⟩
theorem RepC.mono{M M':Nat→Option Obj}(hM:∀b o,M b=some o→M' b=some o):∀(t:Ty) (x:t.den) (vs:List Value),RepC M t x vs→RepC M' t x vs
 | .int _,_,_,h=>h
 | .bool,_,_,h=>h
 | .pair a b,_,_,⟨v1,v2,e,h1,h2⟩=>⟨v1,v2,e,RepC.mono hM a _ _ h1,RepC.mono hM b _ _ h2⟩
 | .sl a,_,_,⟨v,e,h⟩=>⟨v,e,h.mono hM (RepC.mono hM a)⟩
 | .ptr a,_,_,⟨b,o,ws,ty,us,e,hm,hs,h⟩=>⟨b,o,ws,ty,us,e,hM _ _ hm,hs,RepC.mono hM a _ _ h⟩
theorem RepL.mono{M M':Nat→Option Obj}(hM:∀b o,M b=some o→M' b=some o){t:Ty}:∀(l:List t.den) (vs:List Value),RepL M t l vs→RepL M' t l vs
 | [],_,h=>h
 | _::xs,_,⟨v1,v2,e,h1,h2⟩=>⟨v1,v2,e,RepC.mono hM t _ _ h1,RepL.mono hM xs _ h2⟩
theorem PartOf.mono{g g':Gh}(hg:GE g g'){p:AV}{vs:List Value}{R R':Value→Prop}(h:PartOf g p vs R)(hR:∀v,R v→R' v):PartOf g' p vs R':=by
 cases p<;>simp only[PartOf]at h ⊢<;>first | exact h.elim | exact⟨h.1,RepL.mono hg.M _ _ h.2⟩ | (obtain⟨v,e,r⟩:=h;exact⟨v,e,hR v r⟩)
mutual
theorem RepV.mono{g g':Gh}(hg:GE g g'):∀(a:AV) (v:Value),RepV g a v→RepV g' a v
 | .i _ _,_,h=>by simpa [RepV]using h
 | .b _,_,h=>by simpa [RepV]using h
 | .undef,_,h=>by simpa [RepV]using h
 | .nilp,_,h=>by simpa [RepV]using h
 | .nilf,_,h=>by simpa [RepV]using h
 | .nils,_,h=>by simpa [RepV]using h
 | .nilm,_,h=>by simpa [RepV]using h
 | .sl t l,v,h=>by simp only[RepV]at h ⊢;exact h.mono hg.M (RepC.mono hg.M t)
 | .fz ps j,v,h=>by
  simp only[RepV]at h ⊢
  obtain⟨b,o,vs,ty,us,e,hm,hs,hc⟩:=h
  exact⟨b,o,vs,ty,us,e,hg.M _ _ hm,hs,A7.mono hg ps _ hc⟩
 | .fe t x j,v,h=>by
  simp only[RepV]at h ⊢
  obtain⟨b,o,vs,ty,us,e,hm,hs,hc⟩:=h
  exact⟨b,o,vs,ty,us,e,hg.M _ _ hm,hs,RepC.mono hg.M _ _ _ hc⟩
 | .fa t l k j,v,h=>by
  simp only[RepV]at h ⊢
  obtain⟨b,o,vs,ty,e,hm,hx⟩:=h
  exact⟨b,o,vs,ty,e,hg.M _ _ hm,fun i x hi=>let ⟨us,h1,h2⟩:=hx i x hi;⟨us,h1,RepC.mono hg.M _ _ _ h2⟩⟩
 | .own _ _,_,h=>by simp only[RepV]at h ⊢;obtain⟨b,c,n,e,h⟩:=h;exact⟨b,c,n,hg.ρ _ _ e,h⟩
 | .elt _ _ _ _ _,_,h=>by simp only[RepV]at h ⊢;obtain⟨b,c,n,e,h⟩:=h;exact⟨b,c,n,hg.ρ _ _ e,h⟩
 | .ols _,_,h=>by
  simp only[RepV]at h ⊢
  rcases h with⟨e,h⟩ | ⟨b,c,n,e,h⟩
  ·exact .inl ⟨hg.ρ _ _ e,h⟩
  ·exact .inr ⟨b,c,n,hg.ρ _ _ e,h⟩
 | .osl _ _,_,h=>by simp only[RepV]at h ⊢;obtain⟨b,c,n,e,h⟩:=h;exact⟨b,c,n,hg.ρ _ _ e,h⟩
 | .mp _,_,h=>by simp only[RepV]at h ⊢;obtain⟨b,c,n,e,h⟩:=h;exact⟨b,c,n,hg.ρ _ _ e,h⟩
 | .arr t n l,_,h=>by simp only[RepV]at h ⊢;obtain⟨vs,e,hl,h⟩:=h;exact⟨vs,e,hl,RepL.mono hg.M _ _ h⟩
 | .fn f a c,_,h=>by simp only[RepV]at h ⊢;obtain⟨va,vc,e,h1,h2⟩:=h;exact⟨va,vc,e,RepVs.mono hg a va h1,RepVs.mono hg c vc h2⟩
 | .agg ps,_,h=>by simp only[RepV]at h ⊢;obtain⟨vs,e,h⟩:=h;exact⟨vs,e,A7.mono hg ps vs h⟩
 | .tup ps,_,h=>by simp only[RepV]at h ⊢;obtain⟨vs,e,h⟩:=h;exact⟨vs,e,RepVs.mono hg ps vs h⟩
theorem RepVs.mono{g g':Gh}(hg:GE g g'):∀(as:List AV) (vs:List Value),RepVs g as vs→RepVs g' as vs
 | [],_,h=>by simpa [RepVs]using h
 | a::as,_,h=>by simp only[RepVs]at h ⊢;obtain⟨v,us,e,h1,h2⟩:=h;exact⟨v,us,e,RepV.mono hg a v h1,RepVs.mono hg as us h2⟩
theorem A7.mono{g g':Gh}(hg:GE g g'):∀(ps:List AV) (vs:List Value),A7 g ps vs→A7 g' ps vs
 | [],_,h=>by simpa [A7]using h
 | p::ps,_,h=>by simp only[A7]at h ⊢;obtain⟨v1,v2,e,h1,h2⟩:=h;exact⟨v1,v2,e,h1.mono hg (RepV.mono hg p),A7.mono hg ps v2 h2⟩
end
end Go.Proofs.YtfcnhnbnjdccfaaGreat

namespace Go.Proofs.YtfcnhnbnjdccfaaGreat
set_option linter.all false
open Go

theorem Seg.refl(vs:List Value):Seg vs 0 vs:=fun j u h=>by simpa using h
theorem Seg.left{vs us:List Value}{o:Nat}(h:Seg vs o us)(rest:List Value):Seg (vs++rest) o us:=fun j u hj=>by
 have:=h j u hj
 rw[List.getElem?_append_left (List.getElem?_eq_some_iff.1 this).1];exact this
theorem Seg.right{vs us:List Value}{o:Nat}(v0:List Value)(h:Seg vs o us):Seg (v0++vs) (v0.length+o) us:=fun j u hj=>by
 rw[List.getElem?_append_right (by omega),show v0.length+o+j-v0.length=o+j by omega];exact h j u hj
theorem Seg.trans{vs us ws:List Value}{o p:Nat}(h:Seg vs o us)(k:Seg us p ws):Seg vs (o+p) ws:=fun j u hj=>by
 have:=h (p+j) u (k j u hj);rwa [←Nat.add_assoc]at this
theorem Seg.app{vs a b:List Value}{o:Nat}(h:Seg vs o (a++b)):Seg vs o a∧Seg vs (o+a.length) b:=
 ⟨fun j u hj=>h j u (by rw[List.getElem?_append_left (List.getElem?_eq_some_iff.1 hj).1];exact hj),
 fun j u hj=>by have:=h (a.length+j) u (by rw[List.getElem?_append_right (by omega)];simpa using hj);rwa [←Nat.add_assoc]at this⟩
theorem cell_of{w:World}{b:Nat}{l:List Value}{ty:TypeId}{z:Nat×Nat}{i:Nat}{v:Value}(h:w.heap[b]?=some (.cells l.toArray ty z))(hi:l[i]?=some v):w.cell? ⟨b,i,none⟩=some v:=by
 unfold World.cell?
 simp only[h]
 simpa using hi
theorem Seg.row{w:World}{b:Nat}{vs us:List Value}{ty:TypeId}{z:Nat×Nat}{o:Nat}(hb:w.heap[b]?=some (.cells vs.toArray ty z))(h:Seg vs o us):Row w ⟨b,o,none⟩ us:=fun i u hi=>by
 rw[Aw]
 exact cell_of hb (h i u hi)

theorem Ty.cells_pos:∀t:Ty,0<t.cells
 | .int _ | .bool | .sl _ | .ptr _=>by simp[Ty.cells]
 | .pair a b=>by have:=Ty.cells_pos a;simp[Ty.cells];omega
theorem RepS.flat{α:Type}{M:Nat→Option Obj}{c:Nat}{R:α→List Value→Prop}{l:List α}{v:Value}(h:RepS M c R l v):flat v=true:=by
 obtain⟨_,a,cap,rfl,_⟩:=h;rfl
theorem RepC.len{M:Nat→Option Obj}:∀(t:Ty) (x:t.den) (us:List Value),RepC M t x us→us.length=t.cells∧∀u∈us,flat u=true
 | .int _,_,_,h=>by obtain⟨rfl,_⟩:=h;simp[Ty.cells,Proofs.YtfcnhnbnjdccfaaGreat.flat]
 | .bool,_,_,h=>by simp only[RepC]at h;subst h;simp[Ty.cells,Proofs.YtfcnhnbnjdccfaaGreat.flat]
 | .pair a b,_,_,⟨v1,v2,e,h1,h2⟩=>by
  obtain⟨l1,f1⟩:=RepC.len a _ _ h1
  obtain⟨l2,f2⟩:=RepC.len b _ _ h2
  subst e
  refine⟨by simp[Ty.cells,l1,l2],fun u hu=>?_⟩
  rcases List.mem_append.1 hu with h | h
  ·exact f1 u h
  ·exact f2 u h
 | .sl a,_,_,⟨v,e,h⟩=>by subst e;exact⟨rfl,fun u hu=>by simp at hu;subst hu;exact h.flat⟩
 | .ptr a,_,_,⟨b,o,ws,ty,us,e,_⟩=>by subst e;exact⟨rfl,fun u hu=>by simp at hu;subst hu;rfl⟩
theorem RepL.len{M:Nat→Option Obj}{t:Ty}:∀(l:List t.den) (vs:List Value),RepL M t l vs→vs.length=l.length*t.cells∧∀u∈vs,flat u=true
 | [],_,h=>by simp only[RepL]at h;subst h;simp
 | x::xs,_,⟨v1,v2,e,h1,h2⟩=>by
  obtain⟨l1,f1⟩:=RepC.len t _ _ h1
  obtain⟨l2,f2⟩:=RepL.len xs _ h2
  subst e
  refine⟨by simp[l1,l2,Nat.succ_mul];omega,fun u hu=>?_⟩
  rcases List.mem_append.1 hu with h | h
  ·exact f1 u h
  ·exact f2 u h
theorem RepL.get{M:Nat→Option Obj}{t:Ty}:∀(l:List t.den) (vs:List Value) (i:Nat) (x:t.den),RepL M t l vs→l[i]?=some x→∃us,Seg vs (i*t.cells) us∧RepC M t x us
 | y::ys,_,0,x,⟨v1,v2,e,h1,_⟩,hi=>by
  simp at hi;subst hi;subst e
  exact⟨v1,by rw[Nat.zero_mul];exact(Seg.refl v1).left v2,h1⟩
 | y::ys,_,i+1,x,⟨v1,v2,e,h1,h2⟩,hi=>by
  subst e
  obtain⟨us,hs,hc⟩:=RepL.get ys v2 i x h2 (by simpa using hi)
  refine⟨us,?_,hc⟩
  have:=hs.right v1
  rw[(RepC.len t _ _ h1).1]at this
  rwa [show(i+1)*t.cells=t.cells+i*t.cells by rw[Nat.succ_mul];omega]
theorem RepL.append{M:Nat→Option Obj}{t:Ty}:∀(l l2:List t.den) (vs vs2:List Value),RepL M t l vs→RepL M t l2 vs2→RepL M t (l++l2) (vs++vs2)
 | [],_,_,_,h,h2=>by simp only[RepL]at h;subst h;simpa using h2
 | x::xs,l2,_,vs2,⟨v1,v2,e,h1,h⟩,h2=>by subst e;exact⟨v1,v2++vs2,by simp,h1,RepL.append xs l2 _ _ h h2⟩
theorem RepL.split{M:Nat→Option Obj}{t:Ty}:∀(l:List t.den) (vs:List Value) (i:Nat),RepL M t l vs→i≤l.length→RepL M t (l.take i) (vs.take (i*t.cells))∧RepL M t (l.drop i) (vs.drop (i*t.cells))
 | l,vs,0,h,_=>by simpa [RepL]using h
 | [],_,i+1,_,hi=>by simp at hi
 | x::xs,_,i+1,⟨v1,v2,e,h1,h2⟩,hi=>by
  subst e
  have hl:=(RepC.len t _ _ h1).1
  obtain⟨a,b⟩:=RepL.split xs v2 i h2 (by simpa using hi)
  have e1:(i+1)*t.cells=v1.length+i*t.cells:=by rw[Nat.succ_mul,hl];omega
  rw[e1]
  refine⟨⟨v1,v2.take (i*t.cells),?_,h1,a⟩,?_⟩
  ·rw[List.take_append,List.take_of_length_le (by omega),Nat.add_sub_cancel_left]
  ·rw[List.drop_append (l₁:=v1),List.drop_of_length_le (l:=v1) (by omega),Nat.add_sub_cancel_left];simpa using b
theorem RepL.set{M:Nat→Option Obj}{t:Ty}{l:List t.den}{vs us:List Value}{i:Nat}{x:t.den}(h:RepL M t l vs)(hi:i<l.length)(hx:RepC M t x us) :
  RepL M t (l.set i x) (vs.take (i*t.cells)++us++vs.drop ((i+1)*t.cells)):=by
 obtain⟨a,_⟩:=RepL.split l vs i h (by omega)
 obtain⟨_,b⟩:=RepL.split l vs (i+1) h (by omega)
 rw[List.set_eq_take_append_cons_drop,if_pos hi]
 have hc:RepL M t (x::l.drop (i+1)) (us++vs.drop ((i+1)*t.cells)):=⟨us,_,rfl,hx,b⟩
 rw[List.append_assoc]
 exact RepL.append _ _ _ _ a hc

theorem A7.append{g:Gh}:∀(ps qs:List AV) (vs us:List Value),A7 g ps vs→A7 g qs us→A7 g (ps++qs) (vs++us)
 | [],_,_,_,h,h2=>by simp only[A7]at h;subst h;simpa using h2
 | p::ps,qs,_,us,h,h2=>by
  simp only[A7]at h
  obtain⟨v1,v2,e,h1,h⟩:=h
  subst e
  simp only[List.cons_append,A7]
  exact⟨v1,v2++us,by simp,h1,A7.append ps qs _ _ h h2⟩
theorem A7.avs{g:Gh}:∀(t:Ty) (x:t.den) (us:List Value),RepC g.M t x us→A7 g (avs t x) us
 | .int k,n,_,h=>by obtain⟨rfl,hr⟩:=h;exact⟨[.int k n],[],rfl,⟨_,rfl,rfl,hr⟩,rfl⟩
 | .bool,c,_,h=>by simp only[RepC]at h;subst h;exact⟨[.bool c],[],rfl,⟨_,rfl,rfl⟩,rfl⟩
 | .pair a b,x,_,⟨v1,v2,e,h1,h2⟩=>by
  subst e
  exact A7.append _ _ _ _ (A7.avs a _ _ h1) (A7.avs b _ _ h2)
 | .sl a,l,_,⟨v,e,h⟩=>by subst e;exact⟨[v],[],rfl,⟨v,rfl,h⟩,rfl⟩
 | .ptr a,x,_,⟨b,o,ws,ty,us,e,h1,h2,h3⟩=>by subst e;exact⟨_,[],rfl,⟨_,rfl,⟨b,o,ws,ty,us,rfl,h1,h2,h3⟩⟩,rfl⟩
theorem PartOf.len{g:Gh}{p:AV}{vs:List Value}(h:PartOf g p vs (RepV g p)):vs.length=p.psz∧∀u∈vs,flat u=true:=by
 cases p<;>simp only[PartOf,RepV,AV.psz]at h ⊢<;>(try exact h.elim)
 case arr t n l=>obtain⟨rfl,h⟩:=h;exact RepL.len _ _ h
 case sl t l=>obtain⟨v,rfl,h⟩:=h;exact⟨rfl,fun u hu=>by simp at hu;subst hu;exact h.flat⟩
 case ols id=>obtain⟨v,rfl,h⟩:=h;exact⟨rfl,fun u hu=>by simp at hu;subst hu;rcases h with⟨_,rfl⟩ | ⟨_,_,_,_,rfl⟩<;>rfl⟩
 case i k n=>obtain⟨v,rfl,rfl,_⟩:=h;simp[flat]
 case b c=>obtain⟨v,rfl,rfl⟩:=h;simp[flat]
 case nilp=>obtain⟨v,rfl,rfl⟩:=h;simp[flat]
 case nilf=>obtain⟨v,rfl,rfl⟩:=h;simp[flat]
 case nils=>obtain⟨v,rfl,rfl⟩:=h;simp[flat]
 case nilm=>obtain⟨v,rfl,rfl⟩:=h;simp[flat]
 case fe t x j=>obtain⟨v,rfl,b,o,vs,ty,us,rfl,_⟩:=h;simp[flat]
 case fz ps j=>obtain⟨v,rfl,b,o,vs,ty,us,rfl,_⟩:=h;simp[flat]
 case fa t l k j=>obtain⟨v,rfl,b,o,vs,ty,rfl,_⟩:=h;simp[flat]
 case own id base=>obtain⟨v,rfl,b,c,n,_,rfl⟩:=h;simp[flat]
 case elt id base k c j=>obtain⟨v,rfl,b,c,n,_,rfl⟩:=h;simp[flat]
 case osl id n=>obtain⟨v,rfl,b,c,m,_,rfl⟩:=h;simp[flat]
 case mp id=>obtain⟨v,rfl,b,c,n,_,rfl⟩:=h;simp[flat]
 case fn f a c=>obtain⟨v,rfl,va,vc,rfl,_⟩:=h;simp[flat]
theorem A7.len{g:Gh}:∀(ps:List AV) (vs:List Value),A7 g ps vs→vs.length=psz ps∧∀u∈vs,flat u=true
 | [],_,h=>by simp only[A7]at h;subst h;simp[psz]
 | p::ps,_,h=>by
  simp only[A7]at h
  obtain⟨v1,v2,e,h1,h⟩:=h
  subst e
  obtain⟨l1,f1⟩:=h1.len
  obtain⟨l2,f2⟩:=A7.len ps _ h
  refine⟨by simp[psz,l1,l2],fun u hu=>?_⟩
  rcases List.mem_append.1 hu with h | h
  ·exact f1 u h
  ·exact f2 u h
theorem As{g:Gh}:∀(ps:List AV) (n:Nat) (r:List AV) (vs:List Value),skipP ps n=some r→A7 g ps vs→n≤vs.length∧A7 g r (vs.drop n)
 | ps,0,r,vs,h,hp=>by
  have:ps=r:=by cases ps<;>simpa [skipP]using h
  subst this;simpa using hp
 | [],n+1,_,_,h,_=>by simp[skipP]at h
 | p::ps,n+1,r,vs,h,hp=>by
  simp only[skipP]at h
  split at h
  ·rename_i hle
   simp only[A7]at hp
   obtain⟨v1,v2,e,h1,hp⟩:=hp
   subst e
   have l1:=h1.len.1
   obtain⟨a,b⟩:=As ps _ r v2 h hp
   refine⟨by simp;omega,?_⟩
   rw[List.drop_append,List.drop_of_length_le (by omega),List.nil_append,l1];exact b
  ·cases h
theorem Bh{g:Gh}:∀(ps:List AV) (n:Nat) (r:List AV) (vs:List Value),Es ps n=some r→A7 g ps vs→n≤vs.length∧A7 g r (vs.take n)
 | ps,0,r,vs,h,hp=>by
  have:r=[]:=by cases ps<;>simpa [Es,eq_comm]using h
  subst this;simp[A7]
 | [],n+1,_,_,h,_=>by simp[Es]at h
 | p::ps,n+1,r,vs,h,hp=>by
  simp only[Es]at h
  split at h
  ·rename_i hle
   simp only[A7]at hp
   obtain⟨v1,v2,e,h1,hp⟩:=hp
   subst e
   have l1:=h1.len.1
   cases hr:Es ps (n+1-p.psz)with
   | none=>rw[hr]at h;cases h
   | some r'=>
    rw[hr]at h
    simp only[Option.map_some,Option.some.injEq]at h
    subst h
    obtain⟨a,b⟩:=Bh ps _ r' v2 hr hp
    refine⟨by simp;omega,?_⟩
    simp only[A7]
    exact⟨v1,v2.take (n+1-p.psz),by rw[List.take_append,List.take_of_length_le (by omega),l1],h1,b⟩
  ·cases h
theorem J1{g:Gh}:∀(ps:List AV) (n:Nat) (new r:List AV) (vs us:List Value),putP ps n new=some r→A7 g ps vs→A7 g new us →
  n+us.length≤vs.length∧A7 g r (vs.take n++us++vs.drop (n+us.length))
 | ps,0,new,r,vs,us,h,hp,hn=>by
  have h':(skipP ps (psz new)).map (new++·)=some r:=by cases ps<;>simpa [putP]using h
  cases hs:skipP ps (psz new)with
  | none=>rw[hs]at h';cases h'
  | some q=>
   rw[hs]at h'
   simp only[Option.map_some,Option.some.injEq]at h'
   subst h'
   obtain⟨a,b⟩:=As ps _ q vs hs hp
   have hl:=(A7.len _ _ hn).1
   rw[hl]
   refine⟨by omega,?_⟩
   simp only[List.take_zero,List.nil_append,Nat.zero_add]
   exact A7.append _ _ _ _ hn b
 | [],n+1,_,_,_,_,h,_,_=>by simp[putP]at h
 | p::ps,n+1,new,r,vs,us,h,hp,hn=>by
  simp only[putP]at h
  split at h
  ·rename_i hle
   simp only[A7]at hp
   obtain⟨v1,v2,e,h1,hp⟩:=hp
   subst e
   have l1:=h1.len.1
   cases hr:putP ps (n+1-p.psz) new with
   | none=>rw[hr]at h;cases h
   | some r'=>
    rw[hr]at h
    simp only[Option.map_some,Option.some.injEq]at h
    subst h
    obtain⟨a,b⟩:=J1 ps _ new r' v2 us hr hp hn
    refine⟨by simp;omega,?_⟩
    simp only[A7]
    refine⟨v1,v2.take (n+1-p.psz)++us++v2.drop (n+1-p.psz+us.length),?_,h1,b⟩
    rw[List.take_append,List.take_of_length_le (by omega),l1,List.drop_append,List.drop_of_length_le (by omega),List.nil_append]
    simp only[List.append_assoc]
    congr 4
    omega
  ·cases h
theorem Y4{g:Gh}{ag:Bool}{ps:List AV}{a:AV}{vs:List Value}(h:valOf ag ps=some a)(hp:A7 g ps vs):∃v,RepV g a v∧(ag=true→v=.agg vs.toArray)∧(ag=false→vs=[v]):=by
 unfold valOf at h
 split at h
 ·rename_i t n l
  simp only[Option.some.injEq]at h;subst h
  simp only[A7,PartOf]at hp
  obtain⟨v1,v2,rfl,⟨hl,h1⟩,rfl⟩:=hp
  exact⟨.agg v1.toArray,by simp only[RepV];exact⟨v1,rfl,hl,h1⟩,by simp,by simp⟩
 ·simp only[Option.some.injEq]at h;subst h
  exact⟨.agg vs.toArray,by simp only[RepV];exact⟨vs,rfl,hp⟩,by simp,by simp⟩
 ·rename_i p
  split at h
  ·rename_i hpt
   simp only[A7]at hp
   obtain⟨v1,v2,rfl,h1,rfl⟩:=hp
   cases p<;>simp only[Option.some.injEq,reduceCtorEq]at h<;>subst h<;>simp only[PartOf]at h1<;>first
    | exact h1.elim
    | (obtain⟨v,rfl,hv⟩:=h1;exact⟨v,hv,by simp,by simp⟩)
  ·cases h
 ·cases h
theorem Cw{g:Gh}{a:AV}{v:Value}(h:RepV g a v)(hp:a.parts.all AV.part=true):A7 g a.parts v.cells.toList:=by
 cases a<;>simp only[AV.parts,List.all_cons,List.all_nil,Bool.and_true,AV.part,Bool.false_eq_true]at hp ⊢<;>simp only[RepV]at h
 case agg ps=>obtain⟨vs,rfl,h⟩:=h;simpa [Value.cells]using h
 case arr t n l=>obtain⟨vs,rfl,h⟩:=h;simp only[A7,PartOf,Value.cells];exact⟨vs,[],by simp,h,rfl⟩
 case sl t l=>
  simp only[A7,PartOf,RepV]
  have hv:=h
  obtain⟨_,b,c,rfl,_⟩:=h
  exact⟨[_],[],rfl,⟨_,rfl,hv⟩,rfl⟩
 case ols id=>
  simp only[A7,PartOf,RepV]
  have hv:=h
  rcases h with⟨_,rfl⟩ | ⟨_,_,_,_,rfl⟩<;>exact⟨[_],[],rfl,⟨_,rfl,hv⟩,rfl⟩
 case i k n=>simp only[A7,PartOf,RepV];obtain⟨rfl,h⟩:=h;exact⟨[_],[],rfl,⟨_,rfl,rfl,h⟩,rfl⟩
 case b c=>simp only[A7,PartOf,RepV];subst h;exact⟨[_],[],rfl,⟨_,rfl,rfl⟩,rfl⟩
 case nilp=>simp only[A7,PartOf,RepV];subst h;exact⟨[_],[],rfl,⟨_,rfl,rfl⟩,rfl⟩
 case nilf=>simp only[A7,PartOf,RepV];subst h;exact⟨[_],[],rfl,⟨_,rfl,rfl⟩,rfl⟩
 case nils=>simp only[A7,PartOf,RepV];subst h;exact⟨[_],[],rfl,⟨_,rfl,rfl⟩,rfl⟩
 case nilm=>simp only[A7,PartOf,RepV];subst h;exact⟨[_],[],rfl,⟨_,rfl,rfl⟩,rfl⟩
 case fe t x j=>simp only[A7,PartOf,RepV];have hv:=h;obtain⟨b,o,vs,ty,us,rfl,_⟩:=h;exact⟨[_],[],rfl,⟨_,rfl,hv⟩,rfl⟩
 case fz ps j=>simp only[A7,PartOf,RepV];have hv:=h;obtain⟨b,o,vs,ty,us,rfl,_⟩:=h;exact⟨[_],[],rfl,⟨_,rfl,hv⟩,rfl⟩
 case fa t l k j=>simp only[A7,PartOf,RepV];have hv:=h;obtain⟨b,o,vs,ty,rfl,_⟩:=h;exact⟨[_],[],rfl,⟨_,rfl,hv⟩,rfl⟩
 case own id base=>simp only[A7,PartOf,RepV];have hv:=h;obtain⟨b,c,n,_,rfl⟩:=h;exact⟨[_],[],rfl,⟨_,rfl,hv⟩,rfl⟩
 case elt id base k c j=>simp only[A7,PartOf,RepV];have hv:=h;obtain⟨b,c,n,_,rfl⟩:=h;exact⟨[_],[],rfl,⟨_,rfl,hv⟩,rfl⟩
 case osl id n=>simp only[A7,PartOf,RepV];have hv:=h;obtain⟨b,c,m,_,rfl⟩:=h;exact⟨[_],[],rfl,⟨_,rfl,hv⟩,rfl⟩
 case mp id=>simp only[A7,PartOf,RepV];have hv:=h;obtain⟨b,c,n,_,rfl⟩:=h;exact⟨[_],[],rfl,⟨_,rfl,hv⟩,rfl⟩
 case fn f a c=>simp only[A7,PartOf,RepV];have hv:=h;obtain⟨va,vc,rfl,_⟩:=h;exact⟨[_],[],rfl,⟨_,rfl,hv⟩,rfl⟩
theorem Ade{g:Gh}:∀(t:Ty) (x:t.den) (v:Value),RepE g.M t x v→RepV g (t.av x) v
 | .int k,n,v,⟨us,h,e⟩=>by simp only[CV]at e;subst e;obtain⟨h,hr⟩:=h;simp at h;subst h;exact⟨rfl,hr⟩
 | .bool,c,v,⟨us,h,e⟩=>by simp only[CV]at e;subst e;simp only[RepC,List.cons.injEq,and_true]at h;subst h;exact rfl
 | .pair a b,x,v,⟨us,h,e⟩=>by simp only[CV]at e;subst e;simp only[Ty.av,RepV];exact⟨us,rfl,A7.avs (.pair a b) x us h⟩
 | .sl a,l,v,⟨us,h,e⟩=>by simp only[CV]at e;subst e;obtain⟨u,e,h⟩:=h;simp at e;subst e;exact h
 | .ptr a,x,v,⟨us,h,e⟩=>by simp only[CV]at e;subst e;obtain⟨b,o,ws,ty,us,e,h1,h2,h3⟩:=h;simp at e;subst e;exact⟨b,o,ws,ty,us,rfl,h1,h2,h3⟩
end Go.Proofs.YtfcnhnbnjdccfaaGreat

namespace Go.Proofs.YtfcnhnbnjdccfaaGreat
set_option linter.all false
open Go

theorem Adz{n:Int}:okI n=true↔-9223372036854775808≤n∧n≤9223372036854775807:=by
 cases n<;>simp only[okI,Nat.ble_eq,Int.ofNat_eq_natCast]<;>omega
theorem Jr{n:Int}:lmI n=true↔0≤n∧n≤1000000:=by
 cases n with
 | ofNat m=>simp only[lmI,Nat.ble_eq,Int.ofNat_eq_natCast];omega
 | negSucc m=>
  constructor
  ·intro h;cases h
  ·intro h;omega
section
variable {Z α:Type} {z:Z}
theorem Vu{c:Bool}{x y:Option Z}(h:br c x y=some z):(c=true∧x=some z)∨(c=false∧y=some z):=by
 cases c
 ·exact .inr ⟨rfl,h⟩
 ·exact .inl ⟨rfl,h⟩
theorem Za{n:Int}{x:Option Z}(h:chk n x=some z):(-9223372036854775808≤n∧n≤9223372036854775807)∧x=some z:=by
 unfold chk at h;split at h
 ·rename_i hc;exact⟨Adz.1 hc,h⟩
 ·cases h
theorem Az{c:Bool}{x:Option Z}(h:grd c x=some z):c=true∧x=some z:=by
 cases c
 ·cases h
 ·exact⟨rfl,h⟩
theorem J2{i:Int}{n:Nat}{x:Option Z}(h:rng i n x=some z):(0≤i∧i<n)∧x=some z:=by
 unfold rng at h;split at h
 ·rename_i hc;exact⟨hc,h⟩
 ·cases h
theorem A7g{n:Nat}{x:Option Z}(h:lim n x=some z):n≤1000000∧x=some z:=by
 unfold lim at h;split at h
 ·rename_i hc;exact⟨hc,h⟩
 ·cases h
theorem Y2{l:List α}{i:Int}{f:α→Option Z}(h:idx l i f=some z):0≤i∧∃x,l[i.toNat]?=some x∧f x=some z:=by
 unfold idx at h;split at h
 ·rename_i hc
  split at h
  ·rename_i x hx;exact⟨hc,x,hx,h⟩
  ·cases h
 ·cases h
theorem get_some{l:List α}{k:Nat}{f:α→Option Z}(h:get l k f=some z):∃x,l[k]?=some x∧f x=some z:=by
 unfold get at h;split at h
 ·rename_i x hx;exact⟨x,hx,h⟩
 ·cases h
theorem bind_some{β:Type}{o:Option β}{f:β→Option Z}(h:o.bind f=some z):∃x,o=some x∧f x=some z:=by
 cases o with
 | none=>cases h
 | some x=>exact⟨x,rfl,h⟩
theorem map_some{β:Type}{o:Option β}{f:β→Z}(h:o.map f=some z):∃x,o=some x∧f x=z:=by
 cases o with
 | none=>cases h
 | some x=>exact⟨x,rfl,by simpa using h⟩
end
theorem Bb{a t:Ty}{l:List a.den}{l':List t.den}(h:Fg a t l=some l'):∃e:a=t,l'=e▸l:=by
 unfold Fg at h;split at h
 ·rename_i e;exact⟨e,(Option.some.inj h).symm⟩
 ·cases h

def Exec(P:Program)(e:Sem Next)(w:World)(Q:Value→World→Prop):Prop:=
 match e.run P w with
 | .ok (.value v) w'=>Q v w'
 | .ok .skip w'=>Q undef w'
 | .ok (.enter f args) w'=>Fn P f args w' Q
 | .ok (.round l f tmps assign body) w'=>Round P l f tmps assign body w' Q
 | _=>False
def Sw(g:Gh)(h:Nat→Option Blk')(wr:List Nat):Nat→Prop:=fun b=>∃id∈wr,∃k c n,h id=some k∧k.mut=true∧g.ρ id=some (some (b,c,n))
def chg(H H':HH)(wr:List Nat)(id:Nat):Prop:=id∈wr∨(H.length≤id∧id<H'.length)
instance (H H':HH) (wr:List Nat) (id:Nat):Decidable (chg H H' wr id):=by unfold chg;infer_instance
def updH(h:Nat→Option Blk')(H H':HH)(wr:List Nat):Nat→Option Blk':=fun id=>if chg H H' wr id then H'[id]? else h id
def Opds(g:Gh)(L:LL)(ρ:Operand→Value)(xs:Array Operand):Prop:=∀x∈xs,∀a,opd L x=some a→RepV g a (ρ x)
structure OpS (P:Program) (o:Oper) (L:LL) (H:HH) (v:AV) (H':HH) (rd wr:List Nat):Prop where
 nd:∀c,o.op≠.defer c
 le:H.length≤H'.length
 wlt:∀id∈wr,id<H'.length
 fr:∀id,(id<H.length→id∉wr→H'[id]?=H[id]?)∧(H.length≤id→id<H'.length→id∈wr)
 run:∀(g:Gh) (h:Nat→Option Blk') (w:World) (ρ:Operand→Value),Opds g L ρ o.op.operands→Sim g h w→(∀id,id∈rd∨id∈wr→id<H.length→h id=H[id]?) →
  (∀id,H.length≤id→id<H'.length→g.ρ id=none∧h id=none) →
  Exec P (execOp ρ o) w fun v' w'=>∃g',Stp (Sw g h wr) (fun id=>H.length≤id∧id<H'.length) g w g' w'∧Sim g' (updH h H H' wr) w'∧RepV g' v v'

theorem A91(h:Nat→Option Blk')(H:HH):updH h H H []=h:=by
 funext id;simp[updH,chg];intro h1 h2;omega
theorem OpS.quiet{P:Program}{o:Oper}{L:LL}{H:HH}{v:AV}{rd:List Nat}(hnd:∀c,o.op≠.defer c)
  (hq:∀(g:Gh) (h:Nat→Option Blk') (w:World) (ρ:Operand→Value),Opds g L ρ o.op.operands→Sim g h w→(∀id∈rd,id<H.length→h id=H[id]?) →
   ∃v',(execOp ρ o).run P w=.ok (.value v') w∧RepV g v v'):OpS P o L H v H rd []:=by
 refine⟨hnd,Nat.le_refl _,by simp,fun _=>⟨fun _ _=>rfl,fun h1 h2=>by omega⟩,fun g h w ρ h1 h2 h3 _=>?_⟩
 obtain⟨v',hr,hv⟩:=hq g h w ρ h1 h2 (fun id hi=>h3 id (.inl hi))
 simp only[Exec,hr]
 exact⟨g,Stp.refl _ _ g w,by rw[A91];exact h2,hv⟩

theorem Opds.get{g:Gh}{L:LL}{ρ:Operand→Value}{xs:Array Operand}(h:Opds g L ρ xs){x:Operand}{a:AV}(hx:x∈xs)(ha:opd L x=some a):RepV g a (ρ x):=h x hx a ha
theorem Opds.list{g:Gh}{L:LL}{ρ:Operand→Value}{xs:Array Operand}(h:Opds g L ρ xs):∀(ys:List Operand) (as:List AV),(∀y∈ys,y∈xs)→opds L ys=some as→RepVs g as (ys.map ρ)
 | [],as,_,ha=>by simp only[opds,Option.some.injEq]at ha;subst ha;rfl
 | y::ys,as,hy,ha=>by
  simp only[opds]at ha
  obtain⟨a,h1,ha⟩:=bind_some ha
  obtain⟨as',h2,rfl⟩:=map_some ha
  exact⟨_,_,rfl,h.get (hy y (by simp)) h1,h.list ys as' (fun z hz=>hy z (by simp[hz])) h2⟩

theorem Ep{n:Int}:inR .i64 n↔-9223372036854775808≤n∧n≤9223372036854775807:=by
 have h1:IntKind.i64.min=-9223372036854775808:=by decide
 have h2:IntKind.i64.max=9223372036854775807:=by decide
 simp[inR,h1,h2]
theorem Oy(k:IntKind)(n:Int):inR k (k.wrap n):=by
 cases k<;>simp[inR,IntKind.wrap,IntKind.min,IntKind.max,IntKind.bits,IntKind.signed]<;>(try split)<;>omega
theorem Ml{k:IntKind}{n:Int}(h:inR k n):k.wrap n=n:=by
 revert h
 cases k<;>simp[inR,IntKind.wrap,IntKind.min,IntKind.max,IntKind.bits,IntKind.signed]<;>(intro h1 h2;(try split)<;>omega)
theorem Ap4{k:IntKind}{n:Int}(h:inR k n)(h0:0≤n):n<2 ^ k.bits:=by
 revert h
 cases k<;>simp[inR,IntKind.min,IntKind.max,IntKind.bits,IntKind.signed]<;>omega
theorem Ed{k:IntKind}{n:Int}(h:inR k n)(h0:0≤n):(BitVec.ofInt k.bits n).toNat=n.toNat:=by
 have h1:=Ap4 h h0
 simp only[BitVec.toNat_ofInt]
 rw[Int.emod_eq_of_lt h0 (by simpa using h1)]
theorem A0a{k:IntKind}{a b:Nat}(ha:inR k (a:Int))(hb:inR k (b:Int))(f:Nat→Nat→Nat)(hf:∀n,a<2 ^ n→b<2 ^ n→f a b<2 ^ n):inR k (f a b:Int):=by
 obtain⟨h1,h2⟩:=ha
 obtain⟨h3,h4⟩:=hb
 have key:∀n:Nat,k.max=(2:Int) ^ n-1→inR k (f a b:Int):=by
  intro n hn
  have e:((2 ^ n:Nat):Int)=(2:Int) ^ n:=by simp
  have:=hf n (by omega) (by omega)
  have hm:k.min≤0:=by cases k<;>decide
  exact⟨by omega,by omega⟩
 cases k<;>first | exact key 7 rfl | exact key 15 rfl | exact key 31 rfl | exact key 63 rfl | exact key 8 rfl | exact key 16 rfl | exact key 32 rfl | exact key 64 rfl

theorem Ajw{k:IntKind}{a:Int}(h:inR k a)(n:Nat):inR k (a.fdiv (2 ^ n)):=by
 obtain⟨h1,h2⟩:=h
 have hp:(0:Int)<2 ^ n:=Int.pow_pos (by decide)
 have hm:k.min≤0:=by cases k<;>decide
 have hM:0≤k.max:=by cases k<;>decide
 rw[Int.fdiv_eq_ediv_of_nonneg _ (by omega)]
 by_cases h0:0≤a
 ·have:=Int.ediv_nonneg h0 (Int.le_of_lt hp)
  have:=Int.ediv_le_self (2 ^ n) h0
  exact⟨by omega,by omega⟩
 ·have h3:a / 2 ^ n<0:=Int.ediv_neg_of_neg_of_pos (by omega) hp
  refine⟨?_,by omega⟩
  refine Int.le_trans h1 ((Int.le_ediv_iff_mul_le hp).2 ?_)
  have:a*2 ^ n≤a*1:=Int.mul_le_mul_of_nonpos_left (by omega) (by omega)
  omega
theorem Akb{k:IntKind}{a:Int}(h:inR k a)(b:Int):inR k (a.tmod b):=by
 obtain⟨h1,h2⟩:=h
 have hm:k.min≤0:=by cases k<;>decide
 have hM:0≤k.max:=by cases k<;>decide
 by_cases h0:0≤a
 ·have:=Int.tmod_nonneg b h0
  have h3:(a.tmod b).natAbs≤a.natAbs:=by rw[Int.natAbs_tmod];exact Nat.mod_le _ _
  exact⟨by omega,by omega⟩
 ·have e:a=-(-a):=by omega
  rw[e,Int.neg_tmod]
  have:=Int.tmod_nonneg b (show 0≤-a by omega)
  have h3:((-a).tmod b).natAbs≤(-a).natAbs:=by rw[Int.natAbs_tmod];exact Nat.mod_le _ _
  exact⟨by omega,by omega⟩

theorem A8v(P:Program)(op:BinOp)(t:TypeId)(xo yo:Operand)(k k':IntKind)(a b:Int)(w:World):(eqGuard op t xo yo (.int k a) (.int k' b)).run P w=.ok () w:=by
 cases op<;>rfl
theorem Co(P:Program)(op:BinOp)(t:TypeId)(xo yo:Operand)(a b:Option Addr)(n c m d:Nat)(w:World):(eqGuard op t xo yo (.slice a n c) (.slice b m d)).run P w=.ok () w:=by
 cases op<;>rfl
theorem Ey{P:Program}{t e:TypeId}(he:P.underlying t=some (.slice e))(a:Option Addr)(n c:Nat)(w:World):(Op.equal t (.slice a n c) (.slice none 0 0)).run P w=.ok a.isNone w:=by
 have:∀d,(Op.equalIn (d+1) t (.slice a n c) (.slice none 0 0)).run P w=.ok a.isNone w:=by
  intro d
  cases a<;>simp[Op.equalIn,run_underlying he]
 exact this 9999
theorem An6{P:Program}{op:BinOp}{t:TypeId}{xo yo:Operand}{k k':IntKind}{a b:Int}{w:World}{v:Value}(h:(Go.binOp op t (.int k a) (.int k' b)).run P w=.ok v w) :
  (do eqGuard op t xo yo (.int k a) (.int k' b);Go.binOp op t (.int k a) (.int k' b):Sem Value).run P w=.ok v w:=by
 rw[Sem.run_bind,A8v];exact h
def Bl(P:Program)(t:TypeId)(us:List Value)(v:Value):Prop:=match aggOf P t with
 | some true=>v=.agg us.toArray
 | some false=>us=[v]
 | none=>False
theorem B6{P:Program}{t:TypeId}{n:Nat}(h:szOf P t=some n)(w:World):(sizeOf t).run P w=.ok n w:=by
 unfold szOf at h
 obtain⟨i,hi,rfl⟩:=map_some h
 simp only[sizeOf,Sem.run_bind,Fj hi w,Result.andThen_ok,Sem.run_pure]
theorem A9{P:Program}{t:TypeId}{d:TypeDesc}(h:P.underlying t=some d)(w:World):(underlying t).run P w=.ok d w:=run_underlying h w
theorem Eg{P:Program}{t:TypeId}{ag:Bool}(h:aggOf P t=some ag)(w:World):(isAgg t).run P w=.ok ag w:=by
 unfold aggOf at h
 split at h
 ·rename_i fs he;cases h;simp[isAgg,A9 he]
 ·rename_i n e he;cases h;simp[isAgg,A9 he]
 ·rename_i d h1 h2 he
  cases h
  simp only[isAgg,Sem.run_bind,A9 he,Result.andThen_ok,Sem.run_pure]
 ·cases h
theorem L7{P:Program}{t:TypeId}{n o:Nat}{ag:Bool}{vs us:List Value}(hn:szOf P t=some n)(ha:aggOf P t=some ag)(hl:o+n≤vs.length)(hu:(vs.drop o).take n=us)(h1:ag=false→n=1)(w:World) :
  ∃v,(part t vs.toArray o).run P w=.ok v w∧Bl P t us v:=by
 cases ag with
 | true=>
  refine⟨.agg us.toArray,?_,by simp[Bl,ha]⟩
  simp only[part,Sem.run_bind,Eg ha,Result.andThen_ok,if_true,B6 hn,Sem.run_pure]
  congr 2
  apply Array.ext'
  simp[←hu,List.take_drop,List.extract]
 | false=>
  have:=h1 rfl
  subst this
  have hlt:o<vs.length:=by omega
  refine⟨vs[o],?_,?_⟩
  ·simp[part,Eg ha,hlt]
  ·simp only[Bl,ha]
   rw[←hu,List.drop_eq_getElem_cons hlt];rfl
theorem Ajb{P:Program}:∀(d:Nat) (t:TypeId) (ps qs:List AV) (r:Bool),eqT P d t ps qs=some r→aggOf P t=some false→psz ps=1∧psz qs=1
 | 0,_,_,_,_,h,_=>by simp[eqT]at h
 | d+1,t,ps,qs,r,h,ha=>by
  unfold eqT at h
  split at h
  ·split at h
   ·simp[psz,AV.psz]
   ·cases h
  ·split at h
   ·simp[psz,AV.psz]
   ·cases h
  ·rename_i fs he;simp[aggOf,he]at ha
  ·rename_i n e he;simp[aggOf,he]at ha
  ·cases h
theorem Anj{P:Program}:∀(d:Nat) (t:TypeId) (ps qs:List AV) (r:Bool),eqT P d t ps qs=some r→∃ag,aggOf P t=some ag
 | 0,_,_,_,_,h=>by simp[eqT]at h
 | d+1,t,ps,qs,r,h=>by
  unfold eqT at h
  split at h
  ·rename_i he;exact⟨false,by simp[aggOf,he]⟩
  ·rename_i he;exact⟨false,by simp[aggOf,he]⟩
  ·rename_i fs he;exact⟨true,by simp[aggOf,he]⟩
  ·rename_i n e he;exact⟨true,by simp[aggOf,he]⟩
  ·cases h
theorem Ll{P:Program}{e:TypeId}{k:IntKind}(he:P.underlying e=some (.int k))(hsz:szOf P e=some 1)(d:Nat)(w:World):∀(n j:Nat) (l l':List Int),j+n=l.length→j+n=l'.length →
  (Op.eqItems (d+1) e 1 (l.map fun n=>Value.int k n).toArray (l'.map fun n=>Value.int k n).toArray (List.range' j n)).run P w=.ok (decide (l.drop j=l'.drop j)) w
 | 0,j,l,l',h1,h2=>by
  rw[List.drop_of_length_le (by omega),List.drop_of_length_le (by omega)]
  simp[Op.eqItems]
 | n+1,j,l,l',h1,h2=>by
  have hl:j<l.length:=by omega
  have hl':j<l'.length:=by omega
  have ha:aggOf P e=some false:=by simp[aggOf,he]
  have p1:(part e (l.map fun n=>Value.int k n).toArray (j*1)).run P w=.ok (.int k l[j]) w:=by
   simp[part,Eg ha,hl]
  have p2:(part e (l'.map fun n=>Value.int k n).toArray (j*1)).run P w=.ok (.int k l'[j]) w:=by
   simp[part,Eg ha,hl']
  have q:(Op.equalIn (d+1) e (.int k l[j]) (.int k l'[j])).run P w=.ok (l[j]==l'[j]) w:=by
   rw[run_equalIn_int w d e k k _ _ he]
  have ih:=Ll he hsz d w n (j+1) l l' (by omega) (by omega)
  simp only[List.range'_succ,Op.eqItems,Sem.run_bind,p1,p2,q,Result.andThen_ok]
  rw[List.drop_eq_getElem_cons hl,List.drop_eq_getElem_cons hl']
  by_cases c:l[j]=l'[j]
  ·simp only[c,beq_self_eq_true,Bool.not_true,Bool.false_eq_true,if_false,ih,List.cons.injEq,true_and]
  ·have c':(l[j]==l'[j])=false:=by simpa using c
   simp only[c',Bool.not_false,if_true,Sem.run_pure,List.cons.injEq,c,false_and,decide_false]
theorem Rv{P:Program}{g:Gh}:∀(d:Nat) (t:TypeId) (ps qs:List AV) (r:Bool),eqT P d t ps qs=some r→∀vs us vx vy,A7 g ps vs→A7 g qs us→Bl P t vs vx→Bl P t us vy →
  ∀D w,d≤D→(Op.equalIn D t vx vy).run P w=.ok r w
 | 0,_,_,_,_,h=>by simp[eqT]at h
 | d+1,t,ps,qs,r,h=>by
  intro vs us vx vy hp hq hx hy D w hD
  obtain⟨D,rfl⟩:∃D',D=D'+1:=⟨D-1,by omega⟩
  unfold eqT at h
  split at h
  ·rename_i he
   split at h
   ·rename_i a b
    simp only[Option.some.injEq]at h
    simp only[A7,PartOf,RepV]at hp hq
    obtain⟨_,_,rfl,⟨_,rfl,rfl⟩,rfl⟩:=hp
    obtain⟨_,_,rfl,⟨_,rfl,rfl⟩,rfl⟩:=hq
    simp[Bl,aggOf,he]at hx hy
    subst hx hy
    rw[run_equalIn_bool' w D t a b he,h]
   ·cases h
  ·rename_i k0 he
   split at h
   ·rename_i k a k' b
    split at h
    ·rename_i hk;subst hk
     simp only[Option.some.injEq]at h
     simp only[A7,PartOf,RepV]at hp hq
     obtain⟨_,_,rfl,⟨_,rfl,rfl,_⟩,rfl⟩:=hp
     obtain⟨_,_,rfl,⟨_,rfl,rfl,_⟩,rfl⟩:=hq
     simp[Bl,aggOf,he]at hx hy
     subst hx hy
     rw[run_equalIn_int w D t k k0 a b he,←h]
     rfl
    ·cases h
   ·cases h
  ·rename_i fs he
   split at h
   ·cases h
   ·rename_i hst
    have hst':P.stoodInHeld t=false:=by simpa using hst
    simp[Bl,aggOf,he]at hx hy
    subst hx hy
    have hfo:P.underlying t=some (.struct (P.fieldsOf t)):=by simp[Program.fieldsOf,he]
    rw[run_equalIn_agg w D t _ _ hfo hst']
    have hfe:(P.fieldsOf t).toList=fs.toList:=by simp[Program.fieldsOf,he]
    rw[hfe]
    have ih:=Rv (P:=P) (g:=g) d
    have key:∀(fl:List Field) (o:Nat) (ps qs:List AV) (r:Bool),eqT.eqF P (eqT P d) o fl ps qs=some r→A7 g ps (vs.drop o)→A7 g qs (us.drop o)→(Op.eqFields D vs.toArray us.toArray fl).run P w=.ok r w:=by
     intro fl
     induction fl with
     | nil=>intro o ps qs r h;simp[eqT.eqF]at h
     | cons f fl ihf=>
      intro o ps qs r h hp hq
      simp only[eqT.eqF]at h
      split at h
      ·cases h
      ·rename_i hno
       simp only[not_or,ne_eq,Decidable.not_not]at hno
       obtain⟨hnm,rfl⟩:=hno
       obtain⟨n,hn,h⟩:=bind_some h
       split at h
       ·cases h
       rename_i hn0
       obtain⟨p,hp1,h⟩:=bind_some h
       obtain⟨q,hq1,h⟩:=bind_some h
       obtain⟨a,ha,h⟩:=bind_some h
       obtain⟨lp,rp⟩:=Bh ps n p _ hp1 hp
       obtain⟨lq,rq⟩:=Bh qs n q _ hq1 hq
       obtain⟨ag,hag⟩:=Anj _ _ _ _ _ ha
       have hsz:ag=false→n=1:=fun e=>by
        subst e
        have h1:=(Ajb _ _ _ _ _ ha hag).1
        have h2:=(A7.len _ _ rp).1
        rw[h1,List.length_take]at h2
        omega
       rw[List.length_drop]at lp lq
       obtain⟨va,hva,iva⟩:=L7 (P:=P) (t:=f.type) (n:=n) (o:=f.offset) (vs:=vs) hn hag (by omega) rfl hsz w
       obtain⟨vb,hvb,ivb⟩:=L7 (P:=P) (t:=f.type) (n:=n) (o:=f.offset) (vs:=us) hn hag (by omega) rfl hsz w
       have he2:=ih f.type p q a ha _ _ va vb rp rq iva ivb D w (by omega)
       have step:(Op.eqFields D vs.toArray us.toArray (f::fl)).run P w=if(!a)=true then .ok false w else(Op.eqFields D vs.toArray us.toArray fl).run P w:=by
        simp only[Op.eqFields,ne_eq,hnm,not_false_eq_true,if_true,Sem.run_bind,hva,hvb,he2,Result.andThen_ok,Sem.run_ite,Sem.run_pure]
       rw[step]
       cases fl with
       | nil=>
        simp only[Option.some.injEq]at h
        subst h
        cases a<;>simp[Op.eqFields]
       | cons f2 fl2=>
        obtain⟨ps2,hps2,h⟩:=bind_some h
        obtain⟨qs2,hqs2,h⟩:=bind_some h
        obtain⟨r2,hr2,rfl⟩:=map_some h
        have p2:=(As ps n ps2 _ hps2 hp).2
        have q2:=(As qs n qs2 _ hqs2 hq).2
        rw[List.drop_drop]at p2 q2
        have:=ihf _ ps2 qs2 r2 hr2 p2 q2
        rw[this]
        cases a<;>simp
    exact key fs.toList 0 ps qs r h (by simpa using hp) (by simpa using hq)
  ·rename_i n e he
   split at h
   rotate_left
   ·cases h
   rename_i hc
   obtain⟨hd,rfl,hsz⟩:=hc
   split at h
   rotate_left
   ·cases h
   rename_i k hk
   split at h
   rotate_left
   ·cases h
   rename_i k0 a0 k1 a1 k2 a2 k3 a3 l0 b0 l1 b1 l2 b2 l3 b3
   split at h
   rotate_left
   ·cases h
   rename_i hks
   obtain⟨⟨rfl,rfl,rfl,rfl⟩,rfl,rfl,rfl,rfl⟩:=hks
   simp only[Option.some.injEq]at h
   simp only[A7,PartOf,RepV]at hp hq
   obtain⟨_,_,rfl,⟨_,rfl,rfl,_⟩,_,_,rfl,⟨_,rfl,rfl,_⟩,_,_,rfl,⟨_,rfl,rfl,_⟩,_,_,rfl,⟨_,rfl,rfl,_⟩,rfl⟩:=hp
   obtain⟨_,_,rfl,⟨_,rfl,rfl,_⟩,_,_,rfl,⟨_,rfl,rfl,_⟩,_,_,rfl,⟨_,rfl,rfl,_⟩,_,_,rfl,⟨_,rfl,rfl,_⟩,rfl⟩:=hq
   simp only[Bl,aggOf,he,List.singleton_append,List.append_nil]at hx hy
   subst hx hy
   obtain⟨i,hi,hci⟩:∃i,P.info? e=some i∧i.size=1:=by
    unfold szOf at hsz
    cases hI:P.info? e with
    | none=>rw[hI]at hsz;cases hsz
    | some i=>rw[hI]at hsz;exact⟨i,rfl,by simpa using hsz⟩
   have hcells:P.cellsOf e=1:=by simp[Program.cellsOf,hi,hci]
   obtain⟨D',rfl⟩:∃D',D=D'+1:=⟨D-1,by omega⟩
   rw[run_equalIn_array w (D'+1) _ _ he hi,hcells,List.range_eq_range',←h]
   exact Ll hk hsz D' w 4 0 [a0,a1,a2,a3] [b0,b1,b2,b3] rfl rfl
  ·cases h
def Bin(P:Program)(t:TypeId)(op:BinOp)(x y a:AV):Prop:=∀g vx vy,RepV g x vx→RepV g y vy→∀xo yo w,∃v,(do eqGuard op t xo yo vx vy;Go.binOp op t vx vy:Sem Value).run P w=.ok v w∧RepV g a v
theorem Bin.int{P:Program}{t:TypeId}{op:BinOp}{k k':IntKind}{a b:Int}{r:AV}(h:inR k a→inR k' b→∃v,(∀w,(Go.binOp op t (.int k a) (.int k' b)).run P w=.ok v w)∧∀g,RepV g r v):Bin P t op (.i k a) (.i k' b) r:=by
 intro g vx vy hx hy xo yo w
 simp only[RepV]at hx hy
 obtain⟨rfl,h1⟩:=hx
 obtain⟨rfl,h2⟩:=hy
 obtain⟨v,hr,hv⟩:=h h1 h2
 exact⟨v,An6 (hr w),hv g⟩
theorem Rj{M:Nat→Option Obj}{k:IntKind}:∀(l:List Int) (vs:List Value),RepL M (.int k) l vs→vs=l.map fun n=>Value.int k n
 | [],vs,h=>by simp only[RepL]at h;subst h;rfl
 | x::xs,vs,h=>by
  obtain⟨v1,v2,rfl,⟨rfl,_⟩,h2⟩:=h
  rw[Rj xs v2 h2];rfl
theorem Aq1{P:Program}{t e:TypeId}{k:IntKind}{n:Nat}{l l':List Int}{vs us:List Value}{M M':Nat→Option Obj}(ht:P.underlying t=some (.array n e))(he:P.underlying e=some (.int k))(hsz:szOf P e=some 1)(h1:l.length=n)(h2:l'.length=n)
  (hp:RepL M (.int k) l vs) (hq:RepL M' (.int k) l' us) (w:World):(Op.equalIn 10000 t (.agg vs.toArray) (.agg us.toArray)).run P w=.ok (decide (l=l')) w:=by
 obtain⟨i,hi,hc⟩:∃i,P.info? e=some i∧i.size=1:=by
  unfold szOf at hsz
  cases hI:P.info? e with
  | none=>rw[hI]at hsz;cases hsz
  | some i=>rw[hI]at hsz;exact⟨i,rfl,by simpa using hsz⟩
 have hcells:P.cellsOf e=1:=by simp[Program.cellsOf,hi,hc]
 rw[Rj l vs hp,Rj l' us hq,run_equalIn_array w 9999 _ _ ht hi,hcells,List.range_eq_range']
 have:=Ll he hsz 9998 w n 0 l l' (by omega) (by omega)
 simpa using this
theorem A93{P:Program}{t:TypeId}{op:BinOp}{x y:AV}{Z:Type}{κ:AV→Option Z}{z:Z}(h:evBin P t op x y κ=some z):∃a,κ a=some z∧Bin P t op x y a:=by
 unfold evBin at h
 split at h
 ·rename_i k a k' b
  split at h
  ·-- shl
   obtain⟨hc,h⟩:=Az h
   split at h
   ·rename_i hk;subst hk
    obtain⟨hr,h⟩:=Za h
    refine⟨_,h,Bin.int fun h1 h2=>⟨.int .i64 (a*2 ^ b.toNat),fun w=>?_,fun g=>?_⟩⟩
    ·simp only[decide_eq_true_eq]at hc
     have e:min b.toNat (IntKind.bits .i64)=b.toNat:=by simp[IntKind.bits];omega
     simp only[Go.binOp,Op.shift,if_neg (show ¬b<0 by omega),e,Sem.run_pure]
     rw[Ml (Ep.2 hr)]
    ·exact⟨rfl,Ep.2 hr⟩
   ·cases h
  ·-- shr
   obtain⟨hc,h⟩:=Az h
   simp only[decide_eq_true_eq]at hc
   split at h
   ·rename_i hk
    refine⟨_,h,Bin.int fun h1 h2=>⟨.int k (a.fdiv (2 ^ b.toNat)),fun w=>?_,fun g=>⟨rfl,Ajw h1 _⟩⟩⟩
    have e:min b.toNat k.bits=b.toNat:=by omega
    simp only[Go.binOp,Op.shift,if_neg (show ¬b<0 by omega),e,Sem.run_pure]
   ·cases h
  ·split at h
   ·rename_i hkk;subst hkk
    have hne:¬(k≠k):=by simp
    have arith:∀(o:BinOp) (r:Int),(∀w,(Go.binOp o t (.int k a) (.int k b)).run P w=.ok (.int k (k.wrap r)) w)→∀ {κ:AV→Option Z},(if k=.i64 then chk r (κ (.i k r))else κ (.i k (k.wrap r)))=some z→∃c,κ c=some z∧Bin P t o (.i k a) (.i k b) c:=by
     intro o r hr κ h
     split at h
     ·rename_i hk;subst hk
      obtain⟨hb,h⟩:=Za h
      exact⟨_,h,Bin.int fun _ _=>⟨.int .i64 r,fun w=>by rw[hr w,Ml (Ep.2 hb)],fun g=>⟨rfl,Ep.2 hb⟩⟩⟩
     ·exact⟨_,h,Bin.int fun _ _=>⟨_,hr,fun g=>⟨rfl,Oy k r⟩⟩⟩
    have bits:∀(o:BinOp) (f:Nat→Nat→Nat),(∀w,inR k a→inR k b→0≤a→0≤b→(Go.binOp o t (.int k a) (.int k b)).run P w=.ok (.int k (k.wrap (f a.toNat b.toNat:Nat))) w)→(∀x y n,x<2 ^ n→y<2 ^ n→f x y<2 ^ n) →
      grd (decide (0≤a∧0≤b)) (κ (.i k ((f a.toNat b.toNat:Nat):Int)))=some z→∃c,κ c=some z∧Bin P t o (.i k a) (.i k b) c:=by
     intro o f hr hf h
     obtain⟨hc,h⟩:=Az h
     simp only[decide_eq_true_eq]at hc
     refine⟨_,h,Bin.int fun h1 h2=>?_⟩
     have hin:inR k ((f a.toNat b.toNat:Nat):Int):=A0a (by rwa [Int.toNat_of_nonneg hc.1]) (by rwa [Int.toNat_of_nonneg hc.2]) f (hf _ _)
     exact⟨.int k ((f a.toNat b.toNat:Nat):Int),fun w=>by rw[hr w h1 h2 hc.1 hc.2,Ml hin],fun g=>⟨rfl,hin⟩⟩
    have cmp:∀(o:BinOp) (r:Bool),(∀w,(Go.binOp o t (.int k a) (.int k b)).run P w=.ok (.bool r) w)→κ (.b r)=some z→∃c,κ c=some z∧Bin P t o (.i k a) (.i k b) c:=by
     intro o r hr h
     exact⟨_,h,Bin.int fun _ _=>⟨_,hr,fun g=>rfl⟩⟩
    split at h
    ·exact arith _ (a+b) (fun w=>by simp[Go.binOp,Op.intArith]) h
    ·exact arith _ (a-b) (fun w=>by simp[Go.binOp,Op.intArith]) h
    ·exact arith _ (a*b) (fun w=>by simp[Go.binOp,Op.intArith]) h
    ·obtain⟨hc,h⟩:=Az h
     simp only[Bool.not_eq_true',decide_eq_false_iff_not]at hc
     exact⟨_,h,Bin.int fun _ _=>⟨.int k (k.wrap (a.tdiv b)),fun w=>by simp[Go.binOp,Op.intDiv,hc],fun g=>⟨rfl,Oy _ _⟩⟩⟩
    ·obtain⟨hc,h⟩:=Az h
     simp only[Bool.not_eq_true',decide_eq_false_iff_not]at hc
     exact⟨_,h,Bin.int fun h1 _=>⟨.int k (a.tmod b),fun w=>by simp[Go.binOp,Op.intDiv,hc],fun g=>⟨rfl,Akb h1 b⟩⟩⟩
    ·exact bits _ (· &&& ·) (fun w h1 h2 h3 h4=>by simp[Go.binOp,Op.intBits,Ed h1 h3,Ed h2 h4]) (fun x y n _ hy=>Nat.and_lt_two_pow x hy) h
    ·exact bits _ (· ||| ·) (fun w h1 h2 h3 h4=>by simp[Go.binOp,Op.intBits,Ed h1 h3,Ed h2 h4]) (fun x y n hx hy=>Nat.or_lt_two_pow hx hy) h
    ·exact bits _ (· ^^^ ·) (fun w h1 h2 h3 h4=>by simp[Go.binOp,Op.intBits,Ed h1 h3,Ed h2 h4]) (fun x y n hx hy=>Nat.xor_lt_two_pow hx hy) h
    ·exact cmp _ _ (fun w=>by simp[Go.binOp,Op.intCmp];rfl) h
    ·exact cmp _ _ (fun w=>by simp[Go.binOp,Op.intCmp];rfl) h
    ·exact cmp _ _ (fun w=>by simp[Go.binOp,Op.intCmp]) h
    ·exact cmp _ _ (fun w=>by simp[Go.binOp,Op.intCmp]) h
    ·exact cmp _ _ (fun w=>by simp[Go.binOp,Op.intCmp]) h
    ·exact cmp _ _ (fun w=>by simp[Go.binOp,Op.intCmp]) h
    ·cases h
   ·cases h
 ·rename_i a b
  have eg:∀xo yo w,(eqGuard op t xo yo (.bool a) (.bool b)).run P w=.ok () w:=fun xo yo w=>by cases op<;>rfl
  split at h
  ·rename_i he
   refine⟨_,h,fun g vx vy hx hy xo yo w=>⟨.bool (a==b),?_,rfl⟩⟩
   simp only[RepV]at hx hy;subst hx hy
   simp only[Sem.run_bind,eg,Result.andThen_ok]
   simp[Go.binOp,Op.equal,Op.maxDepth,run_equalIn_bool' w 9999 t a b he]
  ·rename_i he
   refine⟨_,h,fun g vx vy hx hy xo yo w=>⟨.bool (!(a==b)),?_,rfl⟩⟩
   simp only[RepV]at hx hy;subst hx hy
   simp only[Sem.run_bind,eg,Result.andThen_ok]
   simp[Go.binOp,Op.equal,Op.maxDepth,run_equalIn_bool' w 9999 t a b he]
  ·cases h
 ·rename_i ps qs
  split at h
  ·cases h
  ·rename_i hg
   simp only[not_or,Bool.not_eq_true,ne_eq,Decidable.not_not]at hg
   obtain⟨hg',hag⟩:=hg
   have main:∀r,eqT P 9 t ps qs=some r→∀g vx vy,RepV g (.agg ps) vx→RepV g (.agg qs) vy→∃xs ys,vx=.agg xs∧vy=.agg ys∧∀w,(Op.equalIn 10000 t (.agg xs) (.agg ys)).run P w=.ok r w:=by
    intro r hr g vx vy hx hy
    simp only[RepV]at hx hy
    obtain⟨vs,rfl,hp⟩:=hx
    obtain⟨us,rfl,hq⟩:=hy
    refine⟨_,_,rfl,rfl,fun w=>?_⟩
    exact Rv 9 t ps qs r hr vs us _ _ hp hq (by simp[Bl,hag]) (by simp[Bl,hag]) 10000 w (by omega)
   split at h
   ·rename_i r hr
    refine⟨_,h,fun g vx vy hx hy xo yo w=>⟨.bool r,?_,rfl⟩⟩
    obtain⟨xs,ys,rfl,rfl,hm⟩:=main r hr g vx vy hx hy
    simp only[Sem.run_bind,run_eqGuard_agg w _ t xo yo xs ys hg',Result.andThen_ok,run_eql_struct,hm]
   ·rename_i r hr
    refine⟨_,h,fun g vx vy hx hy xo yo w=>⟨.bool (!r),?_,rfl⟩⟩
    obtain⟨xs,ys,rfl,rfl,hm⟩:=main r hr g vx vy hx hy
    simp only[Sem.run_bind,run_eqGuard_agg w _ t xo yo xs ys hg',Result.andThen_ok,run_neq_struct,hm]
   ·cases h
 ·rename_i k n l k' n' l'
  split at h
  rotate_left
  ·cases h
  rename_i m e he
  split at h
  rotate_left
  ·cases h
  rename_i k'' hk''
  split at h
  rotate_left
  ·cases h
  rename_i hc
  obtain⟨rfl,rfl,rfl,rfl,hg',hsz⟩:=hc
  have main:∀g vx vy,RepV g (.arr (.int k) n' l) vx→RepV g (.arr (.int k) n' l') vy→∃xs ys,vx=.agg xs∧vy=.agg ys∧∀w,(Op.equalIn 10000 t (.agg xs) (.agg ys)).run P w=.ok (decide (l=l')) w:=by
   intro g vx vy hx hy
   simp only[RepV]at hx hy
   obtain⟨vs,rfl,h1,hp⟩:=hx
   obtain⟨us,rfl,h2,hq⟩:=hy
   exact⟨_,_,rfl,rfl,fun w=>Aq1 he hk'' hsz h1 h2 hp hq w⟩
  split at h
  ·refine⟨_,h,fun g vx vy hx hy xo yo w=>⟨.bool (decide (l=l')),?_,rfl⟩⟩
   obtain⟨xs,ys,rfl,rfl,hm⟩:=main g vx vy hx hy
   simp only[Sem.run_bind,run_eqGuard_agg w _ t xo yo xs ys hg',Result.andThen_ok,run_eql_struct,hm]
  ·refine⟨_,h,fun g vx vy hx hy xo yo w=>⟨.bool (!decide (l=l')),?_,rfl⟩⟩
   obtain⟨xs,ys,rfl,rfl,hm⟩:=main g vx vy hx hy
   simp only[Sem.run_bind,run_eqGuard_agg w _ t xo yo xs ys hg',Result.andThen_ok,run_neq_struct,hm]
  ·cases h
 ·split at h
  ·rename_i e he
   refine⟨_,h,fun g vx vy hx hy xo yo w=>⟨.bool true,?_,rfl⟩⟩
   simp only[RepV]at hx hy;subst hx hy
   simp only[Sem.run_bind,Co,Result.andThen_ok,Go.binOp,Ey he,Sem.run_pure]
   rfl
  ·rename_i e he
   refine⟨_,h,fun g vx vy hx hy xo yo w=>⟨.bool false,?_,rfl⟩⟩
   simp only[RepV]at hx hy;subst hx hy
   simp only[Sem.run_bind,Co,Result.andThen_ok,Go.binOp,Ey he,Sem.run_pure]
   rfl
  ·cases h
 ·rename_i t' l
  have sh:l≠[]→∀g vx,RepV g (.sl t' l) vx→∃p n c,vx=.slice (some p) n c:=by
   intro hl g vx hx
   simp only[RepV]at hx
   obtain⟨_,a,c,rfl,_,hx⟩:=hx
   rcases hx with hx | ⟨b,o,vs,ty,rfl,_⟩
   ·exact absurd hx hl
   ·exact⟨_,_,_,rfl⟩
  split at h
  ·rename_i e he
   obtain⟨hc,h⟩:=Az h
   refine⟨_,h,fun g vx vy hx hy xo yo w=>⟨.bool false,?_,rfl⟩⟩
   obtain⟨p,n,c,rfl⟩:=sh (by simpa using hc) g vx hx
   simp only[RepV]at hy;subst hy
   simp only[Sem.run_bind,Co,Result.andThen_ok,Go.binOp,Ey he,Sem.run_pure]
   rfl
  ·rename_i e he
   obtain⟨hc,h⟩:=Az h
   refine⟨_,h,fun g vx vy hx hy xo yo w=>⟨.bool true,?_,rfl⟩⟩
   obtain⟨p,n,c,rfl⟩:=sh (by simpa using hc) g vx hx
   simp only[RepV]at hy;subst hy
   simp only[Sem.run_bind,Co,Result.andThen_ok,Go.binOp,Ey he,Sem.run_pure]
   rfl
  ·cases h
 ·cases h
end Go.Proofs.YtfcnhnbnjdccfaaGreat

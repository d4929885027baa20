/-
  Parts of a proof, put together: Sv6, Sv7, Sv8, Sv9, Sv10, Sv11, Sv12, Sv13, Sv14, Sv15, Sv16, Sv17.
  Conditions: none.
-/
import Derived.Test.YtfcnhnbnjdccfaaGreatZa
namespace Go.Proofs.YtfcnhnbnjdccfaaGreat
set_option linter.all false
open Go

section
variable {P:Program} {specs:List Spec} {o:Oper} {L:LL} {H:HH} {Z:Type} {κ:AV→HH→List Nat→List Nat→Option Z} {z:Z}

def OpR(P:Program)(o:Oper)(L:LL)(H:HH)(κ:AV→HH→List Nat→List Nat→Option Z)(z:Z):Prop:=∃v H' rd wr,κ v H' rd wr=some z∧OpS P o L H v H' rd wr

theorem Adw{x:Operand}(hop:o.op=.move x∨o.op=.assign x)(h:((opd L x).bind fun a=>κ a H [] [])=some z):OpR P o L H κ z:=by
 obtain⟨a,ha,h⟩:=bind_some h
 refine⟨a,H,[],[],h,OpS.quiet (by rcases hop with e | e<;>simp[e]) fun g hh w ρ hO _ _=>⟨ρ x,?_,hO.get ?_ ha⟩⟩
 ·rcases hop with e | e<;>simp[execOp,e]
 ·rcases hop with e | e<;>simp[e,Op.operands]
theorem Alv{c a b:Operand}(hop:o.op=.pick c a b)(h:evOp P specs o L H κ=some z):OpR P o L H κ z:=by
 simp only[evOp,hop]at h
 obtain⟨vc,hc,h⟩:=bind_some h
 obtain⟨va,ha,h⟩:=bind_some h
 obtain⟨vb,hb,h⟩:=bind_some h
 split at h
 ·rename_i bc
  rcases Vu h with⟨rfl,h⟩ | ⟨rfl,h⟩
  ·refine⟨va,H,[],[],h,OpS.quiet (by simp[hop]) fun g hh w ρ hO _ _=>⟨ρ a,?_,hO.get (by simp[hop,Op.operands]) ha⟩⟩
   have:=hO.get (x:=c) (by simp[hop,Op.operands]) hc
   simp only[RepV]at this
   simp[execOp,hop,this,asBool]
  ·refine⟨vb,H,[],[],h,OpS.quiet (by simp[hop]) fun g hh w ρ hO _ _=>⟨ρ b,?_,hO.get (by simp[hop,Op.operands]) hb⟩⟩
   have:=hO.get (x:=c) (by simp[hop,Op.operands]) hc
   simp only[RepV]at this
   simp[execOp,hop,this,asBool]
 ·cases h
theorem Ais{g:Gh}{h:Nat→Option Blk'}{w:World}{id:Nat}{t:Ty}{l:List t.den}{v:Value}(hs:Sim g h w)(hb:h id=some (.lst t l))(hl:l≠[])(hv:RepV g (.ols id) v):∃p n c,v=.slice (some p) n c:=by
 have hB:=hs.blk id _ hb
 simp only[RepBlk]at hB
 simp only[RepV]at hv
 rcases hv with⟨e,_⟩ | ⟨b,c,n,_,rfl⟩
 ·rcases hB.2 with⟨_,h0⟩ | ⟨b,c,vs,rest,ty,e2,_⟩
  ·exact absurd h0 hl
  ·rw[e]at e2;cases e2
 ·exact⟨_,_,_,rfl⟩
theorem Aoc{op:BinOp}{t yt:TypeId}{x y:Operand}(hop:o.op=.binOp op t x y yt)(h:evOp P specs o L H κ=some z):OpR P o L H κ z:=by
 simp only[evOp,hop]at h
 obtain⟨vx,hx,h1⟩:=bind_some h
 clear h
 obtain⟨vy,hy,h⟩:=bind_some h1
 clear h1
 have fin:∀(ρ:Operand→Value) w v,(do eqGuard op t x y (ρ x) (ρ y);Go.binOp op t (ρ x) (ρ y):Sem Value).run P w=.ok v w→(execOp ρ o).run P w=.ok (.value v) w:=by
  intro ρ w v hr
  simp only[execOp,hop]
  have:=congrArg (fun r=>Result.andThen r fun v w=>Sem.run P (pure (Next.value v)) w) hr
  rw[←Sem.run_bind]at this
  simpa [Result.andThen]using this
 have quiet:(∃a,κ a H [] []=some z∧Bin P t op vx vy a)→OpR P o L H κ z:=by
  rintro ⟨a,h,hB⟩
  refine⟨a,H,[],[],h,OpS.quiet (by simp[hop]) fun g hh w ρ hO _ _=>?_⟩
  obtain⟨v,hr,hv⟩:=hB g _ _ (hO.get (x:=x) (by simp[hop,Op.operands]) hx) (hO.get (x:=y) (by simp[hop,Op.operands]) hy) x y w
  exact⟨v,fin ρ w v hr,hv⟩
 split at h
 ·rename_i _ _ _ _ a b _
  exact quiet ⟨_,h,Bin.int fun _ _=>⟨.int .i64 (IntKind.i64.wrap (a-b)),fun w=>by simp[Go.binOp,Op.intArith],fun g=>⟨rfl,Oy _ _⟩⟩⟩
 ·rename_i op _ _ _ _ id
  have main:∀(tt:Ty) (l:List tt.den) (e:TypeId) (r:Bool),H[id]?=some (.lst tt l)→P.underlying t=some (.slice e)→grd (!l.isEmpty) (κ (.b r) H [id] [])=some z→(op=.eql∧r=false∨op=.neq∧r=true)→OpR P o L H κ z:=by
   intro tt l e r hH he h1 hr
   obtain⟨hc,h2⟩:=Az h1
   refine⟨_,H,[id],[],h2,OpS.quiet (by simp[hop]) fun g hh w ρ hO hs hrd=>⟨.bool r,?_,rfl⟩⟩
   have hlt:id<H.length:=(List.getElem?_eq_some_iff.1 hH).1
   obtain⟨p,n,c,ex⟩:=Ais hs ((hrd id (by simp) hlt).trans hH) (by simpa using hc) (hO.get (x:=x) (by simp[hop,Op.operands]) hx)
   have ey:=hO.get (x:=y) (by simp[hop,Op.operands]) hy
   simp only[RepV]at ey
   refine fin ρ w _ ?_
   rw[ex,ey]
   rcases hr with⟨rfl,rfl⟩ | ⟨rfl,rfl⟩<;>(simp only[Sem.run_bind,Co,Result.andThen_ok,Go.binOp,Ey he,Sem.run_pure];rfl)
  split at h
  ·rename_i hH he;exact main _ _ _ _ hH he h (.inl ⟨rfl,rfl⟩)
  ·rename_i hH he;exact main _ _ _ _ hH he h (.inr ⟨rfl,rfl⟩)
  ·cases h
 ·exact quiet (A93 h)
theorem Aq3{op:UnOp}{t:TypeId}{x:Operand}(hop:o.op=.unOp op t x)(h:evOp P specs o L H κ=some z):OpR P o L H κ z:=by
 simp only[evOp,hop]at h
 obtain⟨vx,hx,h1⟩:=bind_some h
 clear h
 split at h1
 ·rename_i c
  refine⟨_,H,[],[],h1,OpS.quiet (by simp[hop]) fun g hh w ρ hO _ _=>⟨.bool (!c),?_,rfl⟩⟩
  have:=hO.get (x:=x) (by simp[hop,Op.operands]) hx
  simp only[RepV]at this
  simp[execOp,hop,this,Op.unary]
 ·rename_i n
  obtain⟨hc,h2⟩:=Za h1
  refine⟨_,H,[],[],h2,OpS.quiet (by simp[hop]) fun g hh w ρ hO _ _=>⟨.int .i64 (0-n),?_,rfl,Ep.2 hc⟩⟩
  have:=hO.get (x:=x) (by simp[hop,Op.operands]) hx
  simp only[RepV]at this
  simp[execOp,hop,this.1,Op.unary,Op.intArith,Ml (Ep.2 hc)]
  have:=Ml (Ep.2 hc)
  simpa using this
 ·cases h1
theorem Abq{s t:TypeId}{x:Operand}(hop:o.op=.convert s t x)(h:evOp P specs o L H κ=some z):OpR P o L H κ z:=by
 simp only[evOp,hop]at h
 split at h
 ·cases h
 rename_i hs
 obtain⟨ds,hds⟩:∃d,P.underlying s=some d:=by
  cases e:P.underlying s with
  | none=>simp[e]at hs
  | some d=>exact⟨d,rfl⟩
 obtain⟨vx,hx,h⟩:=bind_some h
 split at h
 ·rename_i k k' n hd
  have run:∀w,(Go.convert s t (.int k' n)).run P w=.ok (.int k (k.wrap n)) w:=by
   intro w
   simp only[Go.convert,Sem.run_bind,A9 hds,A9 hd,Result.andThen_ok]
   simp[Conv.intToInt]
  split at h
  ·rename_i hk;subst hk
   refine⟨_,H,[],[],h,OpS.quiet (by simp[hop]) fun g hh w ρ hO _ _=>?_⟩
   have:=hO.get (x:=x) (by simp[hop,Op.operands]) hx
   simp only[RepV]at this
   refine⟨.int k n,?_,rfl,this.2⟩
   simp[execOp,hop,this.1,run,Ml this.2]
  ·refine⟨_,H,[],[],h,OpS.quiet (by simp[hop]) fun g hh w ρ hO _ _=>?_⟩
   have:=hO.get (x:=x) (by simp[hop,Op.operands]) hx
   simp only[RepV]at this
   refine⟨.int k (k.wrap n),?_,rfl,Oy k n⟩
   simp[execOp,hop,this.1,run]
 ·cases h
theorem RepVs.get{g:Gh}:∀(as:List AV) (vs:List Value) (n:Nat) (a:AV),RepVs g as vs→as[n]?=some a→∃v,vs[n]?=some v∧RepV g a v
 | b::bs,_,0,a,h,hn=>by
  simp only[RepVs]at h
  obtain⟨v,us,rfl,hv,_⟩:=h
  simp at hn;subst hn;exact⟨v,rfl,hv⟩
 | b::bs,_,n+1,a,h,hn=>by
  simp only[RepVs]at h
  obtain⟨v,us,rfl,_,h⟩:=h
  obtain⟨u,h1,h2⟩:=RepVs.get bs us n a h (by simpa using hn)
  exact⟨u,by simpa using h1,h2⟩
theorem Aaa{n:Nat}{x:Operand}(hop:o.op=.extract x n)(h:evOp P specs o L H κ=some z):OpR P o L H κ z:=by
 simp only[evOp,hop]at h
 obtain⟨vx,hx,h⟩:=bind_some h
 split at h
 ·rename_i vs
  obtain⟨a,ha,h⟩:=bind_some h
  refine⟨a,H,[],[],h,OpS.quiet (by simp[hop]) fun g hh w ρ hO _ _=>?_⟩
  have:=hO.get (x:=x) (by simp[hop,Op.operands]) hx
  simp only[RepV]at this
  obtain⟨us,e,hu⟩:=this
  obtain⟨v,hv,hr⟩:=RepVs.get vs us n a hu ha
  refine⟨v,?_,hr⟩
  simp[execOp,hop,e,Instr.extract,hv]
 ·cases h
theorem A74{x:Operand}(hop:o.op=.nilCheck x)(h:evOp P specs o L H κ=some z):OpR P o L H κ z:=by
 simp only[evOp,hop]at h
 obtain⟨vx,hx,h⟩:=bind_some h
 have main:(∀g v,RepV g vx v→(∃p,v=.pointer (some p))∨∃f a c,v=.func (.func f) a c)→κ vx H [] []=some z→OpR P o L H κ z:=by
  intro hv h
  refine⟨vx,H,[],[],h,OpS.quiet (by simp[hop]) fun g hh w ρ hO _ _=>?_⟩
  have hr:=hO.get (x:=x) (by simp[hop,Op.operands]) hx
  refine⟨ρ x,?_,hr⟩
  rcases hv g _ hr with⟨p,e⟩ | ⟨f,a,c,e⟩<;>simp[execOp,hop,e]
 split at h
 ·exact main (fun g v hv=>by simp only[RepV]at hv;obtain⟨b,c,n,_,rfl⟩:=hv;exact .inl ⟨_,rfl⟩) h
 ·exact main (fun g v hv=>by simp only[RepV]at hv;obtain⟨b,c,n,_,rfl⟩:=hv;exact .inl ⟨_,rfl⟩) h
 ·exact main (fun g v hv=>by simp only[RepV]at hv;obtain⟨b,o,vs,ty,us,rfl,_⟩:=hv;exact .inl ⟨_,rfl⟩) h
 ·exact main (fun g v hv=>by simp only[RepV]at hv;obtain⟨b,o,vs,ty,us,rfl,_⟩:=hv;exact .inl ⟨_,rfl⟩) h
 ·exact main (fun g v hv=>by simp only[RepV]at hv;obtain⟨va,vc,rfl,_⟩:=hv;exact .inr ⟨_,_,_,rfl⟩) h
 ·exact main (fun g v hv=>by simp only[RepV]at hv;obtain⟨b,o,vs,ty,rfl,_⟩:=hv;exact .inl ⟨_,rfl⟩) h
 ·cases h
theorem A69{f:FuncId}{a c:Array Operand}(hop:o.op=.makeFunc (.func f) a c)(h:evOp P specs o L H κ=some z):OpR P o L H κ z:=by
 simp only[evOp,hop]at h
 obtain⟨va,ha,h⟩:=bind_some h
 obtain⟨vc,hc,h⟩:=bind_some h
 refine⟨_,H,[],[],h,OpS.quiet (by simp[hop]) fun g hh w ρ hO _ _=>⟨.func (.func f) (a.map ρ) (c.map ρ),?_,?_⟩⟩
 ·simp only[execOp,hop,Instr.makeFunc,Sem.run_bind,Sem.run_pure,Result.andThen_ok]
 ·simp only[RepV]
  refine⟨a.toList.map ρ,c.toList.map ρ,by rw[←Array.toList_map,←Array.toList_map],hO.list _ _ (fun y hy=>?_) ha,hO.list _ _ (fun y hy=>?_) hc⟩
  ·simp only[hop,Op.operands,Array.mem_append];exact .inl (by simpa using hy)
  ·simp only[hop,Op.operands,Array.mem_append];exact .inr (by simpa using hy)
theorem Y9{t:TypeId}{f:Nat}{r:Nat×TypeId}(h:fldOf P t f=some r):∃fs fd,P.underlying t=some (.struct fs)∧fs[f]?=some fd∧fd.offset=r.1∧fd.type=r.2:=by
 unfold fldOf at h
 split at h
 ·rename_i fs he
  obtain⟨fd,h1,rfl⟩:=map_some h
  exact⟨fs,fd,he,h1,rfl,rfl⟩
 ·cases h
theorem A46{t:TypeId}{f:Nat}{x:Operand}(hop:o.op=.fieldAddr t x f)(h:evOp P specs o L H κ=some z):OpR P o L H κ z:=by
 simp only[evOp,hop]at h
 obtain⟨vx,hx,h⟩:=bind_some h
 obtain⟨fd,hf,h⟩:=bind_some h
 obtain⟨n,hn,h⟩:=bind_some h
 split at h
 ·cases h
 rename_i hn0
 obtain⟨fs,fld,he,hfs,ho,hty⟩:=Y9 hf
 have run:∀(b q:Nat) w,(Instr.fieldAt t (.pointer (some ⟨b,q,none⟩)) f).run P w=.ok (.pointer (some ⟨b,q+fd.1,none⟩)) w:=by
  intro b q w
  simp only[Instr.fieldAt,Instr.sureAddr,Sem.run_bind,A9 he,Result.andThen_ok,hfs,Sem.run_pure,fieldPlace,hty,B6 hn,if_neg hn0,Aw,ho]
 have main:∀(a':AV),(∀g v,RepV g vx v→∃b q,v=.pointer (some ⟨b,q,none⟩)∧RepV g a' (.pointer (some ⟨b,q+fd.1,none⟩)))→κ a' H [] []=some z→OpR P o L H κ z:=by
  intro a' hv h
  refine⟨a',H,[],[],h,OpS.quiet (by simp[hop]) fun g hh w ρ hO _ _=>?_⟩
  have hr:=hO.get (x:=x) (by simp[hop,Op.operands]) hx
  obtain⟨b,q,e,hr'⟩:=hv g _ hr
  exact⟨_,by simp[execOp,hop,e,run],hr'⟩
 split at h
 ·exact main _ (fun g v hv=>by simp only[RepV]at hv ⊢;obtain⟨b,c,n,e,rfl⟩:=hv;exact⟨b,_,rfl,b,c,n,e,rfl⟩) h
 ·exact main _ (fun g v hv=>by simp only[RepV]at hv ⊢;obtain⟨b,c,n,e,rfl⟩:=hv;exact⟨b,_,rfl,b,c,n,e,by rw[Nat.add_assoc]⟩) h
 ·exact main _ (fun g v hv=>by
   simp only[RepV]at hv ⊢;obtain⟨b,q,vs,ty,us,rfl,e⟩:=hv
   exact⟨b,_,rfl,b,q,vs,ty,us,by rw[Nat.add_assoc],e⟩) h
 ·exact main _ (fun g v hv=>by
   simp only[RepV]at hv ⊢;obtain⟨b,q,vs,ty,us,rfl,e⟩:=hv
   exact⟨b,_,rfl,b,q,vs,ty,us,by rw[Nat.add_assoc],e⟩) h
 ·exact main _ (fun g v hv=>by
   simp only[RepV]at hv ⊢;obtain⟨b,q,vs,ty,rfl,e⟩:=hv
   exact⟨b,_,rfl,b,q,vs,ty,by rw[Nat.add_assoc],e⟩) h
 ·cases h
theorem L8{g:Gh}{t:TypeId}{ag:Bool}{ps:List AV}{a:AV}{us:List Value}{v:Value}(hv:valOf ag ps=some a)(hp:A7 g ps us)(ha:aggOf P t=some ag)(h:Bl P t us v):RepV g a v:=by
 obtain⟨u,hu,h1,h2⟩:=Y4 hv hp
 cases ag with
 | true=>simp only[Bl,ha]at h;rw[h,←h1 rfl];exact hu
 | false=>
  simp only[Bl,ha]at h
  have:=h2 rfl
  rw[h]at this
  simp at this
  rw[this];exact hu
theorem Sg{g:Gh}{ps:List AV}{a:AV}{us:List Value}(hv:valOf false ps=some a)(hp:A7 g ps us):us.length=1:=by
 obtain⟨u,_,_,h⟩:=Y4 hv hp
 rw[h rfl];rfl
theorem Aio{t:TypeId}{f:Nat}{x:Operand}(hop:o.op=.field t x f)(h:evOp P specs o L H κ=some z):OpR P o L H κ z:=by
 simp only[evOp,hop]at h
 obtain⟨vx,hx,h1⟩:=bind_some h
 obtain⟨fd,hf,h2⟩:=bind_some h1
 obtain⟨n,hn,h3⟩:=bind_some h2
 obtain⟨ag,ha,h4⟩:=bind_some h3
 clear h h1 h2 h3
 obtain⟨fs,fld,he,hfs,ho,hty⟩:=Y9 hf
 split at h4
 ·rename_i ps
  obtain⟨a,h1,h⟩:=bind_some h4
  obtain⟨r,hr,h1⟩:=bind_some h1
  obtain⟨q,hq,h1⟩:=bind_some h1
  refine⟨a,H,[],[],h,OpS.quiet (by simp[hop]) fun g hh w ρ hO _ _=>?_⟩
  have hv:=hO.get (x:=x) (by simp[hop,Op.operands]) hx
  simp only[RepV]at hv
  obtain⟨vs,e,hp⟩:=hv
  obtain⟨l1,p1⟩:=As ps fd.1 r vs hr hp
  obtain⟨l2,p2⟩:=Bh r n q _ hq p1
  rw[List.length_drop]at l2
  obtain⟨v,hrun,hiv⟩:=L7 (P:=P) hn ha (o:=fd.1) (vs:=vs) (by omega) rfl (fun e=>by subst e;have:=Sg h1 p2;rw[List.length_take,List.length_drop]at this;omega) w
  refine⟨v,?_,L8 h1 p2 ha hiv⟩
  simp only[execOp,hop,e,Instr.field,Sem.run_bind,A9 he,Result.andThen_ok,hfs,asAgg,hty,ho,hrun,Sem.run_pure]
 ·cases h4
theorem A7a{w:World}{t:TypeId}{n b o:Nat}{ag:Bool}{us:List Value}(hn:szOf P t=some n)(ha:aggOf P t=some ag)(hl:us.length=n)(h1:ag=false→n=1)(hr:Row w ⟨b,o,none⟩ us) :
  ∃v,(Instr.loadAt t (.pointer (some ⟨b,o,none⟩))).run P w=.ok v w∧Bl P t us v:=by
 cases ag with
 | true=>
  have hlc:=Ej (P:=P) hr
  rw[hl]at hlc
  refine⟨.agg us.toArray,?_,by simp[Bl,ha]⟩
  simp only[Instr.loadAt,Instr.sureAddr,loadVar,Sem.run_bind,Sem.run_pure,Result.andThen_ok,Eg ha,if_true,B6 hn,hlc]
 | false=>
  have:=h1 rfl
  subst this
  obtain⟨v,rfl⟩:∃v,us=[v]:=by
   match us,hl with
   | [v],_=>exact⟨v,rfl⟩
  have hc:=hr 0 v rfl
  rw[Aw,Nat.add_zero]at hc
  refine⟨v,?_,by simp[Bl,ha]⟩
  simp[Instr.loadAt,Instr.sureAddr,loadVar,Eg ha,load,Sem.run,hc,Result.andThen]
theorem Ame{t:TypeId}{x:Operand}(hop:o.op=.load t x)(h:evOp P specs o L H κ=some z):OpR P o L H κ z:=by
 simp only[evOp,hop]at h
 obtain⟨vx,hx,h1⟩:=bind_some h
 obtain⟨n,hn,h2⟩:=bind_some h1
 obtain⟨ag,ha,h3⟩:=bind_some h2
 clear h h1 h2
 have fin:∀(a:AV) (rd:List Nat),(∀(g:Gh) (hh:Nat→Option Blk') (w:World),Sim g hh w→(∀id∈rd,id<H.length→hh id=H[id]?)→∀v,RepV g vx v →
   ∃b q us ps,v=.pointer (some ⟨b,q,none⟩)∧us.length=n∧Row w ⟨b,q,none⟩ us∧A7 g ps us∧valOf ag ps=some a)→κ a H rd []=some z→OpR P o L H κ z:=by
  intro a rd hv h
  refine⟨a,H,rd,[],h,OpS.quiet (by simp[hop]) fun g hh w ρ hO hs hrd=>?_⟩
  obtain⟨b,q,us,ps,e,hl,hrow,hp,hval⟩:=hv g hh w hs hrd _ (hO.get (x:=x) (by simp[hop,Op.operands]) hx)
  obtain⟨v,hrun,hiv⟩:=A7a hn ha hl (fun e=>by subst e;have:=Sg hval hp;omega) hrow
  refine⟨v,?_,L8 hval hp ha hiv⟩
  simp[execOp,hop,e,hrun]
 split at h3
 ·rename_i id base
  split at h3
  ·rename_i ps hb
   obtain⟨a,h1,h⟩:=bind_some h3
   obtain⟨r,hr,h1⟩:=bind_some h1
   obtain⟨q,hq,h1⟩:=bind_some h1
   refine fin a [id] (fun g hh w hs hrd v hv=>?_) h
   have hid:=hrd id (by simp) (List.getElem?_eq_some_iff.1 hb).1
   rw[hb]at hid
   obtain⟨b,c,m,vs,ty,e1,e2,hp,_⟩:=hs.blk id _ hid
   simp only[RepV]at hv
   obtain⟨b',c',m',e3,rfl⟩:=hv
   rw[e1]at e3;cases e3
   obtain⟨l1,p1⟩:=As ps base r vs hr hp
   obtain⟨l2,p2⟩:=Bh r n q _ hq p1
   rw[List.length_drop]at l2
   refine⟨b,base,(vs.drop base).take n,q,rfl,by rw[List.length_take,List.length_drop];omega,?_,p2,h1⟩
   exact Seg.row e2 (fun j u hj=>by
    rw[List.getElem?_take]at hj
    split at hj
    ·simpa using hj
    ·cases hj)
  ·rename_i ps hb
   obtain⟨a,h1,h⟩:=bind_some h3
   obtain⟨r,hr,h1⟩:=bind_some h1
   obtain⟨q,hq,h1⟩:=bind_some h1
   refine fin a [id] (fun g hh w hs hrd v hv=>?_) h
   have hid:=hrd id (by simp) (List.getElem?_eq_some_iff.1 hb).1
   rw[hb]at hid
   obtain⟨b,c,m,vs,ty,e1,e2,hp⟩:=hs.blk id _ hid
   simp only[RepV]at hv
   obtain⟨b',c',m',e3,rfl⟩:=hv
   rw[e1]at e3;cases e3
   obtain⟨l1,p1⟩:=As ps base r vs hr hp
   obtain⟨l2,p2⟩:=Bh r n q _ hq p1
   rw[List.length_drop]at l2
   refine⟨b,base,(vs.drop base).take n,q,rfl,by rw[List.length_take,List.length_drop];omega,?_,p2,h1⟩
   exact Seg.row (hs.mem b _ e2) (fun j u hj=>by
    rw[List.getElem?_take]at hj
    split at hj
    ·simpa using hj
    ·cases hj)
  ·cases h3
 ·rename_i y xv j
  obtain⟨a,h1,h⟩:=bind_some h3
  obtain⟨r,hr,h1⟩:=bind_some h1
  obtain⟨q,hq,h1⟩:=bind_some h1
  refine fin a [] (fun g hh w hs hrd v hv=>?_) h
  simp only[RepV]at hv
  obtain⟨b,off,vs,ty,us,rfl,hM,hseg,hc⟩:=hv
  have hp:=A7.avs y xv us hc
  obtain⟨l1,p1⟩:=As _ j r us hr hp
  obtain⟨l2,p2⟩:=Bh r n q _ hq p1
  rw[List.length_drop]at l2
  refine⟨b,off+j,(us.drop j).take n,q,rfl,by rw[List.length_take,List.length_drop];omega,?_,p2,h1⟩
  refine Seg.row (hs.mem b _ hM) (hseg.trans (fun i u hi=>?_))
  rw[List.getElem?_take]at hi
  split at hi
  ·simpa using hi
  ·cases hi
 ·rename_i ps0 j
  obtain⟨a,h1,h⟩:=bind_some h3
  obtain⟨r,hr,h1⟩:=bind_some h1
  obtain⟨q,hq,h1⟩:=bind_some h1
  refine fin a [] (fun g hh w hs hrd v hv=>?_) h
  simp only[RepV]at hv
  obtain⟨b,off,vs,ty,us,rfl,hM,hseg,hp⟩:=hv
  obtain⟨l1,p1⟩:=As _ j r us hr hp
  obtain⟨l2,p2⟩:=Bh r n q _ hq p1
  rw[List.length_drop]at l2
  refine⟨b,off+j,(us.drop j).take n,q,rfl,by rw[List.length_take,List.length_drop];omega,?_,p2,h1⟩
  refine Seg.row (hs.mem b _ hM) (hseg.trans (fun i u hi=>?_))
  rw[List.getElem?_take]at hi
  split at hi
  ·simpa using hi
  ·cases hi
 ·rename_i y l k j
  obtain⟨xv,hxv,h4⟩:=get_some h3
  obtain⟨a,h1,h⟩:=bind_some h4
  obtain⟨r,hr,h1⟩:=bind_some h1
  obtain⟨q,hq,h1⟩:=bind_some h1
  refine fin a [] (fun g hh w hs hrd v hv=>?_) h
  simp only[RepV]at hv
  obtain⟨b,off,vs,ty,rfl,hM,hx⟩:=hv
  obtain⟨us,hseg,hc⟩:=hx k xv hxv
  have hp:=A7.avs y xv us hc
  obtain⟨l1,p1⟩:=As _ j r us hr hp
  obtain⟨l2,p2⟩:=Bh r n q _ hq p1
  rw[List.length_drop]at l2
  refine⟨b,off+k*y.cells+j,(us.drop j).take n,q,rfl,by rw[List.length_take,List.length_drop];omega,?_,p2,h1⟩
  refine Seg.row (hs.mem b _ hM) (hseg.trans (fun i u hi=>?_))
  rw[List.getElem?_take]at hi
  split at hi
  ·simpa using hi
  ·cases hi
 ·rename_i id base k c j
  split at h3
  ·rename_i y l harr
   split at h3
   ·rename_i hc;subst hc
    obtain⟨xv,hxv,h4⟩:=get_some h3
    obtain⟨a,h1,h⟩:=bind_some h4
    obtain⟨r,hr,h1⟩:=bind_some h1
    obtain⟨q,hq,h1⟩:=bind_some h1
    refine fin a [id] (fun g hh w hs hrd v hv=>?_) h
    simp only[RepV]at hv
    obtain⟨b,c',m',e3,rfl⟩:=hv
    -- the list's cells
    have key:∃vs ty q0 us,w.heap[b]?=some (.cells (List.toArray vs) ty (0,0))∧RepL g.M y l us∧Seg vs q0 us∧q0=base:=by
     unfold arrAt at harr
     split at harr
     ·rename_i t' l' hb
      have hid:=hrd id (by simp) (List.getElem?_eq_some_iff.1 hb).1
      rw[hb]at hid
      split at harr
      ·rename_i h0
       simp only[Option.some.injEq,Sigma.mk.injEq]at harr
       obtain⟨rfl,hl⟩:=harr
       have hl:=eq_of_heq hl
       subst hl
       obtain⟨_,hB⟩:=hs.blk id _ hid
       rcases hB with⟨e,rfl⟩ | ⟨b2,c2,vs,rest,ty,e1,e2,hL,_⟩
       ·simp at hxv
       ·rw[e1]at e3;cases e3
        exact⟨vs++rest,ty,0,vs,e2,hL,(Seg.refl vs).left rest,h0.symm⟩
      ·cases harr
     ·rename_i ps hb
      have hid:=hrd id (by simp) (List.getElem?_eq_some_iff.1 hb).1
      rw[hb]at hid
      split at harr
      ·rename_i t' n' l' ps' hsk
       simp only[Option.some.injEq,Sigma.mk.injEq]at harr
       obtain⟨rfl,hl⟩:=harr
       have hl:=eq_of_heq hl
       subst hl
       obtain⟨b2,c2,m2,vs,ty,e1,e2,hp,_⟩:=hs.blk id _ hid
       rw[e1]at e3;cases e3
       obtain⟨l1,p1⟩:=As ps base _ vs hsk hp
       simp only[A7,PartOf]at p1
       obtain⟨v1,v2,e4,⟨_,hL⟩,_⟩:=p1
       refine⟨vs,ty,base,v1,e2,hL,fun i u hi=>?_,rfl⟩
       have:(vs.drop base)[i]?=some u:=by rw[e4,List.getElem?_append_left (List.getElem?_eq_some_iff.1 hi).1];exact hi
       simpa using this
      ·cases harr
     ·cases harr
    obtain⟨vs,ty,q0,us,e2,hL,hseg,rfl⟩:=key
    obtain⟨ws,hsg,hC⟩:=RepL.get l us k xv hL hxv
    have hp:=A7.avs y xv ws hC
    obtain⟨l1,p1⟩:=As _ j r ws hr hp
    obtain⟨l2,p2⟩:=Bh r n q _ hq p1
    rw[List.length_drop]at l2
    refine⟨b,q0+k*y.cells+j,(ws.drop j).take n,q,rfl,by rw[List.length_take,List.length_drop];omega,?_,p2,h1⟩
    refine Seg.row e2 ((hseg.trans hsg).trans (fun i u hi=>?_))
    rw[List.getElem?_take]at hi
    split at hi
    ·simpa using hi
    ·cases hi
   ·cases h3
  ·cases h3
 ·cases h3
end
end Go.Proofs.YtfcnhnbnjdccfaaGreat

namespace Go.Proofs.YtfcnhnbnjdccfaaGreat
set_option linter.all false
open Go
theorem S7{g:Gh}{w:World}{id:Nat}{t:Ty}{l:List t.den}{v:Value}(h:RepBlk g w id (.frz t l))(hv:RepV g (.ols id) v):RepS g.M t.cells (RepC g.M t) l v:=by
 simp only[RepV]at hv
 obtain⟨hl,h⟩:=h
 refine⟨by omega,?_⟩
 rcases h with⟨e,rfl⟩ | ⟨b,c,vs,rest,ty,e,hM,hL,hc⟩
 ·rcases hv with⟨_,rfl⟩ | ⟨b,c,n,e2,rfl⟩
  ·exact⟨none,0,rfl,Nat.le_refl _,.inl rfl⟩
  ·rw[e]at e2;cases e2
 ·rcases hv with⟨e2,rfl⟩ | ⟨b2,c2,n,e2,rfl⟩
  ·rw[e]at e2;cases e2
  ·rw[e]at e2;cases e2
   refine⟨some ⟨b,0,none⟩,c,rfl,hc,.inr ⟨b,0,vs++rest,ty,rfl,hM,fun i x hi=>?_⟩⟩
   obtain⟨us,hs,hC⟩:=RepL.get l vs i x hL hi
   exact⟨us,by rw[Nat.zero_add];exact hs.left rest,hC⟩

section
variable {P:Program} {specs:List Spec} {o:Oper} {L:LL} {H:HH} {Z:Type} {κ:AV→HH→List Nat→List Nat→Option Z} {z:Z}

theorem Og{t e:TypeId}{y:Ty}{b off n c:Nat}{kd:IntKind}{i:Int}(he:P.underlying t=some (.slice e))(hsz:szOf P e=some y.cells)(h0:0≤i)(hi:i<n)(w:World) :
  (Instr.indexAt t (.slice (some ⟨b,off,none⟩) n c) (.int kd i)).run P w=.ok (.pointer (some ⟨b,off+i.toNat*y.cells,none⟩)) w:=by
 have h1:0≤i∧i<(n:Int):=⟨h0,hi⟩
 simp[Instr.indexAt,asIntOf,A9 he,B6 hsz,h1,Aw]
theorem Iw{t e:TypeId}{n es b off:Nat}{kd:IntKind}{i:Int}(he:P.underlying t=some (.array n e))(hsz:szOf P e=some es)(h0:0≤i)(hi:i<n)(w:World) :
  (Instr.indexAt t (.pointer (some ⟨b,off,none⟩)) (.int kd i)).run P w=.ok (.pointer (some ⟨b,off+i.toNat*es,none⟩)) w:=by
 have h1:0≤i∧i<(n:Int):=⟨h0,hi⟩
 simp[Instr.indexAt,Instr.sureAddr,asIntOf,A9 he,B6 hsz,h1,Aw]
theorem Vj(a m:Nat):scal a m=a*m:=by unfold scal;split<;>simp_all
theorem Mo{es c i:Nat}(h:es % c=0):i*(es / c)*c=i*es:=by
 rw[Nat.mul_assoc,Nat.div_mul_cancel (Nat.dvd_of_mod_eq_zero h)]
theorem Z2{i:Int}{f:Nat→Option Z}:∀(n k:Nat),Ajn i f k n=some z→∃j:Nat,j<k+n∧i=(j:Int)∧f j=some z
 | 0,k,h=>by cases h
 | n+1,k,h=>by
  rcases Vu h with⟨h1,h2⟩ | ⟨_,h2⟩
  ·exact⟨k,by omega,of_decide_eq_true h1,h2⟩
  ·obtain⟨j,a,b⟩:=Z2 n (k+1) h2
   exact⟨j,by omega,b⟩
theorem A3y{t:TypeId}{x i:Operand}(hop:o.op=.indexAddr t x i)(h:evOp P specs o L H κ=some z):OpR P o L H κ z:=by
 simp only[evOp,hop]at h
 obtain⟨vx,hx,h1⟩:=bind_some h
 obtain⟨vi,hi,h2⟩:=bind_some h1
 clear h h1
 have fin:∀(a:AV) (rd:List Nat) (n:Int) (kd:IntKind),vi=.i kd n→(∀(g:Gh) (hh:Nat→Option Blk') (w:World),Sim g hh w→(∀id∈rd,id<H.length→hh id=H[id]?)→∀v,RepV g vx v →
   ∃u,(Instr.indexAt t v (.int kd n)).run P w=.ok u w∧RepV g a u)→κ a H rd []=some z→OpR P o L H κ z:=by
  intro a rd n kd hvi hv h
  subst hvi
  refine⟨a,H,rd,[],h,OpS.quiet (by simp[hop]) fun g hh w ρ hO hs hrd=>?_⟩
  have h2:=hO.get (x:=i) (by simp[hop,Op.operands]) hi
  simp only[RepV]at h2
  obtain⟨u,hr,hu⟩:=hv g hh w hs hrd _ (hO.get (x:=x) (by simp[hop,Op.operands]) hx)
  exact⟨u,by simp[execOp,hop,h2.1,hr],hu⟩
 split at h2
 ·rename_i e y l kd n he
  split at h2
  ·rename_i hsz
   obtain⟨h0,xv,hxv,h3⟩:=Y2 h2
   refine fin _ [] n kd rfl (fun g hh w hs _ v hv=>?_) h3
   simp only[RepV]at hv
   obtain⟨_,a,c,rfl,hc,hv⟩:=hv
   rcases hv with rfl | ⟨b,off,vs,ty,rfl,hM,hE⟩
   ·simp at hxv
   ·have hlt:=(List.getElem?_eq_some_iff.1 hxv).1
    obtain⟨us,hsg,hC⟩:=hE _ _ hxv
    exact⟨_,Og he hsz h0 (by omega) w,b,_,vs,ty,us,rfl,hM,hsg,hC⟩
  ·cases h2
 ·rename_i e id kd n he
  split at h2
  ·rename_i y l hb
   split at h2
   ·rename_i hsz
    obtain⟨⟨h0,hlt⟩,h3⟩:=J2 h2
    refine fin _ [id] n kd rfl (fun g hh w hs hrd v hv=>?_) h3
    have hid:=hrd id (by simp) (List.getElem?_eq_some_iff.1 hb).1
    rw[hb]at hid
    obtain⟨_,hB⟩:=hs.blk id _ hid
    simp only[RepV]at hv
    rcases hB with⟨e1,rfl⟩ | ⟨b,c,vs,rest,ty,e1,_⟩
    ·simp at hlt;omega
    ·rcases hv with⟨e2,rfl⟩ | ⟨b2,c2,m,e2,rfl⟩
     ·rw[e1]at e2;cases e2
     ·rw[e1]at e2;cases e2
      exact⟨_,Og he hsz h0 hlt w,b,c,_,e1,by simp⟩
   ·cases h2
  ·rename_i y l hb
   split at h2
   ·rename_i hsz
    obtain⟨h0,xv,hxv,h3⟩:=Y2 h2
    refine fin _ [id] n kd rfl (fun g hh w hs hrd v hv=>?_) h3
    have hid:=hrd id (by simp) (List.getElem?_eq_some_iff.1 hb).1
    rw[hb]at hid
    obtain⟨_,a,c,rfl,hc,hv⟩:=S7 (hs.blk id _ hid) hv
    rcases hv with rfl | ⟨b,off,vs,ty,rfl,hM,hE⟩
    ·simp at hxv
    ·have hlt:=(List.getElem?_eq_some_iff.1 hxv).1
     obtain⟨us,hsg,hC⟩:=hE _ _ hxv
     exact⟨_,Og he hsz h0 (by omega) w,b,_,vs,ty,us,rfl,hM,hsg,hC⟩
   ·cases h2
  ·cases h2
 ·rename_i e id m kd n he
  split at h2
  ·rename_i hsz
   obtain⟨j,hj,rfl,h3⟩:=Z2 _ _ h2
   refine fin _ [] _ kd rfl (fun g hh w hs _ v hv=>?_) h3
   simp only[RepV]at hv
   obtain⟨b,c,q,e1,rfl⟩:=hv
   exact⟨_,Og (y:=.bool) he hsz (by omega) (by omega) w,b,c,q,e1,by simp[Ty.cells]⟩
  ·cases h2
 ·rename_i n e id base kd m he
  obtain⟨es,hes,h3⟩:=bind_some h2
  clear h2
  split at h3
  ·rename_i y l harr
   split at h3
   ·rename_i hmod
    obtain⟨⟨h0,hlt⟩,h4⟩:=J2 h3
    refine fin _ [id] m kd rfl (fun g hh w hs hrd v hv=>?_) h4
    simp only[RepV]at hv
    obtain⟨b,c,q,e1,rfl⟩:=hv
    exact⟨_,Iw he hes h0 hlt w,b,c,q,e1,by rw[Vj,Mo hmod];rfl⟩
   ·cases h3
  ·obtain⟨⟨h0,hlt⟩,h4⟩:=J2 h3
   refine fin _ [id] m kd rfl (fun g hh w hs hrd v hv=>?_) h4
   simp only[RepV]at hv
   obtain⟨b,c,q,e1,rfl⟩:=hv
   exact⟨_,Iw he hes h0 hlt w,b,c,q,e1,rfl⟩
 ·rename_i n e id base k c kd m he
  obtain⟨es,hes,h3⟩:=bind_some h2
  clear h2
  split at h3
  ·rename_i hmod
   obtain⟨⟨h0,hlt⟩,h4⟩:=J2 h3
   refine fin _ [] m kd rfl (fun g hh w hs hrd v hv=>?_) h4
   simp only[RepV]at hv
   obtain⟨b,c',q,e1,rfl⟩:=hv
   exact⟨_,Iw he hes h0 hlt w,b,c',q,e1,by rw[Vj,Nat.add_mul,Mo hmod];simp[Nat.add_assoc]⟩
  ·cases h3
 ·rename_i n e ps j kd m he
  obtain⟨es,hes,h3⟩:=bind_some h2
  clear h2
  split at h3
  ·rename_i y m' l r hsk
   split at h3
   ·rename_i hmod
    obtain⟨⟨h0,hlt⟩,h4⟩:=J2 h3
    refine fin _ [] m kd rfl (fun g hh w hs hrd v hv=>?_) h4
    simp only[RepV]at hv
    obtain⟨b,off,vs,ty,us,rfl,hM,hseg,hp⟩:=hv
    obtain⟨l1,p1⟩:=As _ j _ us hsk hp
    simp only[A7,PartOf]at p1
    obtain⟨v1,v2,e1,⟨hl,hL⟩,_⟩:=p1
    refine⟨_,Iw he hes h0 hlt w,?_⟩
    simp only[RepV]
    refine⟨b,off+j,vs,ty,by rw[Vj,Mo hmod];simp,hM,fun i x hi=>?_⟩
    obtain⟨us',hs',hC⟩:=RepL.get l v1 i x hL hi
    refine⟨us',fun q u hq=>?_,hC⟩
    have h5:=hs' q u hq
    have h6:(us.drop j)[i*y.cells+q]?=some u:=by
     rw[e1,List.getElem?_append_left (List.getElem?_eq_some_iff.1 h5).1];exact h5
    rw[List.getElem?_drop]at h6
    have h7:=hseg _ _ h6
    rw[show off+j+i*y.cells+q=off+(j+(i*y.cells+q))by omega]
    exact h7
   ·cases h3
  ·cases h3
 ·rename_i n e y l k kd m he
  obtain⟨es,hes,h3⟩:=bind_some h2
  clear h2
  split at h3
  ·rename_i hmod
   obtain⟨⟨h0,hlt⟩,h4⟩:=J2 h3
   refine fin _ [] m kd rfl (fun g hh w hs hrd v hv=>?_) h4
   simp only[RepV]at hv
   obtain⟨b,off,vs,ty,rfl,hM,hx⟩:=hv
   refine⟨_,Iw he hes h0 hlt w,?_⟩
   simp only[RepV]
   exact⟨b,off,vs,ty,by rw[Vj,Nat.add_mul,Mo hmod];simp[Nat.add_assoc],hM,hx⟩
  ·cases h3
 ·cases h2
theorem Pu:∀(n:Nat) (e:TypeId) (y:Ty),tyOf P n e=some y→aggOf P e=some y.isPair
 | 0,_,_,h=>by simp[tyOf]at h
 | n+1,e,y,h=>by
  unfold tyOf at h
  split at h
  ·rename_i he;cases h;simp[aggOf,he,Ty.isPair]
  ·rename_i k he;cases h;simp[aggOf,he,Ty.isPair]
  ·rename_i e' he
   obtain⟨y',_,rfl⟩:=map_some h
   simp[aggOf,he,Ty.isPair]
  ·rename_i fs he
   split at h
   ·rename_i h2
    have:∀(l:List TypeId) (f:TypeId→Option Ty),2≤l.length→tyOf.tys l f=some y→y.isPair=true:=by
     intro l f hl h
     match l,hl with
     | a::b::l,_=>
      simp only[tyOf.tys]at h
      obtain⟨u,_,h⟩:=bind_some h
      obtain⟨v,_,rfl⟩:=map_some h
      rfl
    rw[this _ _ (by simpa using h2) h]
    simp[aggOf,he]
   ·cases h
  ·rename_i m e' he
   split at h
   ·split at h
    ·cases h;simp[aggOf,he,Ty.isPair]
    ·cases h
   ·cases h
  ·cases h
theorem Ci{e:TypeId}{y:Ty}(h:elTy P e=some y):tyOf P 9 e=some y∧szOf P e=some y.cells∧∃i z,P.info? e=some i∧i.bytes≤128∧i.zero=some z∧zeroD y z.cells.toList=some []∧isAggV z=y.isPair:=by
 unfold elTy at h
 split at h
 ·rename_i y' i h1 h2
  split at h
  ·rename_i hc
   split at h
   ·rename_i zv hz
    split at h
    ·rename_i hag
     split at h
     ·rename_i hzz
      simp only[Option.some.injEq]at h;subst h
      exact⟨h1,by simp[szOf,h2,hc.1],i,zv,h2,hc.2,hz,hzz,hag⟩
     ·cases h
    ·cases h
   ·cases h
  ·cases h
 ·cases h
theorem Amt{M:Nat→Option Obj}{n:Nat}{e:TypeId}{y:Ty}(he:tyOf P n e=some y){x:y.den}{us:List Value}{v:Value}(hC:RepC M y x us)(h:Bl P e us v):RepE M y x v:=by
 have ha:=Pu n e y he
 refine⟨us,hC,?_⟩
 cases y<;>simp only[Ty.isPair]at ha<;>simpa [Bl,ha,CV]using h
theorem Aiw{t:TypeId}{x i:Operand}(hop:o.op=.index t x i)(h:evOp P specs o L H κ=some z):OpR P o L H κ z:=by
 simp only[evOp,hop]at h
 obtain⟨vx,hx,h1⟩:=bind_some h
 obtain⟨vi,hi,h2⟩:=bind_some h1
 clear h h1
 split at h2
 ·rename_i n e y m l kd k he
  split at h2
  ·rename_i hc
   obtain⟨rfl,hel⟩:=hc
   obtain⟨hty,hsz,_⟩:=Ci hel
   obtain⟨h0,xv,hxv,h3⟩:=Y2 h2
   refine⟨_,H,[],[],h3,OpS.quiet (by simp[hop]) fun g hh w ρ hO hs hrd=>?_⟩
   have h4:=hO.get (x:=i) (by simp[hop,Op.operands]) hi
   simp only[RepV]at h4
   have h5:=hO.get (x:=x) (by simp[hop,Op.operands]) hx
   simp only[RepV]at h5
   obtain⟨vs,e1,hl,hL⟩:=h5
   have hlt:=(List.getElem?_eq_some_iff.1 hxv).1
   obtain⟨us,hsg,hC⟩:=RepL.get l vs _ xv hL hxv
   have hlen:=(RepC.len y xv us hC).1
   have hvl:=(RepL.len l vs hL).1
   have hle:(k.toNat+1)*y.cells≤vs.length:=by rw[hvl];exact Nat.mul_le_mul_right _ hlt
   rw[Nat.succ_mul]at hle
   have htk:(vs.drop (k.toNat*y.cells)).take y.cells=us:=by
    apply List.ext_getElem?
    intro j
    rw[List.getElem?_take]
    by_cases hj:j<y.cells
    ·have hj':j<us.length:=by omega
     rw[if_pos hj,List.getElem?_drop,hsg j us[j] (List.getElem?_eq_getElem hj'),List.getElem?_eq_getElem hj']
    ·rw[if_neg hj,List.getElem?_eq_none (by omega)]
   -- the value
   have hag:∃v,(part e vs.toArray (k.toNat*y.cells)).run P w=.ok v w∧RepE g.M y xv v:=by
    obtain⟨v,hr,hiv⟩:=L7 (P:=P) hsz (Pu 9 e y hty) (o:=k.toNat*y.cells) (vs:=vs) (by omega) htk (fun e1=>by cases y<;>simp_all [Ty.isPair,Ty.cells]) w
    exact⟨v,hr,Amt hty hC hiv⟩
   obtain⟨v,hr,hE⟩:=hag
   refine⟨v,?_,Ade y xv v hE⟩
   have hb:0≤k∧k<(n:Int):=⟨h0,by omega⟩
   simp only[execOp,hop,h4.1,e1,Instr.index,asIntOf,Sem.run_bind,Sem.run_pure,Result.andThen_ok,A9 he,if_pos hb,B6 hsz,hr]
  ·cases h2
 ·cases h2

theorem RepBlk.known{g:Gh}{w:World}{id:Nat}{k:Blk'}(h:RepBlk g w id k)(hm:k.mut=true):∃x,g.ρ id=some x:=by
 cases k<;>simp only[Blk'.mut,Bool.false_eq_true]at hm
 case segs=>obtain⟨b,c,n,_,_,e,_⟩:=h;exact⟨_,e⟩
 case lst=>obtain⟨_,⟨e,_⟩ | ⟨b,c,_,_,_,e,_⟩⟩:=h<;>exact⟨_,e⟩
 case map=>obtain⟨b,c,n,_,_,e,_⟩:=h;exact⟨_,e⟩
theorem RepM.mono{M M':Nat→Option Obj}(hM:∀b o,M b=some o→M' b=some o){kt vt:Ty}{l:List (kt.den×vt.den)}{es:Array MapEntry}(h:RepM M kt vt l es):RepM M' kt vt l es:=by
 have hE:∀(t:Ty) (x:t.den) v,RepE M t x v→RepE M' t x v:=fun t x v ⟨us,a,b⟩=>⟨us,RepC.mono hM t x us a,b⟩
 exact⟨fun e he=>let ⟨x,y,a,b,c⟩:=h.1 e he;⟨x,y,hE _ _ _ a,b,hE _ _ _ c⟩,fun z hz=>let ⟨e,a,b⟩:=h.2.1 z hz;⟨e,a,hE _ _ _ b⟩,h.2.2⟩
theorem RepBlk.step{g g':Gh}{w w':World}{id:Nat}{k:Blk'}(h:RepBlk g w id k)(hg:GE g g')
  (hm:k.mut=true→∀b c n,g.ρ id=some (some (b,c,n))→b<w.heap.size→g.M b=none→w'.heap[b]?=w.heap[b]?∧g'.M b=none):RepBlk g' w' id k:=by
 cases k with
 | segs ps=>
  obtain⟨b,c,n,vs,ty,e,hb,hp,hn⟩:=h
  obtain⟨h1,h2⟩:=hm rfl b c n e (A8 hb) hn
  exact⟨b,c,n,vs,ty,hg.ρ _ _ e,h1.trans hb,A7.mono hg ps vs hp,h2⟩
 | rsegs ps=>
  obtain⟨b,c,n,vs,ty,e,hb,hp⟩:=h
  exact⟨b,c,n,vs,ty,hg.ρ _ _ e,hg.M _ _ hb,A7.mono hg ps vs hp⟩
 | lst t l=>
  obtain⟨hl,h⟩:=h
  refine⟨hl,?_⟩
  rcases h with⟨e,h⟩ | ⟨b,c,vs,rest,ty,e,hb,hL,hc,hr,hn⟩
  ·exact .inl ⟨hg.ρ _ _ e,h⟩
  ·obtain⟨h1,h2⟩:=hm rfl b c _ e (A8 hb) hn
   exact .inr ⟨b,c,vs,rest,ty,hg.ρ _ _ e,h1.trans hb,RepL.mono hg.M l vs hL,hc,hr,h2⟩
 | frz t l=>
  obtain⟨hl,h⟩:=h
  refine⟨hl,?_⟩
  rcases h with⟨e,h⟩ | ⟨b,c,vs,rest,ty,e,hb,hL,hc⟩
  ·exact .inl ⟨hg.ρ _ _ e,h⟩
  ·exact .inr ⟨b,c,vs,rest,ty,hg.ρ _ _ e,hg.M _ _ hb,RepL.mono hg.M l vs hL,hc⟩
 | map kt vt l=>
  obtain⟨b,c,n,es,q,e,hb,hn,hM⟩:=h
  obtain⟨h1,h2⟩:=hm rfl b c n e (A8 hb) hn
  exact⟨b,c,n,es,q,hg.ρ _ _ e,h1.trans hb,h2,hM.mono hg.M⟩
 | dead=>trivial
theorem Sim.step{g g':Gh}{h h':Nat→Option Blk'}{w w':World}{wr:List Nat}{nw:Nat→Prop}(hs:Sim g h w)(hst:Stp (Sw g h wr) nw g w g' w')(hmem:∀b o,g'.M b=some o→w'.heap[b]?=some o)
  (ch:Nat→Prop) (hkeep:∀id,¬ch id→h' id=h id) (hwr:∀id∈wr,ch id) (hnew:∀id k,ch id→h' id=some k→RepBlk g' w' id k)
  (hinj:∀i j ki kj b ci ni cj nj,ch i→h' i=some ki→h' j=some kj→ki.mut=true→kj.mut=true→g'.ρ i=some (some (b,ci,ni))→g'.ρ j=some (some (b,cj,nj))→i=j):Sim g' h' w':=by
 have hold:∀id k,¬ch id→h id=some k→RepBlk g' w' id k:=by
  intro id k hc hk
  refine(hs.blk id k hk).step hst.ge (fun hm b c n e hb hn=>?_)
  have hS:¬Sw g h wr b:=by
   rintro ⟨id2,h2,k2,c2,n2,hk2,hm2,e2⟩
   have:=hs.inj id id2 k k2 b c n c2 n2 hk hk2 hm hm2 e e2
   subst this
   exact hc (hwr _ h2)
  refine⟨hst.same b hb hS,?_⟩
  cases hM:g'.M b with
  | none=>rfl
  | some o=>
   rcases hst.Mn b o hM with h3 | ⟨_,h3 | h3,_⟩
   ·rw[hn]at h3;cases h3
   ·omega
   ·exact absurd h3 hS
 refine⟨hmem,fun id k hk=>?_,fun i j ki kj b ci ni cj nj h1 h2 m1 m2 e1 e2=>?_⟩
 ·by_cases hc:ch id
  ·exact hnew id k hc hk
  ·exact hold id k hc (by rw[←hkeep id hc];exact hk)
 ·by_cases hci:ch i
  ·exact hinj i j ki kj b ci ni cj nj hci h1 h2 m1 m2 e1 e2
  ·by_cases hcj:ch j
   ·exact(hinj j i kj ki b cj nj ci ni hcj h2 h1 m2 m1 e2 e1).symm
   ·rw[hkeep i hci]at h1
    rw[hkeep j hcj]at h2
    obtain⟨x,hx⟩:=(hs.blk i ki h1).known m1
    obtain⟨y,hy⟩:=(hs.blk j kj h2).known m2
    have:=hst.ge.ρ i x hx
    rw[this]at e1
    have:=hst.ge.ρ j y hy
    rw[this]at e2
    cases e1;cases e2
    exact hs.inj i j ki kj b ci ni cj nj h1 h2 m1 m2 hx hy
theorem A78{g:Gh}{h:Nat→Option Blk'}{w:World}(hs:Sim g h w){id:Nat}{k:Blk'}{b c n:Nat}{cs:Array Value}{ty:TypeId}(hid:h id=some k)(hm:k.mut=true)(e:g.ρ id=some (some (b,c,n)))(hb:w.heap[b]?=some (.cells cs ty (0,0)))(hn:g.M b=none)(hf:(frzB k).mut=false)
  (hR:∀g',GE g g'→g'.ρ=g.ρ→g'.M b=some (.cells cs ty (0,0))→RepBlk g' w id (frzB k)):∃g',Stp (Sw g h [id]) (fun _=>False) g w g' w∧Sim g' (fun i=>if i=id then(h i).map frzB else h i) w:=by
 let g':Gh:={ ρ:=g.ρ,M:=fun x=>if x=b then w.heap[b]? else g.M x }
 have hge:GE g g':=⟨fun _ _ x=>x,fun x o hx=>by
  show(if x=b then w.heap[b]? else g.M x)=some o
  split
  ·rename_i e;subst e;rw[hn]at hx;cases hx
  ·exact hx⟩
 have hSb:Sw g h [id] b:=⟨id,by simp,k,c,_,hid,hm,e⟩
 have hst:Stp (Sw g h [id]) (fun _=>False) g w g' w:=by
  refine⟨rfl,rfl,rfl,Nat.le_refl _,fun _ _ _=>rfl,hge,fun _ a b=>absurd a b,fun i b1 c1 n1 ha hb1=>?_,fun x o hx=>?_⟩
  ·have h3:g.ρ i=some (some (b1,c1,n1)):=hb1
   rw[ha]at h3;cases h3
  ·have hx':(if x=b then w.heap[b]? else g.M x)=some o:=hx
   split at hx'
   ·rename_i e;subst e;exact .inr ⟨hn,.inr hSb,by rw[hb]at hx';cases hx';rfl⟩
   ·exact .inl hx'
 refine⟨g',hst,hs.step hst (fun x o hx=>?_) (fun i=>i=id) (fun i hi=>by simp[hi]) (fun i hi=>by simpa using hi) (fun i k0 hi hk=>?_) (fun i j ki kj b' ci ni cj nj hi h1 h2 m1 m2 e1 e2=>?_)⟩
 ·have hx':(if x=b then w.heap[b]? else g.M x)=some o:=hx
  split at hx'
  ·rename_i e;subst e;exact hx'
  ·exact hs.mem x o hx'
 ·subst hi
  simp only[if_true,hid,Option.map_some,Option.some.injEq]at hk
  subst hk
  refine hR g' hge rfl ?_
  show(if b=b then w.heap[b]? else g.M b)=_
  rw[if_pos rfl];exact hb
 ·subst hi
  simp only[if_true,hid,Option.map_some,Option.some.injEq]at h1
  subst h1;rw[hf]at m1;cases m1
theorem Amu{g:Gh}{h:Nat→Option Blk'}{w:World}(hs:Sim g h w)(id:Nat):∃g',Stp (Sw g h [id]) (fun _=>False) g w g' w∧Sim g' (fun i=>if i=id then(h i).map frzB else h i) w:=by
 cases hid:h id with
 | none=>
  refine⟨g,Stp.refl _ _ g w,?_⟩
  have:(fun i=>if i=id then(h i).map frzB else h i)=h:=by funext i;split<;>simp_all
  rw[this];exact hs
 | some k=>
  by_cases hl:∃t l,k=.lst t l
  ·obtain⟨t,l,rfl⟩:=hl
   obtain⟨hlen,hB⟩:=hs.blk id _ hid
   rcases hB with⟨e,rfl⟩ | ⟨b,c,vs,rest,ty,e,hb,hL,hc,hr,hn⟩
   ·refine⟨g,Stp.refl _ _ g w,hs.mem,fun i k hk=>?_,fun i j ki kj b ci ni cj nj h1 h2 m1 m2 e1 e2=>?_⟩
    ·split at hk
     ·rename_i hi;subst hi
      rw[hid]at hk;simp only[Option.map_some,frzB,Option.some.injEq]at hk;subst hk
      exact⟨hlen,.inl ⟨e,rfl⟩⟩
     ·exact hs.blk i k hk
    ·split at h1
     ·rename_i hi;subst hi;rw[hid]at h1;simp only[Option.map_some,frzB,Option.some.injEq]at h1;subst h1;cases m1
     ·split at h2
      ·rename_i hj;subst hj;rw[hid]at h2;simp only[Option.map_some,frzB,Option.some.injEq]at h2;subst h2;cases m2
      ·exact hs.inj i j ki kj b ci ni cj nj h1 h2 m1 m2 e1 e2
   ·exact A78 hs hid rfl e hb hn rfl (fun g' hge hρ hM=>⟨hlen,.inr ⟨b,c,vs,rest,(ty,(0,0)),by rw[hρ];exact e,hM,RepL.mono hge.M l vs hL,hc.1⟩⟩)
  ·by_cases hsg:∃ps,k=.segs ps
   ·obtain⟨ps,rfl⟩:=hsg
    obtain⟨b,c,n,vs,ty,e,hb,hp,hn⟩:=hs.blk id _ hid
    exact A78 hs hid rfl e hb hn rfl (fun g' hge hρ hM=>⟨b,c,n,vs,(ty,(0,0)),by rw[hρ];exact e,hM,A7.mono hge ps vs hp⟩)
   refine⟨g,Stp.refl _ _ g w,?_⟩
   have:(fun i=>if i=id then(h i).map frzB else h i)=h:=by
    funext i
    split
    ·rename_i e;subst e
     rw[hid]
     cases k<;>simp[frzB]
     ·exact absurd ⟨_,rfl⟩ hsg
     ·exact absurd ⟨_,_,rfl⟩ hl
    ·rfl
   rw[this];exact hs
def frzF(ids:List Nat)(h:Nat→Option Blk'):Nat→Option Blk':=fun i=>if i∈ids then(h i).map frzB else h i
theorem A2c(k:Blk'):frzB (frzB k)=frzB k:=by cases k<;>rfl
theorem Cp:∀(ids:List Nat) (H:HH) (i:Nat),(frzs ids H)[i]?=if i∈ids then H[i]?.map frzB else H[i]?
 | [],H,i=>by simp[frzs]
 | id::ids,H,i=>by
  simp only[frzs,Cp ids,List.getElem?_modify]
  by_cases h1:i∈ids<;>by_cases h2:id=i
  ·subst h2;simp[h1,Option.map_map,Function.comp_def,A2c]
  ·simp[h1,h2]
  ·subst h2;simp[h1]
  ·have:¬i=id:=fun e=>h2 e.symm
   simp[h1,h2,this]
theorem Ah:∀(ids:List Nat) (H:HH),(frzs ids H).length=H.length
 | [],H=>rfl
 | id::ids,H=>by simp[frzs,Ah ids]
theorem Sw.sub{g:Gh}{h:Nat→Option Blk'}{wr wr':List Nat}(hs:∀i∈wr,i∈wr'){b:Nat}(hb:Sw g h wr b):Sw g h wr' b:=by
 obtain⟨id,h1,x⟩:=hb;exact⟨id,hs id h1,x⟩
theorem Mc{w:World}:∀(ids:List Nat) {g:Gh} {h:Nat→Option Blk'} (_:Sim g h w),∃g',Stp (Sw g h ids) (fun _=>False) g w g' w∧Sim g' (frzF ids h) w
 | [],g,h,hs=>⟨g,Stp.refl _ _ g w,by have:frzF [] h=h:=by funext i;simp[frzF]
                                     rw[this];exact hs⟩
 | id::ids,g,h,hs=>by
  obtain⟨g1,st1,hs1⟩:=Amu hs id
  obtain⟨g2,st2,hs2⟩:=Mc ids hs1
  refine⟨g2,(st1.mono (fun b hb=>Sw.sub (by simp) hb) (fun _ x=>x)).trans st2 (fun b hb=>.inl ?_) (fun _ x=>x),?_⟩
  ·obtain⟨i,hi,k,c,n,hk,hm,e⟩:=hb
   dsimp only at hk
   split at hk
   ·rename_i hii;subst hii
    cases hh:h i with
    | none=>rw[hh]at hk;cases hk
    | some k0=>
     rw[hh]at hk
     simp only[Option.map_some,Option.some.injEq]at hk
     subst hk
     have hm0:k0.mut=true:=by cases k0<;>simp_all [frzB,Blk'.mut]
     obtain⟨x,hx⟩:=(hs.blk i k0 hh).known hm0
     have:=st1.ge.ρ i x hx
     rw[this]at e;cases e
     exact⟨i,by simp,k0,c,n,hh,hm0,hx⟩
   ·obtain⟨x,hx⟩:=(hs.blk i k hk).known hm
    have:=st1.ge.ρ i x hx
    rw[this]at e;cases e
    exact⟨i,by simp[hi],k,c,n,hk,hm,hx⟩
  ·have:frzF ids (fun i=>if i=id then(h i).map frzB else h i)=frzF (id::ids) h:=by
    funext i
    simp only[frzF,List.mem_cons]
    by_cases h1:i∈ids<;>by_cases h2:i=id
    ·subst h2;simp[h1,Option.map_map,Function.comp_def,A2c]
    ·simp[h1,h2]
    ·subst h2;simp[h1]
    ·simp[h1,h2]
   rw[this]at hs2;exact hs2

def Frz(g:Gh)(w:World)(H:HH)(ids:List Nat):Prop:=∀id∈ids,(∀(t:Ty) (l:List t.den),cont H id t=some l→RepBlk g w id (.frz t l))∧∀ps,(H[id]?=some (.segs ps)∨H[id]?=some (.rsegs ps))→RepBlk g w id (.rsegs ps)
theorem K8{g:Gh}{w:World}{H:HH}{h:Nat→Option Blk'}{ids:List Nat}(hs:Sim g (frzF ids h) w)(hh:∀id∈ids,id<H.length→h id=H[id]?):Frz g w H ids:=by
 intro id hid
 refine⟨fun t l hc=>?_,fun ps hc=>?_⟩
 rotate_left
 ·rcases hc with hb | hb
  all_goals
   have:=hh id hid (List.getElem?_eq_some_iff.1 hb).1
   rw[hb]at this
   exact hs.blk id _ (by simp[frzF,hid,this,frzB])
 unfold cont at hc
 split at hc
 ·rename_i a l' hb
  obtain⟨rfl,rfl⟩:=Bb hc
  have:=hh id hid (List.getElem?_eq_some_iff.1 hb).1
  rw[hb]at this
  exact hs.blk id _ (by simp[frzF,hid,this,frzB])
 ·rename_i a l' hb
  obtain⟨rfl,rfl⟩:=Bb hc
  have:=hh id hid (List.getElem?_eq_some_iff.1 hb).1
  rw[hb]at this
  exact hs.blk id _ (by simp[frzF,hid,this,frzB])
 ·cases hc
theorem Ac4{k:IntKind}{ps:List AV}{r:Int×List AV×List Nat}(h:un H (.int k) ps=some r):∃n q,ps=.i k n::q∧r=(n,q,[]):=by
 match ps with
 | []=>simp[un]at h
 | a::q=>
  cases a<;>simp[un]at h
  obtain⟨rfl,rfl⟩:=h
  exact⟨_,_,rfl,rfl⟩
theorem A2v{ps:List AV}{r:Bool×List AV×List Nat}(h:un H .bool ps=some r):∃c q,ps=.b c::q∧r=(c,q,[]):=by
 match ps with
 | []=>simp[un]at h
 | a::q=>
  cases a<;>simp[un]at h
  subst h
  exact⟨_,_,rfl,rfl⟩
theorem Aj0{t:Ty}{ps:List AV}{r:List t.den×List AV×List Nat}(h:un H (.sl t) ps=some r):(∃l q,ps=.sl t l::q∧r=(l,q,[]))∨(∃q,ps=.nils::q∧r=([],q,[]))∨∃id l q,ps=.ols id::q∧cont H id t=some l∧r=(l,q,[id]):=by
 match ps with
 | []=>simp[un]at h
 | a::q=>
  cases a<;>simp only[un,reduceCtorEq]at h
  ·simp only[Option.some.injEq]at h;exact .inr (.inl ⟨q,rfl,h.symm⟩)
  ·obtain⟨l,hl,h2⟩:=bind_some h
   clear h
   obtain⟨rfl,rfl⟩:=Bb hl
   cases h2
   exact .inl ⟨_,q,rfl,rfl⟩
  ·obtain⟨l,hl,h⟩:=bind_some h
   simp only[Option.some.injEq]at h
   exact .inr (.inr ⟨_,l,q,rfl,hl,h.symm⟩)
theorem Nc{a t:Ty}{x:a.den}{x':t.den}(h:A5p a t x=some x'):∃e:a=t,x'=e▸x:=by
 unfold A5p at h;split at h
 ·rename_i e;exact⟨e,(Option.some.inj h).symm⟩
 ·cases h
theorem Ac3{t:Ty}{ps:List AV}{r:t.den×List AV×List Nat}(h:un H (.ptr t) ps=some r):∃x q,ps=.fe t x 0::q∧r=(x,q,[]):=by
 match ps with
 | []=>simp[un]at h
 | .fe a x 0::q=>
  simp only[un]at h
  obtain⟨l,hl,h2⟩:=bind_some h
  clear h
  obtain⟨rfl,rfl⟩:=Nc hl
  cases h2
  exact⟨_,q,rfl,rfl⟩
 | .fe a x (j+1)::q=>cases h
 | .i ..::_ | .b ..::_ | .undef::_ | .nilp::_ | .nilf::_ | .nils::_ | .nilm::_ | .sl ..::_ | .own ..::_ | .elt ..::_ | .ols ..::_ | .osl ..::_ | .mp ..::_ | .arr ..::_ | .fn ..::_ | .agg ..::_ | .tup ..::_ | .fz ..::_=>cases h
theorem Zb{t:Ty}{ps:List AV}{r:t.den×List AV×List Nat}(h:unA t ps=some r):∃k l q,∃e:tup4 k=t,ps=.arr (.int k) 4 l::q∧r=(e▸(l.getD 0 (0:Int),l.getD 1 (0:Int),l.getD 2 (0:Int),l.getD 3 (0:Int)),q,[]):=by
 unfold unA at h
 split at h
 ·rename_i k l q
  obtain⟨x,hx,rfl⟩:=map_some h
  obtain⟨e,rfl⟩:=Nc hx
  exact⟨k,l,q,e,rfl,rfl⟩
 ·cases h
theorem A2t{a b:Ty}{ps:List AV}{r:(Ty.pair a b).den×List AV×List Nat}(h:un H (.pair a b) ps=some r):unA (.pair a b) ps=some r∨∃x y,un H a ps=some x∧un H b x.2.1=some y∧r=((x.1,y.1),y.2.1,x.2.2++y.2.2):=by
 simp only[un]at h
 split at h
 ·rename_i r' h'
  cases h;exact .inl h'
 ·obtain⟨x,hx,h⟩:=bind_some h
  obtain⟨y,hy,h⟩:=bind_some h
  simp only[Option.some.injEq]at h
  exact .inr ⟨x,y,hx,hy,h.symm⟩
theorem Mi{g:Gh}{w:World}:∀(t:Ty) (ps:List AV) (r:t.den×List AV×List Nat) (vs:List Value),un H t ps=some r→A7 g ps vs→Frz g w H r.2.2 →
  ∃v1 v2,vs=v1++v2∧RepC g.M t r.1 v1∧A7 g r.2.1 v2
 | .int k,ps,r,vs,h,hp,_=>by
  obtain⟨n,q,rfl,rfl⟩:=Ac4 h
  simp only[A7,PartOf,RepV]at hp
  obtain⟨v1,v2,rfl,⟨v,rfl,rfl,hr⟩,h2⟩:=hp
  exact⟨_,_,rfl,⟨rfl,hr⟩,h2⟩
 | .bool,ps,r,vs,h,hp,_=>by
  obtain⟨c,q,rfl,rfl⟩:=A2v h
  simp only[A7,PartOf,RepV]at hp
  obtain⟨v1,v2,rfl,⟨v,rfl,rfl⟩,h2⟩:=hp
  exact⟨_,_,rfl,rfl,h2⟩
 | .pair a b,ps,r,vs,h,hp,hf=>by
  rcases A2t h with h | ⟨x,y,hx,hy,rfl⟩
  ·obtain⟨k,l,q,e,rfl,rfl⟩:=Zb h
   cases e
   simp only[A7,PartOf]at hp
   obtain⟨v1,v2,rfl,⟨hl,hL⟩,h2⟩:=hp
   match l,hl with
   | [x0,x1,x2,x3],_=>
    obtain⟨_,_,rfl,⟨rfl,i0⟩,_,_,rfl,⟨rfl,i1⟩,_,_,rfl,⟨rfl,i2⟩,_,_,rfl,⟨rfl,i3⟩,rfl⟩:=hL
    exact⟨_,_,rfl,⟨_,_,rfl,⟨rfl,i0⟩,_,_,rfl,⟨rfl,i1⟩,_,_,rfl,⟨rfl,i2⟩,rfl,i3⟩,h2⟩
  obtain⟨v1,v2,rfl,hC,hp2⟩:=Mi a ps x vs hx hp (fun id hid=>hf id (by simp[hid]))
  obtain⟨v3,v4,rfl,hC2,hp3⟩:=Mi b _ y v2 hy hp2 (fun id hid=>hf id (by simp[hid]))
  exact⟨v1++v3,v4,by simp,⟨v1,v3,rfl,hC,hC2⟩,hp3⟩
 | .sl t,ps,r,vs,h,hp,hf=>by
  rcases Aj0 h with⟨l,q,rfl,rfl⟩ | ⟨q,rfl,rfl⟩ | ⟨id,l,q,rfl,hc,rfl⟩
  ·simp only[A7,PartOf,RepV]at hp
   obtain⟨v1,v2,rfl,⟨v,rfl,hr⟩,h2⟩:=hp
   exact⟨_,_,rfl,⟨v,rfl,hr⟩,h2⟩
  ·simp only[A7,PartOf,RepV]at hp
   obtain⟨v1,v2,rfl,⟨v,rfl,rfl⟩,h2⟩:=hp
   exact⟨_,_,rfl,⟨_,rfl,by simp,none,0,rfl,Nat.le_refl _,.inl rfl⟩,h2⟩
  ·simp only[A7,PartOf]at hp
   obtain⟨v1,v2,rfl,⟨v,rfl,hr⟩,h2⟩:=hp
   exact⟨_,_,rfl,⟨v,rfl,S7 ((hf id (by simp)).1 t l hc) hr⟩,h2⟩
 | .ptr t,ps,r,vs,h,hp,hf=>by
  obtain⟨x,q,rfl,rfl⟩:=Ac3 h
  simp only[A7,PartOf,RepV]at hp
  obtain⟨v1,v2,rfl,⟨v,rfl,b,o,ws,ty,us,rfl,h1,h3,h4⟩,h2⟩:=hp
  exact⟨_,_,rfl,⟨b,o,ws,ty,us,rfl,h1,h3,h4⟩,h2⟩
theorem Kg{g:Gh}{w:World}{t:Ty}{a:AV}{r:t.den×List Nat}{vs:List Value}(h:unF H t a=some r)(hp:PartOf g a vs (RepV g a))(hf:Frz g w H r.2):RepC g.M t r.1 vs:=by
 unfold unF at h
 obtain⟨x,hx,h⟩:=bind_some h
 split at h
 ·rename_i hnil
  cases h
  obtain⟨u1,u2,rfl,hC,hq⟩:=Mi t [a] x vs hx ⟨vs,[],by simp,hp,rfl⟩ hf
  rw[hnil]at hq
  simp only[A7]at hq;subst hq
  rw[List.append_nil];exact hC
 ·cases h
theorem Sa{g:Gh}{w:World}{t:Ty}{f:AV→Option (t.den×List Nat)}(hf0:∀(a:AV) (r:t.den×List Nat) (vs:List Value),f a=some r→PartOf g a vs (RepV g a)→Frz g w H r.2→RepC g.M t r.1 vs) :
  ∀(ps:List AV) (r:List t.den×List Nat) (vs:List Value),unLf f ps=some r→A7 g ps vs→Frz g w H r.2→RepL g.M t r.1 vs
 | [],r,vs,h,hp,_=>by
  simp only[unLf,Option.some.injEq]at h;subst h
  exact hp
 | p::ps,r,vs,h,hp,hf=>by
  simp only[unLf]at h
  obtain⟨x,hx,h⟩:=bind_some h
  obtain⟨y,hy,rfl⟩:=map_some h
  simp only[A7]at hp
  obtain⟨v1,v2,rfl,h1,h2⟩:=hp
  exact⟨v1,v2,rfl,hf0 p x v1 hx h1 (fun i hi=>hf i (by simp[hi])),Sa hf0 ps y v2 hy h2 (fun i hi=>hf i (by simp[hi]))⟩
theorem A5r{g:Gh}{w:World}:∀(t:Ty) (a:AV) (r:t.den×List Nat) (vs:List Value),unE H t a=some r→PartOf g a vs (RepV g a)→Frz g w H r.2→RepC g.M t r.1 vs
 | .int k,a,r,vs,h,hp,hf=>Kg (by simpa only[unE]using h) hp hf
 | .bool,a,r,vs,h,hp,hf=>Kg (by simpa only[unE]using h) hp hf
 | .pair b c,a,r,vs,h,hp,hf=>Kg (by simpa only[unE]using h) hp hf
 | .ptr b,a,r,vs,h,hp,hf=>Kg (by simpa only[unE]using h) hp hf
 | .sl t,a,r,vs,h,hp,hf=>by
  by_cases ha:∃id n,a=.osl id n
  ·obtain⟨i,n,rfl⟩:=ha
   simp only[unE]at h
   have key:∀ps,(H[i]?=some (.segs ps)∨H[i]?=some (.rsegs ps))→((unLf (unE H t) ps).bind fun x=>if decide (x.1.length=n∧n≤1000000)&&!x.2.contains i then some (x.1,i::x.2)else none)=some r→RepC g.M (.sl t) r.1 vs:=by
    intro ps hb h
    obtain⟨x,hx,h2⟩:=bind_some h
    split at h2
    ·rename_i hc
     simp only[Bool.and_eq_true,decide_eq_true_eq]at hc
     cases h2
     obtain⟨b,c,m,ws,ty,e,hM,hq⟩:=(hf i (by simp)).2 ps hb
     have hL:=Sa (fun a r vs=>A5r t a r vs) ps x ws hx hq (fun j hj=>hf j (by simp[hj]))
     simp only[PartOf,RepV]at hp
     obtain⟨v,rfl,b',c',m',e2,rfl⟩:=hp
     rw[e]at e2;cases e2
     have h1:=hc.1.1
     refine⟨_,rfl,by dsimp only;omega,_,n,by dsimp only;rw[h1],by dsimp only;omega,.inr ⟨b,0,ws,ty,rfl,hM,fun j y hj=>?_⟩⟩
     obtain⟨us,h1,h2⟩:=RepL.get _ _ _ _ hL hj
     exact⟨us,by rw[Nat.zero_add];exact h1,h2⟩
    ·cases h2
   split at h
   ·rename_i ps hb;exact key ps (.inl hb) h
   ·rename_i ps hb;exact key ps (.inr hb) h
   ·cases h
  ·have h':unF H (.sl t) a=some r:=by
    cases a<;>first | (exact absurd ⟨_,_,rfl⟩ ha) | exact h
   exact Kg h' hp hf
theorem A90{g:Gh}{w:World}{t:Ty}{a:AV}{r:t.den×List Nat}{v:Value}(h:un1 H t a=some r)(ha:a.parts.all AV.part=true)(hv:RepV g a v)(hf:Frz g w H r.2):RepC g.M t r.1 v.cells.toList:=by
 unfold un1 at h
 obtain⟨x,hx,h⟩:=bind_some h
 split at h
 ·rename_i h2
  simp only[Option.some.injEq]at h;subst h
  obtain⟨v1,v2,e,hC,hp⟩:=Mi t _ x _ hx (Cw hv ha) hf
  rw[h2]at hp
  simp only[A7]at hp;subst hp
  rw[e,List.append_nil];exact hC
 ·cases h
end
end Go.Proofs.YtfcnhnbnjdccfaaGreat

namespace Go.Proofs.YtfcnhnbnjdccfaaGreat
set_option linter.all false
open Go

def newG(g:Gh)(n:Nat)(x:Option (Nat×Nat×Nat)):Gh:={ ρ:=fun i=>if i=n then some x else g.ρ i,M:=g.M }
theorem Hm{g:Gh}{n:Nat}{x:Option (Nat×Nat×Nat)}(h:g.ρ n=none):GE g (newG g n x):=⟨fun i y hi=>by
 show(if i=n then some x else g.ρ i)=some y
 split
 ·rename_i e;subst e;rw[h]at hi;cases hi
 ·exact hi,fun _ _ h=>h⟩
theorem Ad(g:Gh)(n:Nat)(x:Option (Nat×Nat×Nat)):(newG g n x).ρ n=some x:=by simp[newG]
def putH(h:Nat→Option Blk')(n:Nat)(k:Blk'):Nat→Option Blk':=fun i=>if i=n then some k else h i
theorem Sim.fresh{g:Gh}{h:Nat→Option Blk'}{w:World}(hs:Sim g h w):g.M w.heap.size=none:=by
 cases e:g.M w.heap.size with
 | none=>rfl
 | some o=>have:=A8 (hs.mem _ o e);omega
theorem Acb{g:Gh}{h:Nat→Option Blk'}{w w':World}{b:Nat}{ob:Obj}{n c m:Nat}{k:Blk'}{S:Nat→Prop}(hs:Sim g h w)(hN:X5 b ob w w')(hρ:g.ρ n=none)
  (hk:RepBlk (newG g n (some (b,c,m))) w' n k):Stp S (fun i=>i=n) g w (newG g n (some (b,c,m))) w'∧Sim (newG g n (some (b,c,m))) (putH h n k) w':=by
 have hb:=hN.at_
 have st:∀T,Stp T (fun i=>i=n) g w (newG g n (some (b,c,m))) w':=fun T=>by
  refine⟨hN.ext.os,hN.ext.tape,hN.ext.output,hN.ext.size,fun x hx _=>hN.ext.same x hx (by simp),Hm hρ,fun i h0 h1=>?_,fun i b' c' n' h0 h1=>?_,fun x o hx=>.inl hx⟩
  ·have h1':(if i=n then some (some (b,c,m))else g.ρ i)≠none:=h1
   split at h1'
   ·assumption
   ·exact absurd h0 h1'
  ·have h1':(if i=n then some (some (b,c,m))else g.ρ i)=some (some (b',c',n')):=h1
   split at h1'
   ·cases h1';exact .inl (by omega)
   ·rw[h0]at h1';cases h1'
 refine⟨st S,hs.step (wr:=[]) (st _) (fun x o hx=>hN.ext.blk (hs.mem x o hx)) (fun i=>i=n) (fun i hi=>by simp[putH,hi]) (by simp) (fun i k' hi hk'=>?_) (fun i j ki kj x ci ni cj nj hi h1 h2 m1 m2 e1 e2=>?_)⟩
 ·subst hi;simp only[putH,if_true,Option.some.injEq]at hk';subst hk';exact hk
 ·subst hi
  rw[Ad]at e1
  simp only[Option.some.injEq,Prod.mk.injEq]at e1
  obtain⟨rfl,_⟩:=e1
  by_cases hj:j=i
  ·exact hj.symm
  ·simp only[putH,hj,if_false]at h2
   have e2':g.ρ j=some (some (b,cj,nj)):=by simpa [newG,hj]using e2
   -- j's block is an older one
   exfalso
   have hB:=hs.blk j kj h2
   have:b<w.heap.size:=by
    cases kj<;>simp only[Blk'.mut,Bool.false_eq_true]at m2
    case segs=>obtain⟨b1,_,_,_,_,e,h3,_⟩:=hB;rw[e]at e2';cases e2';exact A8 h3
    case lst=>
     obtain⟨_,⟨e,_⟩ | ⟨b1,_,_,_,_,e,h3,_⟩⟩:=hB
     ·rw[e]at e2';cases e2'
     ·rw[e]at e2';cases e2';exact A8 h3
    case map=>obtain⟨b1,_,_,_,_,e,h3,_⟩:=hB;rw[e]at e2';cases e2';exact A8 h3
   omega
theorem Aga{h:Nat→Option Blk'}{H:HH}{k:Blk'}:updH h H (H++[k]) [H.length]=putH h H.length k:=by
 funext i
 simp only[updH,chg,putH,List.mem_singleton,List.length_append,List.length_singleton]
 by_cases hi:i=H.length
 ·subst hi;simp
 ·rw[if_neg (by omega),if_neg hi]
theorem Ako{h:Nat→Option Blk'}{H:HH}{fz:List Nat}(h1:∀i∈fz,i<H.length∧h i=H[i]?):updH h H (frzs fz H) fz=frzF fz h:=by
 funext i
 simp only[updH,chg,frzF,Ah]
 by_cases hi:i∈fz
 ·rw[if_pos (.inl hi),if_pos hi,Cp,if_pos hi,(h1 i hi).2]
 ·rw[if_neg (by simp[hi]<;>omega),if_neg hi]
theorem A02{h:Nat→Option Blk'}{H:HH}{k:Blk'}{fz wr:List Nat}(h1:∀i∈fz,i<H.length∧h i=H[i]?)(hw:∀i,i∈wr↔i=H.length∨i∈fz):updH h H (frzs fz H++[k]) wr=putH (frzF fz h) H.length k:=by
 funext i
 simp only[updH,chg,putH,frzF,List.length_append,Ah,List.length_singleton,hw]
 by_cases hn:i=H.length
 ·subst hn
  simp[List.getElem?_append,Ah]
 ·by_cases hi:i∈fz
  ·have:=(h1 i hi).1
   rw[if_pos (.inl (.inr hi)),if_neg hn,if_pos hi,List.getElem?_append_left (by rw[Ah];exact this),Cp,if_pos hi,(h1 i hi).2]
  ·rw[if_neg (by simp[hi,hn];omega),if_neg hn,if_neg hi]

section
variable {P:Program} {specs:List Spec} {o:Oper} {L:LL} {H:HH} {Z:Type} {κ:AV→HH→List Nat→List Nat→Option Z} {z:Z}
theorem OpS.new{v:AV}{k:Blk'}{rd fz wr:List Nat}(hnd:∀c,o.op≠.defer c)(hfz:∀i∈fz,i<H.length)(hrd:∀i∈fz,i∈rd)(hw:∀i,i∈wr↔i=H.length∨i∈fz)
  (hq:∀(g:Gh) (h:Nat→Option Blk') (w:World) (ρ:Operand→Value),Opds g L ρ o.op.operands→Sim g h w→Frz g w H fz→(∀i∈rd,i<H.length→h i=if i∈fz then H[i]?.map frzB else H[i]?)→g.ρ H.length=none →
   ∃b ob w' c m v',(execOp ρ o).run P w=.ok (.value v') w'∧X5 b ob w w'∧RepBlk (newG g H.length (some (b,c,m))) w' H.length k∧RepV (newG g H.length (some (b,c,m))) v v') :
  OpS P o L H v (frzs fz H++[k]) rd wr:=by
 refine⟨hnd,by simp[Ah],fun i hi=>?_,fun i=>⟨fun h1 h2=>?_,fun h1 h2=>(hw i).2 (.inl ?_)⟩,fun g h w ρ hO hs hh hn=>?_⟩
 rotate_left
 ·rw[List.getElem?_append_left (by rw[Ah];exact h1),Cp,if_neg (fun hf=>h2 ((hw i).2 (.inr hf)))]
 ·rw[List.length_append,Ah,List.length_singleton]at h2;omega
 rotate_right
 ·rw[List.length_append,Ah,List.length_singleton]
  rcases(hw i).1 hi with h | h
  ·omega
  ·have:=hfz i h;omega
 ·have hh1:∀i∈fz,i<H.length∧h i=H[i]?:=fun i hi=>⟨hfz i hi,hh i (.inl (hrd i hi)) (hfz i hi)⟩
  obtain⟨g1,st1,hs1⟩:=Mc fz hs
  have hO1:Opds g1 L ρ o.op.operands:=fun x hx a ha=>RepV.mono st1.ge a _ (hO x hx a ha)
  have hρ1:g1.ρ H.length=none:=by
   cases e:g1.ρ H.length with
   | none=>rfl
   | some x=>exact absurd (st1.ρn H.length (hn H.length (Nat.le_refl _) (by simp[Ah])).1 (by rw[e];simp)) id
  obtain⟨b,ob,w',c,m,v',hr,hN,hB,hv⟩:=hq g1 _ w ρ hO1 hs1 (K8 hs1 (fun i hi hl=>(hh1 i hi).2)) (fun i hi hl=>by
   simp only[frzF]
   have:=hh i (.inl hi) hl
   rw[this]) hρ1
  simp only[Exec,hr]
  obtain⟨st2,hs2⟩:=Acb (S:=Sw g h wr) hs1 hN hρ1 hB
  refine⟨_,((st1.mono (fun x hx=>Sw.sub (fun i hi=>(hw i).2 (.inr hi)) hx) (fun _ hx=>hx.elim)).trans st2 (fun x hx=>.inl hx) (fun i hi=>?_)),?_,hv⟩
  ·subst hi;simp[Ah]
  ·rw[A02 hh1 hw];exact hs2
theorem Anp{t:TypeId}{v:Value}(w:World):∃b w',(Instr.box t v).run P w=.ok (.pointer (some ⟨b,0,none⟩)) w'∧X5 b (.cells v.cells t (0,0)) w w':=by
 have hN:=New.mk' (.cells v.cells t (0,0)) w
 exact⟨w.heap.size,_,by simp[Instr.box,newVar,newRow,newObj,Sem.run_bind,Sem.run,Result.andThen,Sem.run_pure],rfl,hN.ext,hN.size,hN.blk⟩
theorem Aoy{t:TypeId}{x:Operand}(hop:o.op=.box t x)(h:evOp P specs o L H κ=some z):OpR P o L H κ z:=by
 simp only[evOp,hop]at h
 obtain⟨v,hx,h1⟩:=bind_some h
 obtain⟨n,hn,h2⟩:=bind_some h1
 clear h h1
 split at h2
 ·rename_i hc
  refine⟨_,_,_,_,h2,OpS.new (fz:=[]) (by simp[hop]) (by simp) (by simp) (by simp) (fun g hh w ρ hO hs _ _ hρ=>?_)⟩
  have hv:=hO.get (x:=x) (by simp[hop,Op.operands]) hx
  obtain⟨b,w',hr,hN⟩:=Anp (P:=P) (t:=t) (v:=ρ x) w
  refine⟨b,_,w',0,0,_,by simp[execOp,hop,hr],hN,?_,b,0,0,Ad _ _ _,rfl⟩
  refine⟨b,0,0,(ρ x).cells.toList,t,Ad _ _ _,by simpa using hN.blk,A7.mono (Hm hρ) _ _ (Cw hv hc.2),?_⟩
  rw[hN.at_];exact hs.fresh
 ·cases h2

theorem L0{v:Value}(h:isNilS v=true):v=.slice none 0 0:=by
 unfold isNilS at h;split at h
 ·rfl
 ·cases h
theorem Anu(k:IntKind):k.min≤0∧0≤k.max:=by cases k<;>decide
theorem Ha(M:Nat→Option Obj):∀(t:Ty) (vs r:List Value),zeroD t vs=some r→∃us,vs=us++r∧RepC M t t.dflt us
 | .int k,[],r,h=>by simp[zeroD]at h
 | .int k,v::q,r,h=>by
  simp only[zeroD]at h
  split at h
  ·split at h
   ·rename_i hc;obtain⟨rfl,rfl⟩:=hc
    cases h
    exact⟨[_],rfl,rfl,Anu _⟩
   ·cases h
  ·cases h
 | .bool,[],r,h=>by simp[zeroD]at h
 | .bool,v::q,r,h=>by
  simp only[zeroD]at h
  split at h
  ·cases h;exact⟨[_],rfl,rfl⟩
  ·cases h
 | .pair a b,vs,r,h=>by
  simp only[zeroD]at h
  obtain⟨q,hq,h2⟩:=bind_some h
  clear h
  obtain⟨u1,rfl,h1⟩:=Ha M a _ _ hq
  obtain⟨u2,rfl,h3⟩:=Ha M b _ _ h2
  exact⟨u1++u2,by simp,u1,u2,rfl,h1,h3⟩
 | .sl t,[],r,h=>by simp[zeroD]at h
 | .sl t,v::q,r,h=>by
  simp only[zeroD]at h
  split at h
  ·rename_i hn
   cases h
   rw[L0 hn]
   exact⟨[_],rfl,_,rfl,by simp[Ty.dflt],none,0,rfl,Nat.le_refl _,.inl rfl⟩
  ·cases h
 | .ptr t,[],r,h=>by simp[zeroD]at h
 | .ptr t,v::q,r,h=>by simp[zeroD]at h
theorem T8(M:Nat→Option Obj)(t:Ty):∀(n:Nat) (vs r:List Value),zeroDs t n vs=some r→∃us,vs=us++r∧RepL M t (List.replicate n t.dflt) us
 | 0,vs,r,h=>by simp only[zeroDs,Option.some.injEq]at h;subst h;exact⟨[],rfl,rfl⟩
 | n+1,vs,r,h=>by
  simp only[zeroDs]at h
  obtain⟨q,hq,h2⟩:=bind_some h
  clear h
  obtain⟨u1,rfl,h1⟩:=Ha M t _ _ hq
  obtain⟨u2,rfl,h3⟩:=T8 M t n _ _ h2
  exact⟨u1++u2,by simp,u1,u2,rfl,h1,h3⟩
def ArrZ(ps:List AV):Prop:=∀t n l,AV.arr t n l∈ps→l=List.replicate n t.dflt
theorem Akk:∀(n:Nat) (t:TypeId) (ps:List AV),zp P n t=some ps→ArrZ ps
 | 0,_,_,h=>by simp[zp]at h
 | n+1,t,ps,h=>by
  unfold zp at h
  split at h
  ·cases h;intro t n l h;simp at h
  ·cases h;intro t n l h;simp at h
  ·cases h;intro t n l h;simp at h
  ·cases h;intro t n l h;simp at h
  ·cases h;intro t n l h;simp at h
  ·cases h;intro t n l h;simp at h
  ·rename_i fs _
   have:∀(l:List TypeId) (ps:List AV),zp.zps l (zp P n)=some ps→ArrZ ps:=by
    intro l
    induction l with
    | nil=>intro ps h;simp only[zp.zps,Option.some.injEq]at h;subst h;intro t n l h;simp at h
    | cons a l ih=>
     intro ps h
     simp only[zp.zps]at h
     obtain⟨x,hx,h⟩:=bind_some h
     obtain⟨y,hy,rfl⟩:=map_some h
     intro t m l hm
     rcases List.mem_append.1 hm with hm | hm
     ·exact Akk n a x hx t m l hm
     ·exact ih y hy t m l hm
   exact this _ _ h
  ·split at h
   ·cases h;intro t n l h;simp only[List.mem_singleton,AV.arr.injEq]at h;obtain⟨rfl,rfl,h⟩:=h;exact eq_of_heq h
   ·cases h;intro t n l h;simp only[List.mem_singleton,AV.arr.injEq]at h;obtain⟨rfl,rfl,h⟩:=h;exact eq_of_heq h
   ·cases h
  ·cases h
theorem Ab7(g:Gh){p:AV}{v:Value}(h:zeroM p v=true):PartOf g p [v] (RepV g p):=by
 cases p<;>(try (cases v<;>simp[zeroM]at h;done))
 case i k n=>
  cases v<;>simp[zeroM]at h
  obtain⟨⟨rfl,rfl⟩,rfl⟩:=h
  exact⟨_,rfl,rfl,Anu _⟩
 case b c=>cases v<;>simp[zeroM]at h;obtain⟨rfl,rfl⟩:=h;exact⟨_,rfl,rfl⟩
 case nilp=>cases v<;>simp[zeroM]at h;subst h;exact⟨_,rfl,rfl⟩
 case nilf=>cases v<;>simp[zeroM]at h;exact⟨_,rfl,rfl⟩
 case nils=>
  simp only[zeroM]at h
  exact⟨_,rfl,L0 h⟩
 case nilm=>cases v<;>simp[zeroM]at h;subst h;exact⟨_,rfl,rfl⟩
theorem U8(g:Gh):∀(ps:List AV) (vs:List Value),matchP ps vs=true→ArrZ ps→A7 g ps vs
 | [],vs,h,_=>by simp[matchP]at h;subst h;rfl
 | p::ps,vs,h,hz=>by
  have ih:=fun us h=>U8 g ps us h (fun t n l hm=>hz t n l (by simp[hm]))
  simp only[matchP]at h
  split at h
  ·rename_i t n l
   have e:=hz t n l (by simp)
   subst e
   split at h
   ·rename_i r hr
    obtain⟨us,rfl,hL⟩:=T8 g.M t n vs r hr
    exact⟨us,r,rfl,⟨by simp,hL⟩,ih r h⟩
   ·cases h
  ·split at h
   ·cases h
   ·rename_i v us
    simp only[Bool.and_eq_true]at h
    exact⟨[v],us,rfl,Ab7 g h.1,ih us h.2⟩
theorem Y1{t:TypeId}{ps:List AV}(h:zeroP P t=some ps):∃z,(∀w,(zeroValue t).run P w=.ok z w)∧∀g,A7 g ps z.cells.toList:=by
 unfold zeroP at h
 split at h
 ·rename_i ps' i h1 h2
  split at h
  ·rename_i zv hz
   split at h
   ·rename_i hm
    simp only[Option.some.injEq]at h;subst h
    refine⟨zv,fun w=>?_,fun g=>U8 g _ _ hm (Akk 9 t _ h1)⟩
    simp only[zeroValue,Sem.run_bind,Fj h2,Result.andThen_ok,hz,Sem.run_pure]
   ·cases h
  ·cases h
 ·cases h
theorem Ahw{t:TypeId}(hop:o.op=.alloc t)(h:evOp P specs o L H κ=some z):OpR P o L H κ z:=by
 simp only[evOp,hop]at h
 obtain⟨ps,hps,h1⟩:=bind_some h
 obtain⟨zv,hz,hp⟩:=Y1 hps
 refine⟨_,_,_,_,h1,OpS.new (fz:=[]) (by simp[hop]) (by simp) (by simp) (by simp) (fun g hh w ρ hO hs _ _ hρ=>?_)⟩
 have hN:=New.mk' (.cells zv.cells t (0,0)) w
 refine⟨w.heap.size,_,_,0,0,.pointer (some ⟨w.heap.size,0,none⟩),?_,⟨rfl,hN.ext,hN.size,hN.blk⟩,?_,w.heap.size,0,0,Ad _ _ _,rfl⟩
 ·simp[execOp,hop,Instr.alloc,newVar,newRow,newObj,Sem.run_bind,Sem.run,Result.andThen,Sem.run_pure,hz]
 ·exact⟨w.heap.size,0,0,zv.cells.toList,t,Ad _ _ _,by simpa using hN.blk,hp _,hs.fresh⟩
end
end Go.Proofs.YtfcnhnbnjdccfaaGreat

namespace Go.Proofs.YtfcnhnbnjdccfaaGreat
set_option linter.all false
open Go

theorem Ap0(X us Y vc:List Value)(j:Nat)(h:j+vc.length≤us.length) :
  (X++us++Y).take (X.length+j)++vc++(X++us++Y).drop (X.length+j+vc.length)=X++(us.take j++vc++us.drop (j+vc.length))++Y:=by
 have e1:(X++us++Y).take (X.length+j)=X++us.take j:=by
  rw[List.append_assoc,List.take_append,List.take_of_length_le (by omega),Nat.add_sub_cancel_left,List.take_append_of_le_length (by omega)]
 have e2:(X++us++Y).drop (X.length+j+vc.length)=us.drop (j+vc.length)++Y:=by
  rw[List.append_assoc,List.drop_append,List.drop_of_length_le (by omega),List.nil_append,show X.length+j+vc.length-X.length=j+vc.length by omega,List.drop_append_of_le_length h]
 rw[e1,e2];simp
theorem RepL.split3{M:Nat→Option Obj}{t:Ty}:∀(l:List t.den) (vs:List Value) (i:Nat) (x:t.den),RepL M t l vs→l[i]?=some x →
  ∃A us B,vs=A++us++B∧A.length=i*t.cells∧RepC M t x us∧∀x' us',RepC M t x' us'→RepL M t (l.set i x') (A++us'++B)
 | y::ys,_,0,x,⟨v1,v2,e,h1,h2⟩,hi=>by
  simp at hi;subst hi;subst e
  exact⟨[],v1,v2,rfl,by simp,h1,fun x' us' hx=>⟨us',v2,rfl,hx,h2⟩⟩
 | y::ys,_,i+1,x,⟨v1,v2,e,h1,h2⟩,hi=>by
  subst e
  obtain⟨A,us,B,rfl,hl,hC,hset⟩:=RepL.split3 ys v2 i x h2 (by simpa using hi)
  refine⟨v1++A,us,B,by simp,?_,hC,fun x' us' hx=>⟨v1,A++us'++B,by simp,h1,hset x' us' hx⟩⟩
  rw[List.length_append,(RepC.len t _ _ h1).1,hl,Nat.succ_mul];omega
theorem Um{P:Program}{w:World}{t:TypeId}{n b o:Nat}{v:Value}{vs:List Value}{ty:TypeId}(hn:szOf P t=some n)(hl:v.cells.toList.length=n)(hf:∀c∈v.cells.toList,flat c=true)
  (hB:w.heap[b]?=some (.cells vs.toArray ty (0,0))) (hle:o+n≤vs.length) :
  ∃w',(Instr.storeAt t (.pointer (some ⟨b,o,none⟩)) v).run P w=.ok () w'∧Put b (.cells (vs.take o++v.cells.toList++vs.drop (o+n)).toArray ty (0,0)) w w':=by
 have hst:=Bw (P:=P) v.cells.toList o 0 vs w hf (by rw[hl];omega) hB
 simp only[Nat.add_zero,hl]at hst
 refine⟨_,?_,Put.mk' _ hB⟩
 have hsz:v.cells.size=n:=by simpa using hl
 simp only[Instr.storeAt,Instr.sureAddr,storeVar,Sem.run_bind,Sem.run_pure,Result.andThen_ok,B6 hn,hsz,ne_eq,not_true_eq_false,if_false,hst]
theorem Gu{g:Gh}{h:Nat→Option Blk'}{w w':World}{id b c n:Nat}{k0 k':Blk'}{ob:Obj}{wr:List Nat}{nw:Nat→Prop}(hs:Sim g h w)(hid:h id=some k0)(hm:k0.mut=true)(hρ:g.ρ id=some (some (b,c,n)))
  (hP:Put b ob w w') (hwr:id∈wr) (hMb:g.M b=none) (hk:RepBlk g w' id k'):Stp (Sw g h wr) nw g w g w'∧Sim g (putH h id k') w':=by
 have st:∀wr,id∈wr→Stp (Sw g h wr) nw g w g w':=fun wr hwr=>by
  refine⟨hP.upd.os,hP.upd.tape,hP.upd.output,by rw[hP.size];exact Nat.le_refl _,fun x hx hS=>hP.upd.same x hx (fun hxb=>?_),GE.refl g,fun i h0 h1=>absurd h0 h1,fun i _ _ _ h0 h1=>(by rw[h0]at h1;cases h1),fun x o hx=>.inl hx⟩
  simp at hxb;subst hxb
  exact hS ⟨id,hwr,k0,c,n,hid,hm,hρ⟩
 refine⟨st wr hwr,hs.step (wr:=[id]) (st _ (by simp)) (fun x o hx=>?_) (fun i=>i=id) (fun i hi=>by simp[putH,hi]) (by simp) (fun i k hi hk2=>?_) (fun i j ki kj x ci ni cj nj hi h1 h2 m1 m2 e1 e2=>?_)⟩
 ·have hne:x≠b:=fun e=>by subst e;rw[hMb]at hx;cases hx
  exact hP.upd.blk (hs.mem x o hx) (by simpa using hne)
 ·subst hi;simp only[putH,if_true,Option.some.injEq]at hk2;subst hk2;exact hk
 ·subst hi
  by_cases hj:j=i
  ·exact hj.symm
  ·simp only[putH,hj,if_false]at h2
   exact hs.inj i j k0 kj x ci ni cj nj hid h2 hm m2 e1 e2
theorem Ph{h:Nat→Option Blk'}{H:HH}{k:Blk'}{id:Nat}(hid:id<H.length):updH h H (H.set id k) [id]=putH h id k:=by
 funext i
 simp only[updH,chg,putH,List.mem_singleton,List.length_set]
 by_cases hi:i=id
 ·subst hi;simp[hid]
 ·rw[if_neg (by omega),if_neg hi]
theorem A4v{h:Nat→Option Blk'}{H:HH}{k:Blk'}{id:Nat}{fz:List Nat}(hid:id<H.length)(h1:∀i∈fz,i<H.length∧h i=H[i]?):updH h H ((frzs fz H).set id k) (id::fz)=putH (frzF fz h) id k:=by
 funext i
 simp only[updH,chg,putH,frzF,List.mem_cons,List.length_set,Ah]
 by_cases hi:i=id
 ·subst hi;simp[hid,Ah]
 ·by_cases hf:i∈fz
  ·rw[if_pos (.inl (.inr hf)),if_neg hi,if_pos hf,List.getElem?_set_ne (fun e=>hi e.symm),Cp,if_pos hf,(h1 i hf).2]
  ·rw[if_neg (by simp[hi,hf]<;>omega),if_neg hi,if_neg hf]
theorem Ael{H:HH}:∀(t:Ty) (ps:List AV) (r:t.den×List AV×List Nat),un H t ps=some r→∀i∈r.2.2,i<H.length
 | .int k,ps,r,h=>by obtain⟨n,q,rfl,rfl⟩:=Ac4 h;simp
 | .bool,ps,r,h=>by obtain⟨n,q,rfl,rfl⟩:=A2v h;simp
 | .pair a b,ps,r,h=>by
  rcases A2t h with h | ⟨x,y,hx,hy,rfl⟩
  ·obtain⟨k,l,q,e,rfl,rfl⟩:=Zb h
   simp
  intro i hi
  rcases List.mem_append.1 hi with hi | hi
  ·exact Ael a ps x hx i hi
  ·exact Ael b _ y hy i hi
 | .sl t,ps,r,h=>by
  rcases Aj0 h with⟨l,q,rfl,rfl⟩ | ⟨q,rfl,rfl⟩ | ⟨id,l,q,rfl,hc,rfl⟩
  ·simp
  ·simp
  ·intro i hi
   simp at hi;subst hi
   unfold cont at hc
   split at hc
   ·rename_i hb;exact(List.getElem?_eq_some_iff.1 hb).1
   ·rename_i hb;exact(List.getElem?_eq_some_iff.1 hb).1
   ·cases hc
 | .ptr t,ps,r,h=>by obtain⟨x,q,rfl,rfl⟩:=Ac3 h;simp
theorem A4m{g:Gh}{v:AV}{u:Value}(hv:RepV g v u)(hp:v.parts.all AV.part=true):u.cells.toList.length=psz v.parts∧∀c∈u.cells.toList,flat c=true:=A7.len _ _ (Cw hv hp)

theorem Sw.frz{g g1:Gh}{h:Nat→Option Blk'}{w:World}{fz wr:List Nat}(hs:Sim g h w)(hge:GE g g1){b:Nat}(hb:Sw g1 (frzF fz h) wr b):Sw g h wr b:=by
 obtain⟨i,hi,k,c,n,hk,hm,e⟩:=hb
 have key:∃k0,h i=some k0∧k0.mut=true:=by
  dsimp only[frzF]at hk
  split at hk
  ·cases hh:h i with
   | none=>rw[hh]at hk;cases hk
   | some k0=>
    rw[hh]at hk
    simp only[Option.map_some,Option.some.injEq]at hk
    subst hk
    exact⟨k0,rfl,by cases k0<;>simp_all [frzB,Blk'.mut]⟩
  ·exact⟨k,hk,hm⟩
 obtain⟨k0,h0,hm0⟩:=key
 obtain⟨x,hx⟩:=(hs.blk i k0 h0).known hm0
 have:=hge.ρ i x hx
 rw[this]at e;cases e
 exact⟨i,hi,k0,c,n,h0,hm0,hx⟩

section
variable {P:Program} {specs:List Spec} {o:Oper} {L:LL} {H:HH} {Z:Type} {κ:AV→HH→List Nat→List Nat→Option Z} {z:Z}

theorem Ain{t:TypeId}{x v:Operand}(hop:o.op=.store t x v)(h:evOp P specs o L H κ=some z):OpR P o L H κ z:=by
 simp only[evOp,hop]at h
 obtain⟨vx,hx,h1⟩:=bind_some h
 obtain⟨vv,hv,h2⟩:=bind_some h1
 obtain⟨n,hn,h3⟩:=bind_some h2
 clear h h1 h2
 split at h3
 rotate_left
 ·cases h3
 rename_i hc
 obtain⟨hpz,hpt⟩:=hc
 split at h3
 ·rename_i id base
  split at h3
  rotate_left
  ·cases h3
  rename_i ps hb
  obtain⟨ps',hps,h4⟩:=bind_some h3
  have hlt:id<H.length:=(List.getElem?_eq_some_iff.1 hb).1
  refine⟨_,_,_,_,h4,by simp[hop],by simp,by simpa using hlt,fun i=>⟨fun _ h2=>List.getElem?_set_ne (fun e=>h2 (by simp[e])),fun h1 h2=>by rw[List.length_set]at h2;omega⟩,fun g h w ρ hO hs hh hnw=>?_⟩
  have rx:=hO.get (x:=x) (by simp[hop,Op.operands]) hx
  have rv:=hO.get (x:=v) (by simp[hop,Op.operands]) hv
  have hid:=hh id (by simp) hlt
  rw[hb]at hid
  obtain⟨b,c,m,vs,ty,e1,e2,hp,hM⟩:=hs.blk id _ hid
  simp only[RepV]at rx
  obtain⟨b',c',m',e3,er⟩:=rx
  rw[e1]at e3;cases e3
  obtain⟨hl,hf⟩:=A4m rv hpt
  rw[hpz]at hl
  obtain⟨hle,hp'⟩:=J1 ps base _ ps' vs _ hps hp (Cw rv hpt)
  rw[hl]at hle hp'
  obtain⟨w',hr,hP⟩:=Um (P:=P) hn hl hf e2 hle
  obtain⟨st,hs'⟩:=Gu (k':=.segs ps') (wr:=[id]) (nw:=fun i=>H.length≤i∧i<(H.set id (.segs ps')).length) hs hid rfl e1 hP (by simp) hM ⟨b,c,m,_,ty,e1,hP.blk,hp',hM⟩
  have:(execOp ρ o).run P w=.ok .skip w':=by
   simp only[execOp,hop,er,Sem.run_bind,hr,Result.andThen_ok,Sem.run_pure]
  simp only[Exec,this]
  exact⟨g,st,by rw[Ph hlt];exact hs',rfl⟩
 ·rename_i id base k c j
  split at h3
  rotate_left
  ·cases h3
  rename_i y l harr
  split at h3
  rotate_left
  ·cases h3
  rename_i hcc
  subst hcc
  obtain⟨xv,hxv,h4⟩:=get_some h3
  obtain⟨ps,hps,h5⟩:=bind_some h4
  obtain⟨zz,hzz,h6⟩:=bind_some h5
  clear h3 h4 h5
  split at h6
  rotate_left
  ·cases h6
  rename_i hz
  simp only[Bool.and_eq_true,List.isEmpty_iff,Bool.not_eq_true',List.contains_eq_mem,decide_eq_false_iff_not]at hz
  obtain⟨hrest,hnid⟩:=hz
  obtain⟨H',hset,h7⟩:=bind_some h6
  clear h6
  have hfz:=Ael y ps zz hzz
  -- the block
  have hex:∃kb,H[id]?=some kb:=by
   unfold arrAt at harr
   split at harr
   ·rename_i hb;exact⟨_,hb⟩
   ·rename_i hb;exact⟨_,hb⟩
   ·cases harr
  obtain⟨kb,hb⟩:=hex
  have hlt:id<H.length:=(List.getElem?_eq_some_iff.1 hb).1
  have hfb:(frzs zz.2.2 H)[id]?=some kb:=by rw[Cp,if_neg hnid,hb]
  -- how the block reads then
  have hH':∃k',H'=(frzs zz.2.2 H).set id k'∧∀(g:Gh) (w:World) (b:Nat) (c m:Nat),g.ρ id=some (some (b,c,m))→RepBlk g w id kb→kb.mut=true ∧
    ∃X us Y ty,w.heap[b]?=some (.cells (X++us++Y).toArray ty (0,0))∧X.length=base+k*y.cells∧RepC g.M y xv us∧g.M b=none ∧
     ∀(w':World) us',us'.length=us.length→RepC g.M y zz.1 us'→w'.heap[b]?=some (.cells (X++us'++Y).toArray ty (0,0))→RepBlk g w' id k':=by
   unfold arrAt at harr
   unfold Aih at hset
   rw[hfb]at hset
   rw[hb]at harr
   cases kb with
   | rsegs ps0=>simp only at harr;cases harr
   | lst t' l'=>
    simp only at harr hset
    split at harr
    ·rename_i h0
     subst h0
     simp only[Option.some.injEq,Sigma.mk.injEq]at harr
     obtain⟨rfl,hl⟩:=harr
     have hl:=eq_of_heq hl
     subst hl
     simp only[Option.some.injEq]at hset
     refine⟨.lst t' (l'.set k zz.1),hset.symm,fun g w b c m e1 hB=>⟨rfl,?_⟩⟩
     obtain⟨hlen,hB⟩:=hB
     rcases hB with⟨e,rfl⟩ | ⟨b1,c1,vs,rest,ty,e2,e3,hL,hc1,hr1,hM⟩
     ·simp at hxv
     ·rw[e1]at e2
      simp only[Option.some.injEq,Prod.mk.injEq]at e2
      obtain⟨rfl,rfl,hm⟩:=e2
      obtain⟨A,us,B,rfl,hA,hC,hSet⟩:=RepL.split3 l' vs k xv hL hxv
      refine⟨A,us,B++rest,ty,by simpa using e3,by simpa using hA,hC,hM,fun w' us' hl' hC' hw=>⟨by simpa using hlen,.inr ⟨b,c,A++us'++B,rest,ty,by rw[e1,hm];simp,by simpa using hw,hSet _ _ hC',by simpa using hc1,by simpa using hr1,hM⟩⟩⟩
    ·cases harr
   | segs ps0=>
    simp only at harr hset
    split at harr
    ·rename_i t' n' l' q hsk
     simp only[Option.some.injEq,Sigma.mk.injEq]at harr
     obtain⟨rfl,hl⟩:=harr
     have hl:=eq_of_heq hl
     subst hl
     rw[hsk]at hset
     simp only at hset
     obtain⟨ps1,hps1,rfl⟩:=map_some hset
     refine⟨_,rfl,fun g w b c m e1 hB=>⟨rfl,?_⟩⟩
     obtain⟨b1,c1,m1,vs,ty,e2,e3,hp,hM⟩:=hB
     rw[e1]at e2;cases e2
     obtain⟨l1,p1⟩:=As ps0 base _ vs hsk hp
     simp only[A7,PartOf]at p1
     obtain⟨v1,v2,e4,⟨hn',hL⟩,hrest2⟩:=p1
     obtain⟨A,us,B,rfl,hA,hC,hSet⟩:=RepL.split3 l' v1 k xv hL hxv
     have evs:vs=vs.take base++(A++us++B++v2):=by rw[←e4,List.take_append_drop]
     have hvl:(vs.take base).length=base:=by rw[List.length_take];omega
     refine⟨vs.take base++A,us,B++v2,ty,?_,by rw[List.length_append,hvl,hA],hC,hM,fun w' us' hl' hC' hw=>?_⟩
     ·rw[e3];congr 2;congr 1;conv=>lhs;rw[evs]
      simp
     ·have hnew:A7 g [.arr t' n' (l'.set k zz.1)] (A++us'++B):=⟨A++us'++B,[],by simp,⟨by simpa using hn',hSet _ _ hC'⟩,rfl⟩
      obtain⟨_,hp2⟩:=J1 ps0 base _ ps1 vs _ hps1 hp hnew
      refine⟨b,c,m,_,ty,e1,?_,hp2,hM⟩
      rw[hw]
      congr 2;congr 1
      have hd:vs.drop (base+(A++us'++B).length)=v2:=by
       have:(A++us'++B).length=(A++us++B).length:=by simp[hl']
       rw[this,←List.drop_drop,e4,List.drop_left]
      rw[hd];simp
    ·cases harr
   | frz _ _=>simp at harr
   | map _ _ _=>simp at harr
   | dead=>simp at harr
  obtain⟨k',rfl,hkey⟩:=hH'
  refine⟨_,_,_,_,h7,by simp[hop],by simp[Ah],fun i hi=>?_,fun i=>⟨fun _ h2=>by rw[List.getElem?_set_ne (fun e=>h2 (by simp[e])),Cp,if_neg (fun hf=>h2 (List.mem_cons_of_mem _ hf))],fun h1 h2=>by rw[List.length_set,Ah]at h2;omega⟩,fun g h w ρ hO hs hh hnw=>?_⟩
  ·rw[List.length_set,Ah]
   rcases List.mem_cons.1 hi with rfl | hi
   ·exact hlt
   ·exact hfz i hi
  ·have hh1:∀i∈zz.2.2,i<H.length∧h i=H[i]?:=fun i hi=>⟨hfz i hi,hh i (.inl (by simp[hi])) (hfz i hi)⟩
   obtain⟨g1,st1,hs1⟩:=Mc zz.2.2 hs
   have hF:=K8 hs1 (fun i hi _=>(hh1 i hi).2)
   have rx:=RepV.mono st1.ge _ _ (hO.get (x:=x) (by simp[hop,Op.operands]) hx)
   have rv:=RepV.mono st1.ge _ _ (hO.get (x:=v) (by simp[hop,Op.operands]) hv)
   have hid:=hh id (by simp) hlt
   rw[hb]at hid
   have hid1:frzF zz.2.2 h id=some kb:=by simp[frzF,hnid,hid]
   simp only[RepV]at rx
   obtain⟨b,c',m',e3,er⟩:=rx
   -- the world behind the store
   obtain⟨hl,hf⟩:=A4m rv hpt
   rw[hpz]at hl
   obtain⟨hmut,X,us,Y,ty,e2,hX,hC,hM,hnew⟩:=hkey g1 w b c' m' e3 (hs1.blk id _ hid1)
   have hav:=A7.avs y xv us hC
   obtain⟨hle,hp'⟩:=J1 _ j _ ps us _ hps hav (Cw rv hpt)
   obtain⟨v1,v2,ee,hC',hr2⟩:=Mi y ps zz _ hzz hp' hF
   rw[hrest]at hr2
   simp only[A7]at hr2
   subst hr2
   rw[List.append_nil]at ee
   rw[hl]at hle
   obtain⟨w',hr,hP⟩:=Um (P:=P) (o:=base+k*y.cells+j) hn hl hf e2 (by simp;omega)
   have hsp:=Ap0 X us Y (ρ v).cells.toList j (by omega)
   rw[hX,hl]at hsp
   rw[hsp]at hP
   have hlen':((us.take j++(ρ v).cells.toList++us.drop (j+n))).length=us.length:=by
    simp only[List.length_append,List.length_take,List.length_drop,hl];omega
   rw[hl]at ee
   rw[←ee]at hC'
   obtain⟨st,hs'⟩:=Gu (k':=k') (wr:=id::zz.2.2) (nw:=fun i=>H.length≤i∧i<((frzs zz.2.2 H).set id k').length) hs1 hid1 hmut e3 hP (by simp) hM (hnew w' _ hlen' hC' hP.blk)
   have:(execOp ρ o).run P w=.ok .skip w':=by
    simp only[execOp,hop,er,Sem.run_bind,hr,Result.andThen_ok,Sem.run_pure]
   simp only[Exec,this]
   refine⟨g1,(st1.mono (fun x hx=>Sw.sub (fun i hi=>List.mem_cons_of_mem _ hi) hx) (fun _ hx=>hx.elim)).trans st (fun x hx=>?_) (fun _ hx=>hx),by rw[A4v hlt hh1];exact hs',rfl⟩
   exact .inl (Sw.frz hs st1.ge hx)
 ·cases h3
end
end Go.Proofs.YtfcnhnbnjdccfaaGreat

namespace Go.Proofs.YtfcnhnbnjdccfaaGreat
set_option linter.all false
open Go

theorem Ag7(us:List Value):∀(k off:Nat) (vs:List Value),off+k+us.length≤vs.length →
  (us.zipIdx k).foldl (fun(cs:Array Value) (x:Value×Nat)=>cs.setIfInBounds (off+x.2) x.1) vs.toArray=(vs.take (off+k)++us++vs.drop (off+k+us.length)).toArray:=by
 induction us with
 | nil=>intro k off vs h;simp
 | cons u us ih=>
  intro k off vs h
  simp only[List.length_cons]at h
  simp only[List.zipIdx_cons,List.foldl_cons,List.setIfInBounds_toArray]
  rw[ih (k+1) off (vs.set (off+k) u) (by simp;omega)]
  congr 1
  have e1:(vs.set (off+k) u).take (off+(k+1))=vs.take (off+k)++[u]:=by
   rw[show off+(k+1)=(off+k)+1 by omega,List.take_set,List.take_succ,List.getElem?_eq_getElem (by omega)]
   simp only[Option.toList_some]
   rw[List.set_append_right _ _ (by simp;omega)]
   simp[List.length_take,show min (off+k) vs.length=off+k by omega]
  have e2:(vs.set (off+k) u).drop (off+(k+1)+us.length)=vs.drop (off+k+(us.length+1)):=by
   rw[List.drop_set_of_lt (by omega)];congr 1;omega
  rw[e1,e2];simp
theorem Aj7(v:Value)(off:Nat)(vs:List Value)(h:off+v.cells.toList.length≤vs.length) :
  v.cells.zipIdx.foldl (fun cs (c,j)=>cs.setIfInBounds (off+j) c) vs.toArray=(vs.take off++v.cells.toList++vs.drop (off+v.cells.toList.length)).toArray:=by
 have:=Ag7 v.cells.toList 0 off vs (by omega)
 rw[←Array.foldl_toList,Array.toList_zipIdx]
 simpa using this
theorem Sk{place:Nat→Option (Nat×Nat)}{vs:List Value}{i off n:Nat}{v:Value}{rest:List (Nat×Value)}(hp:place i=some (off,n))(hl:v.cells.toList.length=n)(h:off+n≤vs.length) :
  Instr.fill place vs.toArray ((i,v)::rest)=Instr.fill place (vs.take off++v.cells.toList++vs.drop (off+n)).toArray rest:=by
 have hs:v.cells.size=n:=by simpa using hl
 have h1:=Aj7 v off vs (by rw[hl];exact h)
 rw[hl]at h1
 have hc:¬(v.cells.size≠n∨off+v.cells.size>vs.toArray.size):=by
  rw[hs];simp;omega
 simp only[Instr.fill,hp]
 rw[if_neg (by simpa using hc)]
 exact congrArg (fun x=>Instr.fill place x rest) h1

section
variable {P:Program} {specs:List Spec} {o:Oper} {L:LL} {H:HH} {Z:Type} {κ:AV→HH→List Nat→List Nat→Option Z} {z:Z}

theorem A9a{α β:Type}(f:α→Sem β)(g:α→β):∀(l:List α),(∀x∈l,∀w,(f x).run P w=.ok (g x) w)→∀w,(l.mapM f).run P w=.ok (l.map g) w
 | [],_,w=>by simp
 | x::l,h,w=>by
  simp only[List.mapM_cons,Sem.run_bind,h x (by simp),Result.andThen_ok,A9a f g l (fun y hy=>h y (by simp[hy])),Sem.run_pure,List.map_cons]
theorem Us{g:Gh}{t:TypeId}{fs:Array Field}{ρ:Operand→Value}(hu:P.underlying t=some (.struct fs)){place:Nat→Option (Nat×Nat)}
  (hpl:∀(i:Nat) (f:Field),fs[i]?=some f→∀n,szOf P f.type=some n→place i=some (f.offset,n)) :
  ∀(parts:List (Nat×Operand)) (ps ps':List AV) (vs:List Value),putFields P t L ps parts=some ps'→A7 g ps vs→(∀p∈parts,∀a,opd L p.2=some a→RepV g a (ρ p.2)) →
   ∃vs':List Value,Instr.fill place vs.toArray (parts.map fun p=>(p.1,ρ p.2))=some vs'.toArray∧A7 g ps' vs'
 | [],ps,ps',vs,h,hp,_=>by
  simp only[putFields,Option.some.injEq]at h;subst h
  exact⟨vs,rfl,hp⟩
 | (i,x)::r,ps,ps',vs,h,hp,ho=>by
  simp only[putFields]at h
  obtain⟨f,hf,h1⟩:=bind_some h
  obtain⟨n,hn,h2⟩:=bind_some h1
  obtain⟨a,ha,h3⟩:=bind_some h2
  clear h h1 h2
  split at h3
  rotate_left
  ·cases h3
  rename_i hc
  obtain⟨q,hq,h4⟩:=bind_some h3
  clear h3
  simp only[fldOf,hu]at hf
  obtain⟨fd,hfd,rfl⟩:=map_some hf
  have rv:=ho (i,x) (by simp) a ha
  obtain⟨hl,_⟩:=A4m rv hc.2
  rw[hc.1]at hl
  obtain⟨hle,hp'⟩:=J1 ps fd.offset _ q vs _ hq hp (Cw rv hc.2)
  simp only at hl hle hp'
  rw[hl]at hle hp'
  obtain⟨vs',hr,hp2⟩:=Us hu hpl r q ps' _ h4 hp' (fun p hp=>ho p (by simp[hp]))
  refine⟨vs',?_,hp2⟩
  rw[List.map_cons,Sk (hpl i fd hfd n hn) hl hle]
  exact hr
theorem Xm:∀(t:Ty) (ps:List AV) (r:t.den×List AV×List Nat),un H t ps=some r→∃q,ps=q++r.2.1∧q.all AV.part=true
 | .int k,ps,r,h=>by obtain⟨n,q,rfl,rfl⟩:=Ac4 h;exact⟨[_],rfl,rfl⟩
 | .bool,ps,r,h=>by obtain⟨n,q,rfl,rfl⟩:=A2v h;exact⟨[_],rfl,rfl⟩
 | .pair a b,ps,r,h=>by
  rcases A2t h with h | ⟨x,y,hx,hy,rfl⟩
  ·obtain⟨k,l,q,e,rfl,rfl⟩:=Zb h
   exact⟨[_],rfl,rfl⟩
  obtain⟨q1,e1,a1⟩:=Xm a ps x hx
  obtain⟨q2,e2,a2⟩:=Xm b _ y hy
  exact⟨q1++q2,by rw[e1,e2];simp,by simp[a1,a2]⟩
 | .sl t,ps,r,h=>by
  rcases Aj0 h with⟨l,q,rfl,rfl⟩ | ⟨q,rfl,rfl⟩ | ⟨id,l,q,rfl,hc,rfl⟩<;>exact⟨[_],rfl,rfl⟩
 | .ptr t,ps,r,h=>by obtain⟨x,q,rfl,rfl⟩:=Ac3 h;exact⟨[_],rfl,rfl⟩
theorem A9h{t:Ty}{a:AV}{r:t.den×List Nat}(h:un1 H t a=some r):a.parts.all AV.part=true:=by
 unfold un1 at h
 obtain⟨x,hx,h2⟩:=bind_some h
 split at h2
 ·rename_i he
  obtain⟨q,e,hq⟩:=Xm t _ x hx
  rw[he,List.append_nil]at e
  rw[e];exact hq
 ·cases h2
theorem Al0{t:Ty}{a:AV}{r:t.den×List Nat}(h:un1 H t a=some r):∀i∈r.2,i<H.length:=by
 unfold un1 at h
 obtain⟨x,hx,h2⟩:=bind_some h
 split at h2
 ·simp only[Option.some.injEq]at h2;subst h2
  exact Ael t _ x hx
 ·cases h2
theorem Ku{t:Ty}:∀(parts:List (Nat×Operand)) (l:List t.den) (r:List t.den×List Nat),putElems H L t l parts=some r→(∀i∈r.2,i<H.length)∧r.1.length=l.length
 | [],l,r,h=>by simp only[putElems,Option.some.injEq]at h;subst h;simp
 | (i,x)::q,l,r,h=>by
  simp only[putElems]at h
  obtain⟨a,ha,h1⟩:=bind_some h
  obtain⟨y,hy,h2⟩:=bind_some h1
  split at h2
  ·obtain⟨s,hs,rfl⟩:=map_some h2
   obtain⟨e1,e2⟩:=Ku q _ s hs
   refine⟨fun i hi=>?_,by simpa using e2⟩
   rcases List.mem_append.1 hi with hi | hi
   ·exact Al0 hy i hi
   ·exact e1 i hi
  ·cases h2
theorem Nq{g:Gh}{w:World}{t:Ty}{ρ:Operand→Value}:∀(parts:List (Nat×Operand)) (l:List t.den) (r:List t.den×List Nat) (vs:List Value),putElems H L t l parts=some r→RepL g.M t l vs →
   (∀p∈parts,∀a,opd L p.2=some a→RepV g a (ρ p.2))→Frz g w H r.2 →
   ∃vs':List Value,Instr.fill (fun i=>some (i*t.cells,t.cells)) vs.toArray (parts.map fun p=>(p.1,ρ p.2))=some vs'.toArray∧RepL g.M t r.1 vs'
 | [],l,r,vs,h,hp,_,_=>by
  simp only[putElems,Option.some.injEq]at h;subst h
  exact⟨vs,rfl,hp⟩
 | (i,x)::q,l,r,vs,h,hp,ho,hF=>by
  simp only[putElems]at h
  obtain⟨a,ha,h1⟩:=bind_some h
  obtain⟨y,hy,h2⟩:=bind_some h1
  clear h h1
  split at h2
  rotate_left
  ·cases h2
  rename_i hi
  obtain⟨s,hs,rfl⟩:=map_some h2
  have rv:=ho (i,x) (by simp) a ha
  have hC:=A90 (w:=w) hy (A9h hy) rv (fun id hid=>hF id (by simp[hid]))
  have hl:=(RepC.len t _ _ hC).1
  obtain⟨A,us,B,rfl,hA,hC0,hset⟩:=RepL.split3 l vs i l[i] hp (List.getElem?_eq_getElem hi)
  have hl0:=(RepC.len t _ _ hC0).1
  obtain⟨vs',hr,hp2⟩:=Nq q _ s _ hs (hset _ _ hC) (fun p hp=>ho p (by simp[hp])) (fun id hid=>hF id (by simp[hid]))
  refine⟨vs',?_,hp2⟩
  rw[List.map_cons,Sk (n:=t.cells) rfl hl (by simp[hA,hl0])]
  have e:(A++us++B).take (i*t.cells)++(ρ x).cells.toList++(A++us++B).drop (i*t.cells+t.cells)=A++(ρ x).cells.toList++B:=by
   rw[←hA,←hl0,List.append_assoc A us B,List.take_left,←List.append_assoc A us B,←List.length_append,List.drop_left]
  rw[e];exact hr
theorem OpS.frz{v:AV}{rd fz:List Nat}(hnd:∀c,o.op≠.defer c)(hfz:∀i∈fz,i<H.length)(hrd:∀i∈fz,i∈rd)
  (hq:∀(g:Gh) (h:Nat→Option Blk') (w:World) (ρ:Operand→Value),Opds g L ρ o.op.operands→Sim g h w→Frz g w H fz→(∀i∈rd,i<H.length→h i=if i∈fz then H[i]?.map frzB else H[i]?) →
   ∃v',(execOp ρ o).run P w=.ok (.value v') w∧RepV g v v') :
  OpS P o L H v (frzs fz H) rd fz:=by
 refine⟨hnd,by simp[Ah],fun i hi=>by rw[Ah];exact hfz i hi,fun i=>⟨fun h1 h2=>by rw[Cp,if_neg h2],fun h1 h2=>by rw[Ah]at h2;omega⟩,fun g h w ρ hO hs hh hn=>?_⟩
 have hh1:∀i∈fz,i<H.length∧h i=H[i]?:=fun i hi=>⟨hfz i hi,hh i (.inl (hrd i hi)) (hfz i hi)⟩
 obtain⟨g1,st1,hs1⟩:=Mc fz hs
 have hO1:Opds g1 L ρ o.op.operands:=fun x hx a ha=>RepV.mono st1.ge a _ (hO x hx a ha)
 obtain⟨v',hr,hv⟩:=hq g1 _ w ρ hO1 hs1 (K8 hs1 (fun i hi hl=>(hh1 i hi).2)) (fun i hi hl=>by
  simp only[frzF]
  have:=hh i (.inl hi) hl
  rw[this])
 simp only[Exec,hr]
 exact⟨g1,st1.mono (fun _ h=>h) (fun _ h=>h.elim),by rw[Ako hh1];exact hs1,hv⟩
theorem Aas{fs:Array Field}{i:Nat}{f:Field}{n:Nat}(h1:fs[i]?=some f)(h2:szOf P f.type=some n):((fs.toList.map fun f=>(f.offset,(szOf P f.type).getD 0)).toArray)[i]?=some (f.offset,n):=by
 have:fs.toList[i]?=some f:=by simpa using h1
 simp[List.getElem?_map,this,h2]
theorem S2{t:TypeId}{fs:Array Field}{zv:Value}{cells:Array Value}{ps:Array (Nat×Value)}(hu:P.underlying t=some (.struct fs))(hz:∀w,(zeroValue t).run P w=.ok zv w)(hall:fs.toList.all (fun f=>(szOf P f.type).isSome)=true)
  (hf:Instr.fill ((fs.toList.map fun f=>(f.offset,(szOf P f.type).getD 0)).toArray[·]?) zv.cells ps.toList=some cells) (w:World):(Instr.build t ps).run P w=.ok (.agg cells) w:=by
 have hm:∀w,(fs.mapM fun f=>(do pure (f.offset,←sizeOf f.type):Sem (Nat×Nat))).run P w=.ok ((fs.toList.map fun f=>(f.offset,(szOf P f.type).getD 0)).toArray) w:=by
  intro w
  rw[Array.mapM_eq_mapM_toList,Sem.run_map,A9a _ (fun f:Field=>(f.offset,(szOf P f.type).getD 0)) fs.toList (fun f hf w=>?_),Result.andThen_ok]
  have:=List.all_eq_true.1 hall f hf
  cases hs:szOf P f.type with
  | none=>rw[hs]at this;cases this
  | some n=>simp[B6 hs]
 simp only[Instr.build,Sem.run_bind,hz,Result.andThen_ok,A9 hu,hm]
 rw[hf];rfl
theorem Xz{t:TypeId}{parts:Array (Nat×Operand)}{p:Nat×Operand}(hp:p∈parts.toList):p.2∈(Op.build t parts).operands:=by
 have hp':p∈parts:=by simpa using hp
 simp only[Op.operands]
 first
  | exact Array.mem_map.2 ⟨p,hp',rfl⟩
  | (simp;exact⟨p.1,hp'⟩)
theorem Aic{t:TypeId}{parts:Array (Nat×Operand)}(hop:o.op=.build t parts)(h:evOp P specs o L H κ=some z):OpR P o L H κ z:=by
 simp only[evOp,hop]at h
 obtain⟨zs,hzs,h1⟩:=bind_some h
 clear h
 obtain⟨zv,hz,hp⟩:=Y1 hzs
 have hops:∀g ρ,Opds g L ρ o.op.operands→∀p∈parts.toList,∀a,opd L p.2=some a→RepV g a (ρ p.2):=fun g ρ hO p hp a ha=>hO p.2 (by rw[hop];exact Xz hp) a ha
 split at h1
 ·rename_i fs hu
  split at h1
  rotate_left
  ·cases h1
  rename_i hall
  obtain⟨ps,hps,h2⟩:=bind_some h1
  refine⟨_,_,_,_,h2,OpS.quiet (by simp[hop]) fun g hh w ρ hO hs _=>?_⟩
  obtain⟨vs',hf,hp2⟩:=Us (P:=P) (L:=L) (ρ:=ρ) hu (place:=((fs.toList.map fun f=>(f.offset,(szOf P f.type).getD 0)).toArray[·]?)) (fun i f h1 n h2=>Aas h1 h2) parts.toList zs ps zv.cells.toList hps (hp g) (hops g ρ hO)
  refine⟨.agg vs'.toArray,?_,vs',rfl,hp2⟩
  have:=S2 (ps:=parts.map fun(i,x)=>(i,ρ x)) hu hz hall (by simpa using hf) w
  simp[execOp,hop,this]
 ·rename_i n e hu
  split at h1
  rotate_left
  ·cases h1
  rename_i y m l
  split at h1
  rotate_left
  ·cases h1
  rename_i hc
  obtain⟨rfl,hel⟩:=hc
  obtain⟨r,hr,h2⟩:=bind_some h1
  obtain⟨hty,hsz,_⟩:=Ci hel
  obtain⟨hlt,hlen⟩:=Ku parts.toList l r hr
  refine⟨_,_,_,_,h2,OpS.frz (by simp[hop]) hlt (fun i hi=>hi) fun g hh w ρ hO hs hF _=>?_⟩
  have hp0:=hp g
  simp only[A7,PartOf]at hp0
  obtain⟨v1,v2,e1,⟨hl0,hL⟩,e2⟩:=hp0
  rw[e2,List.append_nil]at e1
  rw[←e1]at hL
  obtain⟨vs',hf,hL2⟩:=Nq (w:=w) (ρ:=ρ) parts.toList l r zv.cells.toList hr hL (hops g ρ hO) hF
  refine⟨.agg vs'.toArray,?_,vs',rfl,by omega,hL2⟩
  have hf':Instr.fill (fun i=>some (i*y.cells,y.cells)) zv.cells ((parts.map fun(i,x)=>(i,ρ x)).toList)=some vs'.toArray:=by simpa using hf
  simp only[execOp,hop,Instr.build,Sem.run_bind,hz,Result.andThen_ok,A9 hu,B6 hsz]
  rw[hf'];rfl
 ·cases h1
end
end Go.Proofs.YtfcnhnbnjdccfaaGreat

namespace Go.Proofs.YtfcnhnbnjdccfaaGreat
set_option linter.all false
open Go

section
variable {P:Program} {specs:List Spec} {o:Oper} {L:LL} {H:HH} {Z:Type} {κ:AV→HH→List Nat→List Nat→Option Z} {z:Z}

theorem Hz{t:TypeId}{d:TypeDesc}(h:P.underlying t=some d):Sem.pv P (underlying t)=some d:=by
 simp[underlying,program,bind,Sem.bind,Sem.pv,h];rfl
theorem A1a{t:TypeId}{n:Nat}(h:szOf P t=some n):Sem.pv P (sizeOf t)=some n:=by
 unfold szOf at h
 obtain⟨i,hi,rfl⟩:=map_some h
 simp[sizeOf,typeInfo,program,bind,Sem.bind,Sem.pv,hi,pure]
theorem Vy{t:TypeId}{i:TypeInfo}{z:Value}(h:P.info? t=some i)(hz:i.zero=some z):Sem.pv P (zeroValue t)=some z:=by
 simp[zeroValue,typeInfo,program,bind,Sem.bind,Sem.pv,h,hz,pure]
theorem Cq{t e:TypeId}{y:Ty}(h:slTy P t=some (e,y)):P.underlying t=some (.slice e)∧elTy P e=some y∧∃by_ z,N6 P t e y.cells by_ z∧∀M,RepC M y y.dflt z.cells.toList:=by
 unfold slTy at h
 split at h
 ·rename_i e' hu
  obtain⟨y',hy,he⟩:=map_some h
  simp only[Prod.mk.injEq]at he
  obtain⟨rfl,rfl⟩:=he
  obtain⟨hty,hsz,i,z,hi,hb,hz,hzd,_⟩:=Ci hy
  have hC:∀M,RepC M y' y'.dflt z.cells.toList:=fun M=>by
   obtain⟨us,e1,hC⟩:=Ha M _ _ _ hzd
   rw[List.append_nil]at e1
   rw[e1];exact hC
  have hl:=(RepC.len y' _ _ (hC fun _=>none)).1
  exact⟨hu,hy,i.bytes,z,⟨Hz hu,A1a hsz,by rw[hi];rfl,Vy hi hz,by simpa using hl,Ty.cells_pos y',hb⟩,hC⟩
 ·cases h
theorem RepL.rep{M:Nat→Option Obj}{t:Ty}{x:t.den}{us:List Value}(h:RepC M t x us):∀n,RepL M t (List.replicate n x) (List.replicate n us).flatten
 | 0=>rfl
 | n+1=>⟨us,_,by simp[List.replicate_succ],h,RepL.rep h n⟩
theorem Acg{t:TypeId}{cs:Array Value}(w:World):∃b w',(newRow t cs).run P w=.ok ⟨b,0,none⟩ w'∧X5 b (.cells cs t (0,0)) w w':=by
 have hN:=New.mk' (.cells cs t (0,0)) w
 exact⟨w.heap.size,_,by simp[newRow,newObj,Sem.run_bind,Sem.run,Result.andThen,Sem.run_pure],rfl,hN.ext,hN.size,hN.blk⟩
theorem Kt{t e:TypeId}{sz by_ n:Nat}{zv:Value}{ps:Array (Nat×Value)}{cells:List Value}(hT:N6 P t e sz by_ zv)(hn:n*sz≤1000000)
  (hf:Instr.fill (fun i=>some (i*sz,sz)) (List.replicate n zv.cells.toList).flatten.toArray ps.toList=some cells.toArray) (w:World) :
  ∃b w',(Instr.buildSlice t n ps).run P w=.ok (.slice (some ⟨b,0,none⟩) n n) w'∧X5 b (.cells cells.toArray e (0,0)) w w':=by
 have hund:=Sem.pv_run P _ _ hT.und
 have hsz:=Sem.pv_run P _ _ hT.size
 have hz:=Sem.pv_run P _ _ hT.zero
 obtain⟨b,w',hr,hN⟩:=Acg (P:=P) (t:=e) (cs:=cells.toArray) w
 refine⟨b,w',?_,hN⟩
 have hrm:Array.map (fun x=>(if n*sz=0 then(#[]:Array Value)else zv.cells)[x % (if n*sz=0 then(#[]:Array Value)else zv.cells).size]!) (Array.range (n*sz))=((List.replicate n zv.cells.toList).flatten).toArray:=by
  by_cases h0:n*sz=0
  ·have:n=0:=by
    rcases Nat.mul_eq_zero.1 h0 with h | h
    ·exact h
    ·have:=hT.pos;omega
   subst this;simp
  ·rw[if_neg h0,←hT.zsz]
   exact I2 zv.cells n (by rw[hT.zsz];exact hT.pos)
 have hbig:¬(n*sz>2 ^ 24):=by omega
 by_cases h0:n*sz=0
 ·rw[if_pos h0]at hrm
  simp only[Instr.buildSlice,Sem.run_bind,hund,Result.andThen_ok,hsz,if_neg hbig,if_pos h0,Sem.run_pure]
  rw[hrm,hf]
  simp only[Sem.run_bind,hr,Result.andThen_ok,Sem.run_pure]
 ·rw[if_neg h0]at hrm
  simp only[Instr.buildSlice,Sem.run_bind,hund,Result.andThen_ok,hsz,if_neg hbig,if_neg h0,Sem.run_pure,hz]
  rw[hrm,hf]
  simp only[Sem.run_bind,hr,Result.andThen_ok,Sem.run_pure]
theorem Aen{g:Gh}{w':World}{b n id:Nat}{e:TypeId}{y:Ty}{l:List y.den}{cs:List Value}(hρ:g.ρ id=none)(hl:l.length=n)(hn:n≤1000000)(hb:w'.heap[b]?=some (.cells cs.toArray e (0,0)))(hL:RepL g.M y l cs)(hM:g.M b=none) :
  RepBlk (newG g id (some (b,n,n))) w' id (.lst y l)∧RepV (newG g id (some (b,n,n))) (.ols id) (.slice (some ⟨b,0,none⟩) n n):=by
 subst hl
 exact⟨⟨hn,.inr ⟨b,l.length,cs,[],e,Ad _ _ _,by simpa using hb,RepL.mono (Hm hρ).M l cs hL,⟨Nat.le_refl _,by omega⟩,by simp,hM⟩⟩,.inr ⟨b,l.length,l.length,Ad _ _ _,rfl⟩⟩
theorem Fi{t:TypeId}{n:Nat}{parts:Array (Nat×Operand)}{p:Nat×Operand}(hp:p∈parts.toList):p.2∈(Op.buildSlice t n parts).operands:=by
 have hp':p∈parts:=by simpa using hp
 simp only[Op.operands]
 first
  | exact Array.mem_map.2 ⟨p,hp',rfl⟩
  | (simp;exact⟨p.1,hp'⟩)
theorem Ajf{g:Gh}{a:AV}{v:Value}(h:RepV g a v)(ho:a.one=true):PartOf g a [v] (RepV g a)∧v.cells.toList=[v]:=by
 have hp:A7 g a.parts v.cells.toList:=Cw h (by cases a<;>first | rfl | cases ho)
 have e:a.parts=[a]:=by cases a<;>first | rfl | cases ho
 rw[e]at hp
 simp only[A7]at hp
 obtain⟨v1,v2,e1,h1,rfl⟩:=hp
 rw[List.append_nil]at e1
 have key:v.cells.toList=[v]:=by
  cases v<;>first
   | rfl
   | (exfalso;cases a<;>simp only[RepV]at h<;>first
     | (cases ho;done)
     | (cases h;done)
     | (obtain⟨h,_⟩:=h;cases h;done)
     | (obtain⟨_,h⟩:=h;cases h;done)
     | (obtain⟨_,_,h,_⟩:=h;cases h;done)
     | (obtain⟨_,_,_,h,_⟩:=h;cases h;done)
     | (obtain⟨_,_,_,_,h⟩:=h;cases h;done)
     | (obtain⟨_,_,_,_,h,_⟩:=h;cases h;done)
     | (obtain⟨_,_,_,_,_,h,_⟩:=h;cases h;done)
     | (rcases h with⟨_,h⟩ | ⟨_,_,_,_,h⟩<;>(cases h;done)))
 refine⟨?_,key⟩
 rw[←key,e1]
 exact h1
theorem A1m{g:Gh}:∀(as:List AV) (vs:List Value),RepVs g as vs→as.all AV.one=true→A7 g as vs∧∀v∈vs,v.cells.toList=[v]
 | [],vs,h,_=>by simp only[RepVs]at h;subst h;exact⟨rfl,by simp⟩
 | a::as,vs,h,ho=>by
  simp only[RepVs]at h
  obtain⟨v,us,rfl,h1,h2⟩:=h
  simp only[List.all_cons,Bool.and_eq_true]at ho
  obtain⟨p1,p2⟩:=Ajf h1 ho.1
  obtain⟨q1,q2⟩:=A1m as us h2 ho.2
  exact⟨⟨[v],us,rfl,p1,q1⟩,fun x hx=>by
   rcases List.mem_cons.1 hx with rfl | hx
   ·exact p2
   ·exact q2 x hx⟩
theorem A7z:∀(vs pre rest:List Value),(∀v∈vs,v.cells.toList=[v])→rest.length=vs.length →
  Instr.fill (fun i=>some (i*1,1)) (pre++rest).toArray ((List.range' pre.length vs.length).zip vs)=some (pre++vs).toArray
 | [],pre,rest,_,hl=>by
  have:rest=[]:=List.eq_nil_of_length_eq_zero hl
  subst this;simp[Instr.fill]
 | v::vs,pre,[],_,hl=>by simp at hl
 | v::vs,pre,r::rs,hv,hl=>by
  simp only[List.length_cons]at hl
  rw[List.length_cons,List.range'_succ,List.zip_cons_cons]
  have hc:=hv v (by simp)
  rw[Sk (off:=pre.length*1) (n:=1) rfl (by rw[hc];rfl) (by simp)]
  have e1:(pre++r::rs).take (pre.length*1)=pre:=by rw[Nat.mul_one];exact List.take_left' rfl
  have e2:(pre++r::rs).drop (pre.length*1+1)=rs:=by rw[Nat.mul_one];simp
  rw[hc,e1,e2]
  have:=A7z vs (pre++[v]) rs (fun x hx=>hv x (by simp[hx])) (by omega)
  rw[List.length_append,List.length_singleton]at this
  rw[this];simp
theorem Aht{α β:Type}:∀l:List (α×β),(l.map (·.1)).zip (l.map (·.2))=l
 | []=>rfl
 | x::l=>by simp[Aht l]
theorem Ahf{t e:TypeId}(he:P.underlying t=some (.slice e))(h:oneT P e=true):∃by_ z,N6 P t e 1 by_ z:=by
 unfold oneT at h
 split at h
 ·rename_i i hi
  simp only[Bool.and_eq_true,decide_eq_true_eq]at h
  obtain⟨⟨h1,h2⟩,h3⟩:=h
  split at h3
  ·rename_i z hz
   exact⟨i.bytes,z,Hz he,A1a (by unfold szOf;rw[hi,Option.map_some,h1]),by rw[hi];rfl,Vy hi hz,of_decide_eq_true h3,by omega,by omega⟩
  ·cases h3
 ·cases h
theorem Ao9{t:TypeId}{n:Nat}{parts:Array (Nat×Operand)}(hop:o.op=.buildSlice t n parts)(h:Akd P t n parts.toList L H κ=some z):OpR P o L H κ z:=by
 unfold Akd at h
 split at h
 rotate_left
 ·cases h
 rename_i e he
 split at h
 rotate_left
 ·cases h
 rename_i hc
 simp only[Bool.and_eq_true,decide_eq_true_eq]at hc
 obtain⟨hT,hpr,hn⟩:=hc
 obtain⟨as,has,h2⟩:=bind_some h
 clear h
 split at h2
 rotate_left
 ·cases h2
 rename_i hone
 obtain⟨by_,zv,hT⟩:=Ahf he hT
 refine⟨_,_,_,_,h2,OpS.new (fz:=[]) (by simp[hop]) (by simp) (by simp) (by simp) (fun g hh w ρ hO hs _ _ hρ=>?_)⟩
 have hR:=hO.list (parts.toList.map (·.2)) as (fun y hy=>by
  obtain⟨p,hp,rfl⟩:=List.mem_map.1 hy
  rw[hop];exact Fi hp) has
 obtain⟨hP,hv⟩:=A1m as _ hR hone
 have hlen:parts.toList.length=n:=by
  have:=congrArg List.length hpr
  simpa using this
 have hz:zv.cells.toList.length=1:=by have:=hT.zsz;simpa using this
 obtain⟨b,w',hr,hN⟩:=Kt (n:=n) (ps:=parts.map fun(i,x)=>(i,ρ x)) (cells:=(parts.toList.map (·.2)).map ρ) hT (by omega) (by
  have e1:(parts.map fun(i,x)=>(i,ρ x)).toList=(List.range' ([]:List Value).length (((parts.toList.map (·.2)).map ρ)).length).zip ((parts.toList.map (·.2)).map ρ):=by
   rw[←Aht (parts.map fun(i,x)=>(i,ρ x)).toList]
   have a1:((parts.map fun(i,x)=>(i,ρ x)).toList.map (·.1))=parts.toList.map (·.1):=by simp[Function.comp_def]
   have a2:((parts.map fun(i,x)=>(i,ρ x)).toList.map (·.2))=(parts.toList.map (·.2)).map ρ:=by simp[Function.comp_def]
   rw[a1,a2,hpr]
   simp[hlen,List.range_eq_range',-Array.length_toList]
  rw[e1]
  have:=A7z ((parts.toList.map (·.2)).map ρ) [] ((List.replicate n zv.cells.toList).flatten) hv (by simp[List.length_flatten,hz,hlen,-Array.length_toList])
  simpa using this) w
 refine⟨b,_,w',0,0,_,by simp[execOp,hop,hr],hN,?_,b,0,0,Ad _ _ _,rfl⟩
 refine⟨b,0,0,_,e,Ad _ _ _,by simpa using hN.blk,A7.mono (Hm hρ) _ _ hP,?_⟩
 rw[hN.at_];exact hs.fresh
theorem A25{n:Operand}{k:Nat}(h:cstN n=some k):n=.const (.int .i64 (k:Int))∧k≤64:=by
 unfold cstN at h
 split at h
 ·split at h
  ·rename_i m hm
   simp only[Option.some.injEq]at h
   subst h
   exact⟨by rw[Int.toNat_of_nonneg hm.1],by omega⟩
  ·cases h
 ·cases h
theorem Anb{t:TypeId}{n c:Operand}(hop:o.op=.makeSlice t n c)(h:evMake P t n c H κ=some z):OpR P o L H κ z:=by
 unfold evMake at h
 obtain⟨⟨e,y⟩,hty,h1⟩:=bind_some h
 clear h
 split at h1
 rotate_left
 ·cases h1
 rename_i a k k' hy hk hk'
 split at h1
 rotate_left
 ·cases h1
 rename_i hkk
 subst hkk
 dsimp only at hy
 subst hy
 obtain⟨rfl,hk64⟩:=A25 hk
 obtain⟨rfl,_⟩:=A25 hk'
 obtain⟨-,hel,by_,zv,hT,-⟩:=Cq hty
 obtain⟨-,-,i,z',hi,-,hz,hzd,-⟩:=Ci hel
 have hzz:zv.cells.toList=[.slice none 0 0]:=by
  have h1:=hT.zero
  rw[Vy hi hz]at h1
  cases h1
  cases hvr:zv.cells.toList with
  | nil=>rw[hvr]at hzd;cases hzd
  | cons v r=>
   rw[hvr]at hzd
   simp only[zeroD]at hzd
   split at hzd
   ·rename_i hn
    cases hzd
    rw[L0 hn]
   ·cases hzd
 refine⟨_,_,_,_,h1,OpS.new (fz:=[]) (by simp[hop]) (by simp) (by simp) (by simp) (fun g hh w ρ hO hs _ _ hρ=>?_)⟩
 have hop2:opd L (.const (.int .i64 (k:Int)))=some (.i .i64 k):=by
  have h1:IntKind.i64.min=-9223372036854775808:=by decide
  have h2:IntKind.i64.max=9223372036854775807:=by decide
  simp only[opd,cst,cst1]
  rw[if_pos (by rw[h1,h2];omega)]
 have r1:=hO.get (x:=.const (.int .i64 (k:Int))) (by simp[hop,Op.operands]) hop2
 simp only[RepV]at r1
 obtain⟨b,w',hrun,hN⟩:=Cr hT k (by omega) w
 refine⟨b,_,w',0,0,_,by simp[execOp,hop,r1.1,hrun],hN,?_,b,0,0,Ad _ _ _,rfl⟩
 refine⟨b,0,0,List.replicate k (.slice none 0 0),e,Ad _ _ _,?_,?_,?_⟩
 ·have:=hN.blk
  rw[hzz]at this
  rw[this]
  congr 2
  simp
 ·have:∀m,A7 (newG g H.length (some (b,0,0))) (List.replicate m .nils) (List.replicate m (.slice none 0 0)):=fun m=>by
   induction m with
   | zero=>rfl
   | succ m ih=>exact⟨[_],_,rfl,⟨_,rfl,rfl⟩,ih⟩
  exact this k
 ·rw[hN.at_];exact hs.fresh
theorem A0h{t:TypeId}{n:Nat}{parts:Array (Nat×Operand)}(hop:o.op=.buildSlice t n parts)(h:evOp P specs o L H κ=some z):OpR P o L H κ z:=by
 simp only[evOp,hop]at h
 split at h
 ·exact Ao9 hop h
 obtain⟨⟨e,y⟩,hty,h1⟩:=bind_some h
 obtain⟨r,hr,h2⟩:=bind_some h1
 clear h h1
 split at h2
 rotate_left
 ·cases h2
 rename_i hc
 dsimp only at hr hc h2
 obtain⟨_,_,by_,zv,hT,hZ⟩:=Cq hty
 obtain⟨hlt,hlen⟩:=Ku parts.toList _ r hr
 rw[List.length_replicate]at hlen
 have hn:n≤1000000:=Nat.le_trans (Nat.le_mul_of_pos_right n (Ty.cells_pos y)) hc
 refine⟨_,_,_,_,h2,OpS.new (by simp[hop]) hlt (fun i hi=>hi) (by simp) fun g hh w ρ hO hs hF _ hρ=>?_⟩
 obtain⟨cells,hf,hL⟩:=Nq (w:=w) (ρ:=ρ) parts.toList _ r _ hr (RepL.rep (hZ g.M) n) (fun p hp a ha=>hO p.2 (by rw[hop];exact Fi hp) a ha) hF
 obtain⟨b,w',hrun,hN⟩:=Kt (ps:=parts.map fun(i,x)=>(i,ρ x)) hT hc (by simpa using hf) w
 obtain⟨hB,hV⟩:=Aen (w':=w') (b:=b) (n:=n) hρ hlen hn hN.blk hL (by rw[hN.at_];exact hs.fresh)
 exact⟨b,_,w',n,n,_,by simp[execOp,hop,hrun],hN,hB,hV⟩
theorem Agy{x y:Operand}{a b:Int}{k k':IntKind}(hs:sameOpd x y=true)(hx:opd L x=some (.i k a))(hy:opd L y=some (.i k' b)):a=b:=by
 unfold sameOpd at hs
 split at hs
 ·simp only[beq_iff_eq]at hs;subst hs
  rw[hx]at hy;cases hy;rfl
 ·simp only[decide_eq_true_eq]at hs
  subst hs
  simp only[opd,cst,cst1]at hx hy
  split at hx
  ·cases hx
   split at hy
   ·cases hy;rfl
   ·cases hy
  ·cases hx
 ·cases hs
theorem A36{t:TypeId}{n c:Operand}(hop:o.op=.makeSlice t n c)(h:evOp P specs o L H κ=some z):OpR P o L H κ z:=by
 simp only[evOp,hop]at h
 split at h
 ·exact Anb hop h
 obtain⟨⟨e,y⟩,hty,h1⟩:=bind_some h
 clear h
 split at h1
 rotate_left
 ·cases h1
 rename_i hsm
 obtain⟨vn,hvn,h2⟩:=bind_some h1
 obtain⟨vc,hvc,h3⟩:=bind_some h2
 clear h1 h2
 split at h3
 rotate_left
 ·cases h3
 rename_i a b
 obtain⟨hc,h4⟩:=Az h3
 rw[Jr]at hc
 have hab:=Agy hsm hvn hvc
 subst hab
 obtain⟨m,rfl⟩:∃m:Nat,a=m:=⟨a.toNat,by omega⟩
 obtain⟨_,_,by_,zv,hT,hZ⟩:=Cq hty
 dsimp only at h4
 refine⟨_,_,_,_,h4,OpS.new (fz:=[]) (by simp[hop]) (by simp) (by simp) (by simp) fun g hh w ρ hO hs hF _ hρ=>?_⟩
 have r1:=hO.get (x:=n) (by simp[hop,Op.operands]) hvn
 have r2:=hO.get (x:=c) (by simp[hop,Op.operands]) hvc
 simp only[RepV]at r1 r2
 obtain⟨b,w',hrun,hN⟩:=Cr hT m (by omega) w
 obtain⟨hB,hV⟩:=Aen (w':=w') (b:=b) (n:=m) (l:=List.replicate m y.dflt) hρ (by simp) (by omega) hN.blk (RepL.rep (hZ g.M) m) (by rw[hN.at_];exact hs.fresh)
 exact⟨b,_,w',m,m,_,by simp[execOp,hop,r1.1,r2.1,hrun],hN,by simpa using hB,hV⟩

theorem Cb{k:IntKind}{n y:Nat}{code:BoundsCode}(h:n≤y)(w:World):(Instr.sliceBound (.int k (n:Int)) y code).run P w=.ok n w:=by
 have h1:(0:Int)≤(n:Int)∧(n:Int)≤(y:Int):=by omega
 simp only[Instr.sliceBound,asIntOf,Sem.run_bind,Sem.run_pure,Result.andThen_ok,if_pos h1,Int.toNat_natCast]
theorem Kq{t e:TypeId}{sz n c l h:Nat}{a:Option Addr}(he:P.underlying t=some (.slice e))(hsz:szOf P e=some sz)(lo hi:Option (IntKind×Int))(hl:(lo.map (·.2)).getD 0=l)(hh:(hi.map (·.2)).getD (n:Int)=h)
  (hle:l≤h) (hhn:h≤n) (hnc:n≤c) (w:World) :
  (Instr.sliceAt t (.slice a n c) (lo.map fun x=>.int x.1 x.2) (hi.map fun x=>.int x.1 x.2) none).run P w=.ok (.slice (if c=l then a else a.map (·.add (l*sz))) (h-l) (c-l)) w:=by
 cases lo with
 | none=>
  cases hi with
  | none=>
   simp at hl hh
   obtain rfl:l=0:=by omega
   obtain rfl:n=h:=by omega
   simp[Instr.sliceAt,Instr.slice,Instr.sliceBounds,A9 he,B6 hsz]
  | some y=>
   obtain⟨k,y⟩:=y
   simp at hl hh
   subst hh
   obtain rfl:l=0:=by omega
   simp[Instr.sliceAt,Instr.slice,Instr.sliceBounds,Cb (show h≤c by omega),A9 he,B6 hsz]
 | some x=>
  obtain⟨k,x⟩:=x
  cases hi with
  | none=>
   simp at hl hh
   subst hl
   obtain rfl:n=h:=by omega
   simp[Instr.sliceAt,Instr.slice,Instr.sliceBounds,Cb (show l≤n by omega),A9 he,B6 hsz]
  | some y=>
   obtain⟨k',y⟩:=y
   simp at hl hh
   subst hl hh
   simp[Instr.sliceAt,Instr.slice,Instr.sliceBounds,Cb (show h≤c by omega),Cb hle,A9 he,B6 hsz]
theorem RepS.slice{α:Type}{M:Nat→Option Obj}{c:Nat}{R:α→List Value→Prop}{l:List α}{a:Option Addr}{n cap lo h:Nat}(hs:RepS M c R l (.slice a n cap))(hlo:lo≤h)(hh:h≤l.length) :
  n=l.length∧l.length≤cap∧RepS M c R ((l.take h).drop lo) (.slice (if cap=lo then a else a.map (·.add (lo*c))) (h-lo) (cap-lo)):=by
 obtain⟨hlen,a',cap',e,hc,hE⟩:=hs
 simp only[Value.slice.injEq]at e
 obtain⟨rfl,rfl,rfl⟩:=e
 have hl2:((l.take h).drop lo).length=h-lo:=by simp;omega
 refine⟨rfl,hc,by omega,_,_,by rw[hl2],by omega,?_⟩
 rcases hE with rfl | ⟨b,off,vs,ty,rfl,hM,hx⟩
 ·exact .inl (by simp)
 ·by_cases hcl:cap=lo
  ·refine .inl (List.eq_nil_of_length_eq_zero (by omega))
  ·refine .inr ⟨b,off+lo*c,vs,ty,by rw[if_neg hcl];simp[Aw],hM,fun i x hi=>?_⟩
   have:l[lo+i]?=some x:=by
    rw[List.getElem?_drop,List.getElem?_take]at hi
    split at hi
    ·exact hi
    ·cases hi
   obtain⟨us,h1,h2⟩:=hx _ _ this
   exact⟨us,by rwa [show off+lo*c+i*c=off+(lo+i)*c by rw[Nat.add_mul];omega],h2⟩
theorem Ajl{t:TypeId}{x:Operand}{lo hi:Option Operand}(hop:o.op=.slice t x lo hi none)(hk:Nat.ble 4 (A24 specs)=false)(h:evOp P specs o L H κ=some z):OpR P o L H κ z:=by
 simp only[evOp,hop,hk]at h
 obtain⟨vx,hx,h1⟩:=bind_some h
 obtain⟨vlo,hlo,h2⟩:=bind_some h1
 obtain⟨vhi,hhi,h3⟩:=bind_some h2
 clear h h1 h2
 split at h3
 rotate_left
 ·rename_i n e hae
  have nolo:vlo=none→lo=none:=by
   intro e1;subst e1
   cases lo with
   | none=>rfl
   | some y=>simp only at hlo;obtain⟨_,_,e2⟩:=map_some hlo;cases e2
  split at h3
  rotate_left
  ·cases h3
  rename_i id base k m
  split at h3
  rotate_left
  ·cases h3
  rename_i ps hb
  split at h3
  rotate_left
  ·cases h3
  rename_i y q l r hsk
  split at h3
  rotate_left
  ·cases h3
  rename_i hc
  obtain⟨rfl,hsz,hbig⟩:=hc
  obtain⟨hc,h5⟩:=Az h3
  simp only[decide_eq_true_eq]at hc
  refine⟨_,_,_,_,h5,OpS.frz (by simp[hop]) (fun i hi=>by simp at hi;subst hi;exact(List.getElem?_eq_some_iff.1 hb).1) (fun i hi=>hi) fun g hh w ρ hO hs hF _=>?_⟩
  have rx:=hO.get (x:=x) (by simp[hop,Op.operands]) hx
  simp only[RepV]at rx
  obtain⟨b,c,n',e1,ev⟩:=rx
  obtain⟨b',c',m',vs,ty,e2,hM,hp⟩:=(hF id (by simp)).2 ps (.inl hb)
  rw[e1]at e2;cases e2
  obtain⟨l1,p1⟩:=As _ base _ vs hsk hp
  simp only[A7,PartOf]at p1
  obtain⟨v1,v2,e3,⟨hl,hL⟩,_⟩:=p1
  have elo:=nolo rfl
  have ehi:∃yh,hi=some yh∧ρ yh=.int k m:=by
   cases hi with
   | none=>simp at hhi
   | some yh=>
    simp only at hhi
    obtain⟨a,ha,e4⟩:=map_some hhi
    cases e4
    have:=hO.get (x:=yh) (by simp[hop,Op.operands]) ha
    simp only[RepV]at this
    exact⟨yh,rfl,this.1⟩
  obtain⟨yh,rfl,ehv⟩:=ehi
  subst elo
  obtain⟨mm,rfl⟩:∃mm:Nat,m=mm:=⟨m.toNat,by omega⟩
  refine⟨.slice (some ⟨b,base,none⟩) mm q,?_,?_⟩
  ·have hsb:=Cb (P:=P) (k:=k) (n:=mm) (y:=q) (code:=.sliceAlen) (by omega) w
   simp[execOp,hop,ev,ehv,Instr.sliceAt,A9 hae,Instr.sureAddr,Instr.sliceBounds,hsb,B6 hsz,Aw]
  ·simp only[RepV,Int.toNat_natCast]
   have hlen:(l.take mm).length=mm:=by rw[List.length_take];omega
   refine⟨by omega,some ⟨b,base,none⟩,q,by rw[hlen],by omega,.inr ⟨b,base,vs,ty,rfl,hM,fun i x hi=>?_⟩⟩
   have hi':l[i]?=some x:=by
    rw[List.getElem?_take]at hi
    split at hi
    ·exact hi
    ·cases hi
   obtain⟨us',hs',hC⟩:=RepL.get l v1 i x hL hi'
   refine⟨us',fun j u hj=>?_,hC⟩
   have h5:=hs' j u hj
   have h6:(vs.drop base)[i*y.cells+j]?=some u:=by
    rw[e3,List.getElem?_append_left (List.getElem?_eq_some_iff.1 h5).1];exact h5
   rw[List.getElem?_drop]at h6
   rw[show base+i*y.cells+j=base+(i*y.cells+j)by omega]
   exact h6
 ·cases h3
 rename_i e he
 obtain⟨X,hX,h4⟩:=bind_some h3
 clear h3
 split at h4
 rotate_left
 ·cases h4
 rename_i hsz
 have hlt:∀i∈X.2,i<H.length:=by
  intro i hi
  split at hX
  ·cases hX;cases hi
  ·rename_i id
   split at hX
   ·rename_i hb;cases hX;simp at hi;subst hi;exact(List.getElem?_eq_some_iff.1 hb).1
   ·rename_i hb;cases hX;simp at hi;subst hi;exact(List.getElem?_eq_some_iff.1 hb).1
   ·cases hX
  ·cases hX
 have hsl:∀(g:Gh) (w:World) v,RepV g vx v→Frz g w H X.2→RepS g.M X.1.1.cells (RepC g.M X.1.1) X.1.2 v:=by
  intro g w v hv hF
  split at hX
  ·cases hX;exact hv
  ·rename_i id
   split at hX
   ·rename_i y l hb;cases hX;exact S7 ((hF id (by simp)).1 y l (by simp[cont,hb,Fg])) hv
   ·rename_i y l hb;cases hX;exact S7 ((hF id (by simp)).1 y l (by simp[cont,hb,Fg])) hv
   ·cases hX
  ·cases hX
 have fin:∀(l hb:Nat) (R:List X.1.1.den),R=(X.1.2.take hb).drop l→l≤hb→hb≤X.1.2.length→(∀g ρ,Opds g L ρ o.op.operands→∃a b:Option (IntKind×Int),lo.map ρ=a.map (fun x=>.int x.1 x.2)∧hi.map ρ=b.map (fun x=>.int x.1 x.2)∧(a.map (·.2)).getD 0=l∧(b.map (·.2)).getD (X.1.2.length:Int)=hb) →
   κ (.sl X.1.1 R) (frzs X.2 H) X.2 X.2=some z→OpR P o L H κ z:=by
  intro l hb R hR hle hbl hops hk
  refine⟨_,_,_,_,hk,OpS.frz (by simp[hop]) hlt (fun i hi=>hi) fun g hh w ρ hO hs hF _=>?_⟩
  have rx:=hsl g w _ (hO.get (x:=x) (by simp[hop,Op.operands]) hx) hF
  obtain⟨a,b,e1,e2,e3,e4⟩:=hops g ρ hO
  obtain⟨ad,n,cap,ev⟩:∃ad n cap,ρ x=.slice ad n cap:=by obtain⟨_,ad,cap,ev,_⟩:=rx;exact⟨_,_,_,ev⟩
  rw[ev]at rx
  obtain⟨hn,hc,hr⟩:=rx.slice hle hbl
  subst hR
  refine⟨_,?_,hr⟩
  have:=Kq (P:=P) (a:=ad) (n:=n) (c:=cap) he hsz a b e3 (by rw[hn];exact e4) hle (by omega) (by omega) w
  simp only[execOp,hop,ev,e1,e2,Option.map_none,Sem.run_bind,this,Result.andThen_ok,Sem.run_pure]
 have oplo:∀y,lo=some y→y∈o.op.operands:=by intro y hy;subst hy;simp[hop,Op.operands]
 have ophi:∀y,hi=some y→y∈o.op.operands:=by intro y hy;subst hy;simp[hop,Op.operands]
 have nolo:vlo=none→lo=none:=by
  intro e1;subst e1
  cases lo with
  | none=>rfl
  | some y=>simp only at hlo;obtain⟨_,_,e2⟩:=map_some hlo;cases e2
 have nohi:vhi=none→hi=none:=by
  intro e1;subst e1
  cases hi with
  | none=>rfl
  | some y=>simp only at hhi;obtain⟨_,_,e2⟩:=map_some hhi;cases e2
 have solo:∀k n,vlo=some (.i k n)→∀g ρ,Opds g L ρ o.op.operands→lo.map ρ=some (.int k n):=by
  intro k n e1 g ρ hO
  cases lo with
  | none=>simp at hlo;rw[e1]at hlo;cases hlo
  | some y=>
   simp only at hlo
   obtain⟨a,ha,e2⟩:=map_some hlo
   rw[e1]at e2;cases e2
   have:=hO.get (oplo y rfl) ha
   simp only[RepV]at this
   simp[this.1]
 have sohi:∀k n,vhi=some (.i k n)→∀g ρ,Opds g L ρ o.op.operands→hi.map ρ=some (.int k n):=by
  intro k n e1 g ρ hO
  cases hi with
  | none=>simp at hhi;rw[e1]at hhi;cases hhi
  | some y=>
   simp only at hhi
   obtain⟨a,ha,e2⟩:=map_some hhi
   rw[e1]at e2;cases e2
   have:=hO.get (ophi y rfl) ha
   simp only[RepV]at this
   simp[this.1]
 split at h4
 ·refine fin 0 X.1.2.length _ (by simp) (by omega) (Nat.le_refl _) (fun g ρ hO=>⟨none,none,by simp[nolo rfl],by simp[nohi rfl],rfl,rfl⟩) h4
 ·rename_i k n
  obtain⟨hc,h5⟩:=Az h4
  simp only[decide_eq_true_eq]at hc
  refine fin n.toNat X.1.2.length _ (by rw[List.take_length]) (by omega) (Nat.le_refl _) (fun g ρ hO=>⟨some (k,n),none,by simp[solo k n rfl g ρ hO],by simp[nohi rfl],by simp;omega,rfl⟩) h5
 ·rename_i k n
  obtain⟨hc,h5⟩:=Az h4
  simp only[decide_eq_true_eq]at hc
  refine fin 0 n.toNat _ (by simp) (by omega) (by omega) (fun g ρ hO=>⟨none,some (k,n),by simp[nolo rfl],by simp[sohi k n rfl g ρ hO],rfl,by simp;omega⟩) h5
 ·rename_i k n k' m
  obtain⟨hc,h5⟩:=Az h4
  simp only[decide_eq_true_eq]at hc
  refine fin n.toNat m.toNat _ rfl (by omega) (by omega) (fun g ρ hO=>⟨some (k,n),some (k',m),by simp[solo k n rfl g ρ hO],by simp[sohi k' m rfl g ρ hO],by simp;omega,by simp;omega⟩) h5
 ·cases h4
end
end Go.Proofs.YtfcnhnbnjdccfaaGreat

namespace Go.Proofs.YtfcnhnbnjdccfaaGreat
set_option linter.all false
open Go

theorem A9g{M:Nat→Option Obj}{t:Ty}{vs:List Value}:∀(l:List t.den) (o:Nat),(∀i x,l[i]?=some x→∃us,Seg vs (o+i*t.cells) us∧RepC M t x us)→∃cs,RepL M t l cs∧Seg vs o cs
 | [],o,_=>⟨[],rfl,fun j u h=>by simp at h⟩
 | x::l,o,h=>by
  obtain⟨us,h1,h2⟩:=h 0 x rfl
  obtain⟨cs,h3,h4⟩:=A9g l (o+t.cells) (fun i y hi=>by
   obtain⟨us,a,b⟩:=h (i+1) y (by simpa using hi)
   exact⟨us,by rwa [Nat.add_assoc,show t.cells+i*t.cells=(i+1)*t.cells by rw[Nat.succ_mul];omega],b⟩)
  have hl:=(RepC.len t _ _ h2).1
  refine⟨us++cs,⟨us,cs,rfl,h2,h3⟩,fun j u hj=>?_⟩
  rw[Nat.zero_mul,Nat.add_zero]at h1
  by_cases hj2:j<us.length
  ·exact h1 j u (by rwa [List.getElem?_append_left hj2]at hj)
  ·rw[List.getElem?_append_right (by omega)]at hj
   have:=h4 _ u hj
   rwa [show o+t.cells+(j-us.length)=o+j by omega]at this
theorem Ao0{g:Gh}{w:World}{t:Ty}{l:List t.den}{v:Value}(hm:∀b o,g.M b=some o→w.heap[b]?=some o)(h:RepS g.M t.cells (RepC g.M t) l v):∃cs,RepL g.M t l cs∧Sl 0 w v l.length t.cells cs:=by
 obtain⟨_,a,cap,rfl,hc,h⟩:=h
 rcases h with rfl | ⟨b,o,vs,ty,rfl,hM,hx⟩
 ·exact⟨[],rfl,a,cap,rfl,hc,by simp,.inl rfl⟩
 ·obtain⟨cs,h1,h2⟩:=A9g l o hx
  have hb:=hm _ _ hM
  exact⟨cs,h1,some ⟨b,o,none⟩,cap,rfl,hc,(RepL.len l cs h1).1,.inr ⟨b,o,rfl,Nat.zero_le _,A8 hb,Seg.row hb h2⟩⟩
theorem A54{g:Gh}{h:Nat→Option Blk'}{w:World}{H:HH}{id:Nat}{t:Ty}{l:List t.den}{v:Value}(hs:Sim g h w)(hid:id<H.length→h id=H[id]?)(hc:cont H id t=some l)(hv:RepV g (.ols id) v):∃cs,RepL g.M t l cs∧Sl 0 w v l.length t.cells cs:=by
 unfold cont at hc
 split at hc
 ·rename_i a l' hb
  obtain⟨rfl,rfl⟩:=Bb hc
  have h1:=hid (List.getElem?_eq_some_iff.1 hb).1
  rw[hb]at h1
  obtain⟨hlen,hB⟩:=hs.blk id _ h1
  simp only[RepV]at hv
  rcases hB with⟨e,e2⟩ | ⟨b,c,vs,rest,ty,e,hb2,hL,hc2,hr,_⟩
  ·rcases hv with⟨_,rfl⟩ | ⟨b,c,n,e3,_⟩
   ·subst e2;exact⟨[],rfl,none,0,rfl,Nat.le_refl _,by simp,.inl rfl⟩
   ·rw[e]at e3;cases e3
  ·rcases hv with⟨e3,_⟩ | ⟨b3,c3,n,e3,rfl⟩
   ·rw[e]at e3;cases e3
   ·rw[e]at e3;cases e3
    exact⟨vs,hL,some ⟨b,0,none⟩,c,rfl,hc2.1,(RepL.len _ vs hL).1,.inr ⟨b,0,rfl,Nat.zero_le _,A8 hb2,Seg.row hb2 ((Seg.refl vs).left rest)⟩⟩
 ·rename_i a l' hb
  obtain⟨rfl,rfl⟩:=Bb hc
  have h1:=hid (List.getElem?_eq_some_iff.1 hb).1
  rw[hb]at h1
  exact Ao0 hs.mem (S7 (hs.blk id _ h1) hv)
 ·cases hc

section
variable {P:Program} {specs:List Spec} {o:Oper} {L:LL} {H:HH} {Z:Type} {κ:AV→HH→List Nat→List Nat→Option Z} {z:Z}

theorem exec_builtin{c:Call}{bi:Builtin}(hop:o.op=.call c)(hcal:c.callee=.builtin bi)(ρ:Operand→Value):∃cs,execOp ρ o=builtin bi c.argTypes o.type cs ((c.args.toList.map ρ).toArray):=by
 refine⟨c.args.map fun | .const _=>true | _=>false,?_⟩
 have:(c.args.toList.map ρ).toArray=c.args.map ρ:=by apply Array.ext';simp
 rw[this]
 simp only[execOp,hop,resolve,hcal]
 rfl
theorem D6{c:Call}(hop:o.op=.call c){g:Gh}{ρ:Operand→Value}(hO:Opds g L ρ o.op.operands){as:List AV}(h:opds L c.args.toList=some as):RepVs g as (c.args.toList.map ρ):=by
 refine hO.list _ as (fun y hy=>?_) h
 have hy':y∈c.args:=by simpa using hy
 rw[hop]
 simp only[Op.operands,Call.operands]
 split<;>simp[hy']
theorem Xd{t:Option TypeId}(h:isSlT P t=true):∃t' e,t=some t'∧P.underlying t'=some (.slice e):=by
 unfold isSlT at h
 split at h
 ·rename_i t'
  split at h
  ·rename_i e he;exact⟨t',e,rfl,he⟩
  ·cases h
 ·cases h
theorem All{ats:Array TypeId}{t e ty:TypeId}{a:Option Addr}{n c:Nat}(h0:ats[0]?=some t)(he:P.underlying t=some (.slice e))(w:World) :
  (Builtin.len_ ats ty #[.slice a n c]).run P w=.ok (.int .i64 (n:Int)) w:=by
 simp[Builtin.len_,h0,A9 he,goInt]
theorem Aec{n:Nat}(h:n≤9223372036854775807):inR .i64 (n:Int):=Ep.2 (by omega)
theorem Ac7{ats:Array TypeId}{t u ty:TypeId}{args:Array Value}(h0:ats[0]?=some t)(h1:ats[1]?=some u):Builtin.append_ ats ty args=Builtin.append_ #[t,u] ty args:=by
 simp only[Builtin.append_,h0,h1,List.getElem?_toArray,List.getElem?_cons_zero,List.getElem?_cons_succ]
theorem Ago{ats:Array TypeId}{t e tt:TypeId}{sz:Nat}(h0:ats[0]?=some t)(he:P.underlying t=some (.slice e))(hsz:szOf P e=some sz){ty:TypeId}{b cap n m:Nat}{w:World}{l cs:List Value}{v:Value}
  (hB:Blk w b l ty) (hl:n*sz≤l.length) (hs:Sl 0 w v m sz cs) (hf:∀c∈cs,flat c=true) :
  ∃w',(Builtin.copy_ ats tt #[.slice (some ⟨b,0,none⟩) n cap,v]).run P w=.ok (.int .i64 ((min m n:Nat):Int)) w'∧Put b (.cells (cs.take (min m n*sz)++l.drop (min m n*sz)).toArray ty (0,0)) w w':=by
 have hfc:=Dk (P:=P) hs (min m n) (Nat.min_le_left _ _)
 have hlen:(Builtin.lenOf v).run P w=.ok m w:=by obtain⟨a,c,rfl,_⟩:=hs;rfl
 have hcl:cs.length=m*sz:=by obtain⟨a,c,_,_,h,_⟩:=hs;exact h
 have htl:(cs.take (min m n*sz)).length=min m n*sz:=by
  rw[List.length_take,hcl]
  have:min m n*sz≤m*sz:=Nat.mul_le_mul_right _ (Nat.min_le_left _ _)
  omega
 have hle:min m n*sz≤n*sz:=Nat.mul_le_mul_right _ (Nat.min_le_right _ _)
 have hst:=Bw (P:=P) (cs.take (min m n*sz)) 0 0 l w (fun c hc=>hf c (List.mem_of_mem_take hc)) (by omega) hB
 simp only[Nat.zero_add,List.take_zero,List.nil_append,htl]at hst
 refine⟨_,?_,Put.mk' _ hB⟩
 have hmin:Nat.min m n=min m n:=rfl
 simp only[Builtin.copy_,h0,List.getElem?_toArray,List.getElem?_cons_zero,List.getElem?_cons_succ,Sem.run_bind,A9 he,Result.andThen_ok,hlen,B6 hsz,hmin,hfc,hst,Sem.run_pure,goInt]
theorem A8g{ats:Array TypeId}{t e tt:TypeId}{sz:Nat}(h0:ats[0]?=some t)(he:P.underlying t=some (.slice e))(hsz:szOf P e=some sz){m cap:Nat}{w:World}{cs:List Value}{v:Value}(hs:Sl 0 w v m sz cs) :
  (Builtin.copy_ ats tt #[.slice none 0 cap,v]).run P w=.ok (.int .i64 0) w:=by
 have hfc:=Dk (P:=P) hs 0 (Nat.zero_le _)
 have hlen:(Builtin.lenOf v).run P w=.ok m w:=by obtain⟨a,c,rfl,_⟩:=hs;rfl
 simp[Builtin.copy_,h0,A9 he,hlen,B6 hsz,hfc,goInt]

theorem A65{x:AV}{t:Ty}{r:List t.den×List Nat}(h:RdL x H t=some r){g:Gh}{hh:Nat→Option Blk'}{w:World}{v:Value}(hs:Sim g hh w)(hr:∀i∈r.2,i<H.length→hh i=H[i]?)(hv:RepV g x v) :
  ∃cs,RepL g.M t r.1 cs∧Sl 0 w v r.1.length t.cells cs:=by
 unfold RdL at h
 split at h
 ·obtain⟨l,hl,rfl⟩:=map_some h
  obtain⟨rfl,rfl⟩:=Bb hl
  exact Ao0 hs.mem hv
 ·cases h
  simp only[RepV]at hv
  subst hv
  exact⟨[],rfl,none,0,rfl,Nat.le_refl _,by simp,.inl rfl⟩
 ·obtain⟨l,hl,rfl⟩:=map_some h
  exact A54 hs (hr _ (by simp)) hl hv
 ·cases h
theorem op_len{c:Call}{x:AV}(hop:o.op=.call c)(hcal:c.callee=.builtin .len)(has:opds L c.args.toList=some [x])(hsl:isSlT P c.argTypes[0]?=true)
  (h:(match x with
   | .sl _ l=>κ (.i .i64 (l.length:Int)) H [] []
   | .nils=>κ (.i .i64 0) H [] []
   | .ols id=>(match H[id]? with | some (.lst _ l) | some (.frz _ l)=>κ (.i .i64 (l.length:Int)) H [id] [] | _=>none)
   | .osl _ n=>if n≤1000000 then κ (.i .i64 (n:Int)) H [] []else none
   | _=>none)=some z):OpR P o L H κ z:=by
 obtain⟨t,e,ht,he⟩:=Xd hsl
 have fin:∀(n:Nat) (rd:List Nat),n≤9223372036854775807→(∀(g:Gh) (hh:Nat→Option Blk') (w:World) (v:Value),Sim g hh w→(∀i∈rd,i<H.length→hh i=H[i]?)→RepV g x v→∃a c,v=.slice a n c)→κ (.i .i64 (n:Int)) H rd []=some z→OpR P o L H κ z:=by
  intro n rd hn hv hk
  refine⟨_,_,_,_,hk,OpS.quiet (by simp[hop]) fun g hh w ρ hO hs hrd=>?_⟩
  have hr:=D6 hop hO has
  simp only[RepVs]at hr
  obtain⟨v,us,e1,hrv,e2⟩:=hr
  subst e2
  obtain⟨a,cp,rfl⟩:=hv g hh w v hs hrd hrv
  obtain⟨cs,hex⟩:=exec_builtin hop hcal ρ
  refine⟨.int .i64 (n:Int),?_,rfl,Aec hn⟩
  rw[hex,e1]
  simp only[builtin,Sem.run_bind,All ht he,Result.andThen_ok,Sem.run_pure]
 split at h
 ·rename_i t' l
  by_cases hl:l.length≤9223372036854775807
  ·exact fin _ [] hl (fun g hh w v hs _ hv=>by obtain⟨_,a,c,e,_⟩:=hv;exact⟨a,c,e⟩) h
  ·-- no slice is as long
   refine⟨_,_,_,_,h,OpS.quiet (by simp[hop]) fun g hh w ρ hO hs hrd=>?_⟩
   have hr:=D6 hop hO has
   simp only[RepVs]at hr
   obtain⟨v,us,e1,hrv,e2⟩:=hr
   exact absurd hrv.1 hl
 ·refine fin 0 [] (by omega) (fun g hh w v hs _ hv=>?_) h
  simp only[RepV]at hv;exact⟨_,_,hv⟩
 ·rename_i id
  split at h
  ·rename_i y l hb
   by_cases hl:l.length≤9223372036854775807
   ·refine fin l.length [id] hl (fun g hh w v hs hrd hv=>?_) h
    obtain⟨cs,_,a,cp,e,_⟩:=A54 (t:=y) (l:=l) hs (hrd id (by simp)) (by simp[cont,hb,Fg]) hv
    exact⟨a,cp,e⟩
   ·refine⟨_,_,_,_,h,OpS.quiet (by simp[hop]) fun g hh w ρ hO hs hrd=>?_⟩
    have h1:=hrd id (by simp) (List.getElem?_eq_some_iff.1 hb).1
    rw[hb]at h1
    have:=(hs.blk id _ h1).1
    omega
  ·rename_i y l hb
   by_cases hl:l.length≤9223372036854775807
   ·refine fin l.length [id] hl (fun g hh w v hs hrd hv=>?_) h
    obtain⟨cs,_,a,cp,e,_⟩:=A54 (t:=y) (l:=l) hs (hrd id (by simp)) (by simp[cont,hb,Fg]) hv
    exact⟨a,cp,e⟩
   ·refine⟨_,_,_,_,h,OpS.quiet (by simp[hop]) fun g hh w ρ hO hs hrd=>?_⟩
    have h1:=hrd id (by simp) (List.getElem?_eq_some_iff.1 hb).1
    rw[hb]at h1
    have:=(hs.blk id _ h1).1
    omega
  ·cases h
 ·split at h
  ·rename_i n hn
   exact fin n [] (by omega) (fun g hh w v hs _ hv=>by
    simp only[RepV]at hv
    obtain⟨b,c,m,_,rfl⟩:=hv
    exact⟨_,_,rfl⟩) h
  ·cases h
 ·cases h
theorem Sz{c:Call}{bi:Builtin}{as:List AV}{k:IntKind}{n:Int}(hop:o.op=.call c)(hcal:c.callee=.builtin bi)(has:opds L c.args.toList=some as)
  (hq:∀g vs,RepVs g as vs→inR k n∧∀cs w,(builtin bi c.argTypes o.type cs vs.toArray).run P w=.ok (.value (.int k n)) w) (h:κ (.i k n) H [] []=some z):OpR P o L H κ z:=by
 refine⟨_,_,_,_,h,OpS.quiet (by simp[hop]) fun g hh w ρ hO hs hrd=>?_⟩
 have hr:=D6 hop hO has
 obtain⟨h1,h2⟩:=hq g _ hr
 obtain⟨cs,hex⟩:=exec_builtin hop hcal ρ
 exact⟨_,by rw[hex,h2],rfl,h1⟩
theorem Ad8(x y:Int):(if y<x then y else x)=min x y:=by split<;>omega
theorem Aln(x y:Int):(if y>x then y else x)=max x y:=by split<;>omega
theorem A4q{k:IntKind}{x y:Int}(h1:inR k x)(h2:inR k y):inR k (min x y):=by
 rcases Int.le_total x y with h | h
 ·rw[Int.min_eq_left h];exact h1
 ·rw[Int.min_eq_right h];exact h2
theorem Amb{k:IntKind}{x y:Int}(h1:inR k x)(h2:inR k y):inR k (max x y):=by
 rcases Int.le_total x y with h | h
 ·rw[Int.max_eq_right h];exact h2
 ·rw[Int.max_eq_left h];exact h1
end
end Go.Proofs.YtfcnhnbnjdccfaaGreat

namespace Go.Proofs.YtfcnhnbnjdccfaaGreat
set_option linter.all false
open Go

theorem Sim.lt{g:Gh}{h:Nat→Option Blk'}{w:World}(hs:Sim g h w){j:Nat}{k:Blk'}{b c n:Nat}(hj:h j=some k)(hm:k.mut=true)(he:g.ρ j=some (some (b,c,n))):b<w.heap.size∧g.M b=none:=by
 have hB:=hs.blk j k hj
 cases k<;>simp only[Blk'.mut,Bool.false_eq_true]at hm
 case segs=>obtain⟨b1,_,_,_,_,e,h3,_,hM⟩:=hB;rw[e]at he;cases he;exact⟨A8 h3,hM⟩
 case lst=>
  obtain⟨_,⟨e,_⟩ | ⟨b1,_,_,_,_,e,h3,_,_,_,hM⟩⟩:=hB
  ·rw[e]at he;cases he
  ·rw[e]at he;cases he;exact⟨A8 h3,hM⟩
 case map=>obtain⟨b1,_,_,_,_,e,h3,hM,_⟩:=hB;rw[e]at he;cases he;exact⟨A8 h3,hM⟩
theorem Hw{g:Gh}{h:Nat→Option Blk'}{w w':World}{ab ids:List Nat}{N:Nat}{k:Blk'}{x:Option (Nat×Nat×Nat)}(hs:Sim g h w)(hU:Upd ab w w')(hsz:w.heap.size≤w'.heap.size)
  (hab:∀b∈ab,∃id∈ids,∃k c n,h id=some k∧k.mut=true∧g.ρ id=some (some (b,c,n))) (hx:∀b c n,x=some (b,c,n)→b∈ab∨w.heap.size≤b) (hρ:g.ρ N=none)
  (hB:RepBlk (newG g N x) w' N k):Stp (Sw g h ids) (fun i=>i=N) g w (newG g N x) w'∧Sim (newG g N x) (fun i=>if i=N then some k else if i∈ids then some .dead else h i) w':=by
 have hSw:∀b∈ab,Sw g h ids b:=fun b hb=>hab b hb
 have hMab:∀b∈ab,g.M b=none:=fun b hb=>by
  obtain⟨id,_,k,c,n,h1,h2,h3⟩:=hab b hb
  exact(hs.lt h1 h2 h3).2
 have st:Stp (Sw g h ids) (fun i=>i=N) g w (newG g N x) w':=by
  refine⟨hU.os,hU.tape,hU.output,hsz,fun b hb hS=>hU.same b hb (fun hb2=>hS (hSw b hb2)),Hm hρ,fun i h0 h1=>?_,fun i b' c' n' h0 h1=>?_,fun x o hx=>.inl hx⟩
  ·have h1':(if i=N then some x else g.ρ i)≠none:=h1
   split at h1'
   ·assumption
   ·exact absurd h0 h1'
  ·have h1':(if i=N then some x else g.ρ i)=some (some (b',c',n')):=h1
   split at h1'
   ·simp only[Option.some.injEq]at h1'
    exact(hx _ _ _ h1').symm.imp (fun h=>h) (hSw _)
   ·rw[h0]at h1';cases h1'
 refine⟨st,hs.step (wr:=ids) st (fun b o hbo=>?_) (fun i=>i=N∨i∈ids) (fun i hi=>?_) (fun i hi=>.inr hi) (fun i k' hi hk'=>?_) (fun i j ki kj b ci ni cj nj hi h1 h2 m1 m2 e1 e2=>?_)⟩
 ·have hbo':g.M b=some o:=hbo
  exact hU.blk (hs.mem b o hbo') (fun hb=>by rw[hMab b hb]at hbo';cases hbo')
 ·simp only[not_or]at hi
  simp[hi.1,hi.2]
 ·split at hk'
  ·rename_i e;subst e;cases hk';exact hB
  ·rename_i hne
   rcases hi with hi | hi
   ·exact absurd hi hne
   ·rw[if_pos hi]at hk';cases hk';trivial
 ·split at h1
  ·rename_i e;subst e
   split at h2
   ·rename_i e;exact e.symm
   ·rename_i hji
    split at h2
    ·cases h2;cases m2
    ·rename_i hjids
     rw[Ad]at e1
     simp only[Option.some.injEq]at e1
     have e2':g.ρ j=some (some (b,cj,nj)):=by simpa [newG,hji]using e2
     exfalso
     rcases hx _ _ _ e1 with hb | hb
     ·obtain⟨id,hid,k0,c,n,q1,q2,q3⟩:=hab b hb
      have:=hs.inj j id kj k0 b cj nj c n h2 q1 m2 q2 e2' q3
      subst this
      exact hjids hid
     ·have:=(hs.lt h2 m2 e2').1
      omega
  ·rename_i hne
   rcases hi with hi | hi
   ·exact absurd hi hne
   ·rw[if_pos hi]at h1;cases h1;cases m1

section
variable {P:Program} {specs:List Spec} {o:Oper} {L:LL} {H:HH} {Z:Type} {κ:AV→HH→List Nat→List Nat→Option Z} {z:Z}

theorem Adn{g:Gh}{w':World}{N:Nat}{e:TypeId}{y:Ty}{l:List y.den}{cs:List Value}{v':Value}{ab':List Nat}(hρ:g.ρ N=none)(hA:Acc e y.cells 0 w' v' l.length cs ab')(hL:RepL g.M y l cs)(hn:l.length≤1000000)(hM:∀b∈ab',g.M b=none) :
  ∃x:Option (Nat×Nat×Nat),(∀b c n,x=some (b,c,n)→b∈ab')∧RepBlk (newG g N x) w' N (.lst y l)∧RepV (newG g N x) (.ols N) v':=by
 obtain⟨hl,hA⟩:=hA
 rcases hA with⟨rfl,h0,rfl⟩ | ⟨b,cap,rest,rfl,rfl,_,hc,hr,ty,hb⟩
 ·refine⟨none,by simp,⟨hn,.inl ⟨Ad _ _ _,List.eq_nil_of_length_eq_zero h0⟩⟩,.inl ⟨Ad _ _ _,rfl⟩⟩
 ·exact⟨some (b,cap,l.length),fun b' c n e=>by cases e;simp,⟨hn,.inr ⟨b,cap,cs,rest,ty,Ad _ _ _,hb,RepL.mono (Hm hρ).M l cs hL,hc,hr,hM b (by simp)⟩⟩,.inr ⟨b,cap,l.length,Ad _ _ _,rfl⟩⟩
theorem op_append{c:Call}{s x:AV}{st:TypeId}(hop:o.op=.call c)(hcal:c.callee=.builtin .append)(has:opds L c.args.toList=some [s,x])(h0:c.argTypes[0]?=some st)
  (h:(if !isSlT P c.argTypes[1]? then none else(slTy P st).bind fun ty=>
    (RdL x H ty.2).bind fun x=>
    match s with
     | .nils=>lim x.1.length (κ (.ols H.length) (H++[Blk'.lst ty.2 x.1]) x.2 [H.length])
     | .ols id=>(match H[id]? with
      | some (.lst a l)=>(Fg a ty.2 l).bind fun l=>if x.2.contains id then none else lim (l.length+x.1.length) (κ (.ols H.length) (H.set id .dead++[Blk'.lst ty.2 (l++x.1)]) (id::x.2) [id,H.length])
      | _=>none)
     | _=>none)=some z):OpR P o L H κ z:=by
 split at h
 ·cases h
 rename_i hsl
 simp only[Bool.not_eq_true',Bool.not_eq_false]at hsl
 obtain⟨u,eu,h1,hu⟩:=Xd hsl
 obtain⟨⟨e,y⟩,hty,h2⟩:=bind_some h
 clear h
 dsimp only at h2
 obtain⟨r,hr,h3⟩:=bind_some h2
 clear h2
 obtain⟨hue,_,by_,zv,hT,hZ⟩:=Cq hty
 have hru:(match Sem.pv P (underlying u)with | some (.slice _)=>true | _=>false)=true:=by rw[Hz hu]
 have run:∀ {g:Gh} {hh:Nat→Option Blk'} {w:World} {v v2:Value} {l:List y.den} {cs:List Value} {ab:List Nat},Sim g hh w→(∀i∈r.2,i<H.length→hh i=H[i]?)→RepV g x v2→Acc e y.cells 0 w v l.length cs ab→RepL g.M y l cs→l.length+r.1.length≤1000000 →
   ∃v' w' ab' cs',(∀co,(builtin .append c.argTypes o.type co [v,v2].toArray).run P w=.ok (.value v') w')∧Acc e y.cells 0 w' v' (l++r.1).length cs' ab'∧RepL g.M y (l++r.1) cs'∧Upd ab w w'∧(∀k∈ab',k∈ab∨w.heap.size≤k):=by
  intro g hh w v v2 l cs ab hs hrd hv2 hA hL hn
  obtain⟨xs,hxs,hSl⟩:=A65 hr hs hrd hv2
  obtain⟨v',w',ab',hrun,hA',hU,hab,_⟩:=append_run (P:=P) (ty:=o.type) hT hru hA hSl (RepL.len _ _ hxs).2 (by omega) (Nat.zero_le _)
  refine⟨v',w',ab',cs++xs,fun co=>?_,by rw[List.length_append];exact hA',RepL.append _ _ _ _ hL hxs,hU,hab⟩
  simp only[builtin,Ac7 h0 h1,Sem.run_bind,hrun,Result.andThen_ok,Sem.run_pure]
 split at h3
 ·obtain⟨hn,h4⟩:=A7g h3
  refine⟨_,_,_,_,h4,by simp[hop],by simp,by simp,fun i=>⟨fun h1 _=>List.getElem?_append_left h1,fun h1 h2=>by simp at h2 ⊢;omega⟩,fun g h w ρ hO hs hh hnw=>?_⟩
  have hr2:=D6 hop hO has
  simp only[RepVs,RepV]at hr2
  obtain⟨v,us,e1,rfl,v2,us2,e2,hv2,e3⟩:=hr2
  subst e3;subst e2
  have hρ:=(hnw H.length (Nat.le_refl _) (by simp)).1
  obtain⟨v',w',ab',cs',hrun,hA',hL',hU,hab⟩:=run (l:=[]) (cs:=[]) (ab:=[]) (v:=.slice none 0 0) hs (fun i hi hl=>hh i (.inl hi) hl) hv2 (Acc.nil _ _ _ _) rfl (by simpa using hn)
  have hM:∀b∈ab',g.M b=none:=fun b hb=>by
   rcases hab b hb with h | h
   ·cases h
   ·cases hm:g.M b with
    | none=>rfl
    | some ob=>have:=A8 (hs.mem b ob hm);omega
  obtain⟨xx,hxx,hB,hV⟩:=Adn (N:=H.length) hρ hA' hL' (by simpa using hn) hM
  obtain⟨st,hs'⟩:=Hw (ids:=[]) (N:=H.length) hs hU hU.size (by simp) (fun b c n e=>hab b (hxx b c n e)) hρ hB
  obtain⟨co,hex⟩:=exec_builtin hop hcal ρ
  rw[e1]at hex
  have hrun':(execOp ρ o).run P w=.ok (.value v') w':=by rw[hex];exact hrun co
  simp only[Exec,hrun']
  refine⟨_,st.mono (fun b hb=>Sw.sub (by simp) hb) (fun i hi=>by subst hi;simp),?_,hV⟩
  rw[Aga]
  show Sim _ (fun i=>if i=H.length then _ else h i) w'
  simpa using hs'
 ·rename_i id
  split at h3
  rotate_left
  ·cases h3
  rename_i a l0 hb
  obtain⟨l,hl,h4⟩:=bind_some h3
  obtain⟨rfl,rfl⟩:=Bb hl
  clear h3
  split at h4
  ·cases h4
  rename_i hnc
  obtain⟨hn,h5⟩:=A7g h4
  have hlt:id<H.length:=(List.getElem?_eq_some_iff.1 hb).1
  refine⟨_,_,_,_,h5,by simp[hop],by simp,fun i hi=>by simp at hi ⊢;omega,fun i=>⟨fun h1 h2=>by rw[List.getElem?_append_left (by simpa using h1),List.getElem?_set_ne (fun e=>h2 (by simp[e]))],fun h1 h2=>by simp at h2 ⊢;omega⟩,fun g h w ρ hO hs hh hnw=>?_⟩
  have hr2:=D6 hop hO has
  simp only[RepVs]at hr2
  obtain⟨v,us,e1,hv,v2,us2,e2,hv2,e3⟩:=hr2
  subst e3;subst e2
  have hid:=hh id (by simp) hlt
  rw[hb]at hid
  have hρ:=(hnw H.length (Nat.le_refl _) (by simp)).1
  have hAcc:∃cs ab,Acc e a.cells 0 w v l.length cs ab∧RepL g.M a l cs∧(∀b∈ab,∃i∈[id],∃k c n,h i=some k∧k.mut=true∧g.ρ i=some (some (b,c,n))):=by
   obtain⟨hl0,hB⟩:=hs.blk id _ hid
   simp only[RepV]at hv
   rcases hB with⟨e4,rfl⟩ | ⟨b,cp,vs,rest,ty,e4,hb2,hL,hc2,hrs,hM⟩
   ·rcases hv with⟨_,rfl⟩ | ⟨b,cp,n,e5,_⟩
    ·exact⟨[],[],Acc.nil _ _ _ _,rfl,by simp⟩
    ·rw[e4]at e5;cases e5
   ·rcases hv with⟨e5,_⟩ | ⟨b3,c3,n,e5,rfl⟩
    ·rw[e4]at e5;cases e5
    ·rw[e4]at e5;cases e5
     exact⟨vs,[b],⟨(RepL.len _ _ hL).1,.inr ⟨b,cp,rest,rfl,rfl,Nat.zero_le _,hc2,hrs,ty,hb2⟩⟩,hL,fun b' hb'=>by simp at hb';subst hb';exact⟨id,by simp,_,_,_,hid,rfl,e4⟩⟩
  obtain⟨cs,ab,hA,hL,hab0⟩:=hAcc
  obtain⟨v',w',ab',cs',hrun,hA',hL',hU,hab⟩:=run hs (fun i hi hl=>hh i (.inl (by simp[hi])) hl) hv2 hA hL hn
  have hM:∀b∈ab',g.M b=none:=fun b hb=>by
   rcases hab b hb with h1 | h1
   ·obtain⟨i,_,k,c,n,q1,q2,q3⟩:=hab0 b h1
    exact(hs.lt q1 q2 q3).2
   ·cases hm:g.M b with
    | none=>rfl
    | some ob=>have:=A8 (hs.mem b ob hm);omega
  obtain⟨xx,hxx,hB,hV⟩:=Adn (N:=H.length) hρ hA' hL' (by simpa using hn) hM
  obtain⟨st,hs'⟩:=Hw (ids:=[id]) (N:=H.length) hs hU hU.size hab0 (fun b c n e=>hab b (hxx b c n e)) hρ hB
  obtain⟨co,hex⟩:=exec_builtin hop hcal ρ
  rw[e1]at hex
  have hrun':(execOp ρ o).run P w=.ok (.value v') w':=by rw[hex];exact hrun co
  simp only[Exec,hrun']
  refine⟨_,st.mono (fun b hb=>Sw.sub (by simp) hb) (fun i hi=>by subst hi;simp),?_,hV⟩
  have hf:updH h H (H.set id .dead++[Blk'.lst a (l++r.1)]) [id,H.length]=fun i=>if i=H.length then some (Blk'.lst a (l++r.1))else if i∈[id]then some .dead else h i:=by
   funext i
   simp only[updH,chg,List.mem_cons,List.mem_singleton,List.not_mem_nil,or_false,List.length_append,List.length_set,List.length_singleton]
   by_cases hi:i=H.length
   ·subst hi;simp[List.getElem?_append_right]
   ·by_cases hi2:i=id
    ·subst hi2
     rw[if_pos (.inl (.inl rfl)),if_neg hi,if_pos rfl,List.getElem?_append_left (by simpa using hlt)]
     simp[hlt]
    ·rw[if_neg (by omega),if_neg hi,if_neg hi2]
  rw[hf];exact hs'
 ·cases h3
theorem Afv{t:TypeId}{x:Operand}{lo hi:Option Operand}(hop:o.op=.slice t x lo hi none)(hk:Nat.ble 4 (A24 specs)=true)(h:evOp P specs o L H κ=some z):OpR P o L H κ z:=by
 simp only[evOp,hop,hk]at h
 unfold sliceK at h
 split at h
 rotate_left
 ·cases h
 rename_i y id hx
 split at h
 rotate_left
 ·cases h
 rename_i kd n ty a l0 hy hty hb
 obtain⟨l,hl,h4⟩:=bind_some h
 clear h
 obtain⟨rfl,rfl⟩:=Bb hl
 obtain⟨hc,h5⟩:=Az h4
 clear h4
 simp only[decide_eq_true_eq]at hc
 obtain⟨e,a⟩:=ty
 obtain⟨hue,hel,by_,zv,hT,hZ⟩:=Cq hty
 have hlt:id<H.length:=(List.getElem?_eq_some_iff.1 hb).1
 obtain⟨m,rfl⟩:∃m:Nat,n=m:=⟨n.toNat,by omega⟩
 have hml:m≤l.length:=by omega
 simp only[Int.toNat_natCast]at h5
 refine⟨_,_,_,_,h5,by simp[hop],by simp,fun i hi=>by simp at hi ⊢;omega,fun i=>⟨fun h1 h2=>by rw[List.getElem?_append_left (by simpa using h1),List.getElem?_set_ne (fun e=>h2 (by simp[e]))],fun h1 h2=>by simp at h2 ⊢;omega⟩,fun g h w ρ hO hs hh hnw=>?_⟩
 have rx:=hO.get (x:=x) (by simp[hop,Op.operands]) hx
 have ry:=hO.get (x:=y) (by simp[hop,Op.operands]) hy
 simp only[RepV]at rx ry
 have hid:=hh id (by simp) hlt
 rw[hb]at hid
 have hρ:=(hnw H.length (Nat.le_refl _) (by simp)).1
 have hsz:szOf P e=some a.cells:=by
  have:=hT.size
  exact(Ci hel).2.1
 obtain⟨hl9,hB⟩:=hs.blk id _ hid
 have hlen:(l.take m).length=m:=by rw[List.length_take];omega
 have fin:∀(ab:List Nat) (xx:Option (Nat×Nat×Nat)) (v':Value),(∀b∈ab,∃i∈[id],∃k c n,h i=some k∧k.mut=true∧g.ρ i=some (some (b,c,n)))→(∀b c n,xx=some (b,c,n)→b∈ab)→RepBlk (newG g H.length xx) w H.length (.lst a (l.take m))→RepV (newG g H.length xx) (.ols H.length) v'→(execOp ρ o).run P w=.ok (.value v') w →
   Exec P (execOp ρ o) w (fun v' w'=>∃g',Stp (Sw g h [id,H.length]) (fun i=>H.length≤i∧i<(H.set id .dead++[Blk'.lst a (l.take m)]).length) g w g' w'∧Sim g' (updH h H (H.set id .dead++[Blk'.lst a (l.take m)]) [id,H.length]) w'∧RepV g' (.ols H.length) v'):=by
  intro ab xx v' hab hxx hB2 hV hrun
  obtain⟨st,hs'⟩:=Hw (ids:=[id]) (N:=H.length) hs (Upd.refl ab w) (Nat.le_refl _) hab (fun b c n e=>.inl (hxx b c n e)) hρ hB2
  simp only[Exec,hrun]
  refine⟨_,st.mono (fun b hb=>Sw.sub (by simp) hb) (fun i hi=>by subst hi;simp),?_,hV⟩
  have hf:updH h H (H.set id .dead++[Blk'.lst a (l.take m)]) [id,H.length]=fun i=>if i=H.length then some (Blk'.lst a (l.take m))else if i∈[id]then some .dead else h i:=by
   funext i
   simp only[updH,chg,List.mem_cons,List.mem_singleton,List.not_mem_nil,or_false,List.length_append,List.length_set,List.length_singleton]
   by_cases hi:i=H.length
   ·subst hi;simp[List.getElem?_append_right]
   ·by_cases hi2:i=id
    ·subst hi2
     rw[if_pos (.inl (.inl rfl)),if_neg hi,if_pos rfl,List.getElem?_append_left (by simpa using hlt)]
     simp[hlt]
    ·rw[if_neg (by omega),if_neg hi,if_neg hi2]
  rw[hf];exact hs'
 rcases hB with⟨e4,rfl⟩ | ⟨b,cp,vs,rest,ty,e4,hb2,hL,hc2,hrs,hM⟩
 ·rcases rx with⟨_,ev⟩ | ⟨b,cp,n,e5,_⟩
  ·obtain rfl:m=0:=by simpa using hml
   refine fin [] none (.slice none 0 0) (by simp) (by simp) ⟨by simp,.inl ⟨Ad _ _ _,by simp⟩⟩ (.inl ⟨Ad _ _ _,rfl⟩) ?_
   have hsa:=Kq (P:=P) (a:=none) (n:=0) (c:=0) (l:=0) (h:=0) hue hsz none (some (kd,((0:Nat):Int))) rfl rfl (Nat.le_refl _) (Nat.le_refl _) (Nat.le_refl _) w
   simp only[Option.map_none,Option.map_some,if_true,Nat.sub_zero]at hsa
   have hsa2:(Instr.sliceAt t (.slice none 0 0) none (some (.int kd 0)) none).run P w=.ok (.slice none 0 0) w:=hsa
   simp[execOp,hop,ev,ry.1,hsa2]
  ·rw[e4]at e5;cases e5
 ·rcases rx with⟨e5,_⟩ | ⟨b3,c3,n,e5,ev⟩
  ·rw[e4]at e5;cases e5
  ·rw[e4]at e5;cases e5
   refine fin [b] (some (b,cp,m)) (.slice (some ⟨b,0,none⟩) m cp) (fun b' hb'=>by simp at hb';subst hb';exact⟨id,by simp,_,_,_,hid,rfl,e4⟩) (fun b' c' n' e=>by cases e;simp) ⟨by rw[hlen];omega,.inr ⟨b,cp,vs.take (m*a.cells),vs.drop (m*a.cells)++rest,ty,by rw[hlen];exact Ad _ _ _,?_,?_,by rw[hlen];omega,?_,hM⟩⟩ (.inr ⟨b,cp,m,Ad _ _ _,rfl⟩) ?_
   ·rw[←List.append_assoc,List.take_append_drop];exact hb2
   ·exact RepL.mono (Hm hρ).M _ _ ((RepL.split _ _ m hL hml).1)
   ·have h1:=(RepL.len _ _ hL).1
    rw[List.length_append,List.length_drop,h1,hrs,hlen,←Nat.sub_mul,←Nat.add_mul]
    congr 1;omega
   ·have hsa:=Kq (P:=P) (a:=some ⟨b,0,none⟩) (n:=l.length) (c:=cp) (l:=0) (h:=m) hue hsz none (some (kd,(m:Int))) rfl rfl (Nat.zero_le _) hml hc2.1 w
    simp only[Option.map_none,Option.map_some,Nat.sub_zero,Nat.zero_mul]at hsa
    have e9:(if cp=0 then some (⟨b,0,none⟩:Addr)else some ((⟨b,0,none⟩:Addr).add 0))=some ⟨b,0,none⟩:=by
     split
     ·rfl
     ·rw[Aw]
    rw[e9]at hsa
    simp[execOp,hop,ev,ry.1,hsa]
theorem Alp{c:Call}{id:Nat}{x:AV}{st:TypeId}{y:Ty}{l:List y.den}(hop:o.op=.call c)(hcal:c.callee=.builtin .copy)(has:opds L c.args.toList=some [.ols id,x])(h0:c.argTypes[0]?=some st)(hb:H[id]?=some (.lst y l))
  (h:(if(slTy P st).map (·.2)=some y then(RdL x H y).bind fun x=>if x.2.contains id then none else
      let n:=min x.1.length l.length
      κ (.i .i64 (n:Int)) (H.set id (.lst y (x.1.take n++l.drop n))) (id::x.2) [id]else none)=some z):OpR P o L H κ z:=by
 split at h
 rotate_left
 ·cases h
 rename_i hsl
 obtain⟨⟨e,y'⟩,hty,e1⟩:=map_some hsl
 dsimp only at e1;subst e1
 obtain⟨r,hr,h2⟩:=bind_some h
 clear h
 split at h2
 ·cases h2
 dsimp only at h2
 obtain⟨hue,hel,_⟩:=Cq hty
 obtain⟨_,hsz,_⟩:=Ci hel
 have hlt:id<H.length:=(List.getElem?_eq_some_iff.1 hb).1
 refine⟨_,_,_,_,h2,by simp[hop],by simp,fun i hi=>by simp at hi ⊢;omega,fun i=>⟨fun _ h2=>List.getElem?_set_ne (fun e=>h2 (by simp[e])),fun h1 h2=>by rw[List.length_set]at h2;omega⟩,fun g h w ρ hO hs hh hnw=>?_⟩
 have hr2:=D6 hop hO has
 simp only[RepVs]at hr2
 obtain⟨v,us,e1,hv,v2,us2,e2,hv2,e3⟩:=hr2
 subst e3;subst e2
 have hid:=hh id (by simp) hlt
 rw[hb]at hid
 obtain⟨cs,hcs,hSl⟩:=A65 hr hs (fun i hi hl=>hh i (.inl (by simp[hi])) hl) hv2
 obtain⟨co,hex⟩:=exec_builtin hop hcal ρ
 rw[e1]at hex
 have hid0:=hid
 obtain⟨hl0,hB⟩:=hs.blk id _ hid
 have hmn:inR .i64 ((min r.1.length l.length:Nat):Int):=Aec (by omega)
 rw[Ph hlt]
 simp only[RepV]at hv
 rcases hB with⟨e4,rfl⟩ | ⟨b,cp,vs,rest,ty,e4,hb2,hL,hc2,hrs,hM⟩
 ·rcases hv with⟨_,rfl⟩ | ⟨b,cp,n,e5,_⟩
  ·have hrun:(execOp ρ o).run P w=.ok (.value (.int .i64 0)) w:=by
    rw[hex]
    simp only[builtin,A8g h0 hue hsz hSl,Sem.run_bind,Result.andThen_ok,Sem.run_pure]
   simp only[Exec,hrun]
   refine⟨g,Stp.refl _ _ g w,?_,by simp,hmn⟩
   have:putH h id (.lst y' (r.1.take (min r.1.length ([]:List y'.den).length)++([]:List y'.den).drop (min r.1.length ([]:List y'.den).length)))=h:=by
    funext i
    simp only[putH]
    split
    ·rename_i hi;subst hi;rw[hid0];simp
    ·rfl
   rw[this];exact hs
  ·rw[e4]at e5;cases e5
 ·rcases hv with⟨e5,_⟩ | ⟨b3,c3,n,e5,rfl⟩
  ·rw[e4]at e5;cases e5
  ·rw[e4]at e5;cases e5
   have hvl:=(RepL.len _ _ hL).1
   obtain⟨w',hrun,hP⟩:=Ago (P:=P) (tt:=o.type) (cap:=cp) (n:=l.length) h0 hue hsz hb2 (by simp[hvl]) hSl (RepL.len _ _ hcs).2
   have hrun':(execOp ρ o).run P w=.ok (.value (.int .i64 ((min r.1.length l.length:Nat):Int))) w':=by
    rw[hex]
    simp only[builtin,hrun,Sem.run_bind,Result.andThen_ok,Sem.run_pure]
   simp only[Exec,hrun']
   have hle:min r.1.length l.length*y'.cells≤vs.length:=by rw[hvl];exact Nat.mul_le_mul_right _ (Nat.min_le_right _ _)
   have hLn:RepL g.M y' (r.1.take (min r.1.length l.length)++l.drop (min r.1.length l.length)) (cs.take (min r.1.length l.length*y'.cells)++vs.drop (min r.1.length l.length*y'.cells)):=
    RepL.append _ _ _ _ (RepL.split _ _ _ hcs (Nat.min_le_left _ _)).1 (RepL.split _ _ _ hL (Nat.min_le_right _ _)).2
   have hlen:(r.1.take (min r.1.length l.length)++l.drop (min r.1.length l.length)).length=l.length:=by simp;omega
   have hk:RepBlk g w' id (.lst y' (r.1.take (min r.1.length l.length)++l.drop (min r.1.length l.length))):=by
    refine⟨by omega,.inr ⟨b,cp,_,rest,ty,by rw[hlen];exact e4,?_,hLn,by omega,by rw[hlen];exact hrs,hM⟩⟩
    have:=hP.blk
    rw[List.drop_append_of_le_length hle,←List.append_assoc]at this
    exact this
   obtain⟨st,hs'⟩:=Gu (wr:=[id]) (nw:=fun i=>H.length≤i∧i<(H.set id (Blk'.lst y' (r.1.take (min r.1.length l.length)++l.drop (min r.1.length l.length)))).length) hs hid rfl e4 hP (by simp) hM hk
   exact⟨g,st,hs',rfl,hmn⟩
theorem Akj{c:Call}{id:Nat}{st:TypeId}{y:Ty}{l:List y.den}(hop:o.op=.call c)(hcal:c.callee=.builtin .clear)(has:opds L c.args.toList=some [.ols id])(h0:c.argTypes[0]?=some st)(hb:H[id]?=some (.lst y l))
  (hk0:(if(slTy P st).map (·.2)=some y then κ (.tup []) (H.set id (.lst y (List.replicate l.length y.dflt))) [id] [id]else none)=some z):OpR P o L H κ z:=by
 split at hk0
 rotate_left
 ·cases hk0
 rename_i hsl
 obtain⟨⟨e,y'⟩,hty,e1⟩:=map_some hsl
 dsimp only at e1;subst e1
 obtain⟨hue,hel,by_,zv,hT,hZ⟩:=Cq hty
 have hlt:id<H.length:=(List.getElem?_eq_some_iff.1 hb).1
 refine⟨_,_,_,_,hk0,by simp[hop],by simp,fun i hi=>by simp at hi ⊢;omega,fun i=>⟨fun _ h2=>List.getElem?_set_ne (fun e=>h2 (by simp[e])),fun h1 h2=>by rw[List.length_set]at h2;omega⟩,fun g h w ρ hO hs hh hnw=>?_⟩
 have hr2:=D6 hop hO has
 simp only[RepVs]at hr2
 obtain⟨v,us,e1,hv,e3⟩:=hr2
 subst e3
 have hid:=hh id (by simp) hlt
 rw[hb]at hid
 obtain⟨co,hex⟩:=exec_builtin hop hcal ρ
 rw[e1]at hex
 have hid0:=hid
 obtain⟨hl0,hB⟩:=hs.blk id _ hid
 have hr0:RepV g (.tup []) (.tuple #[]):=⟨[],rfl,rfl⟩
 rw[Ph hlt]
 have empty:l=[]→∀a cap,v=.slice a 0 cap→Exec P (execOp ρ o) w fun v' w'=>∃g',Stp (Sw g h [id]) (fun i=>H.length≤i∧i<(H.set id (Blk'.lst y' (List.replicate l.length y'.dflt))).length) g w g' w'∧Sim g' (putH h id (Blk'.lst y' (List.replicate l.length y'.dflt))) w'∧RepV g' (.tup []) v':=by
  intro hl a cap hva
  subst hl
  have hrun:(execOp ρ o).run P w=.ok (.value (.tuple #[])) w:=by
   rw[hex,hva]
   cases a<;>simp[builtin,Builtin.clear_,h0,A9 hue]
  simp only[Exec,hrun]
  refine⟨g,Stp.refl _ _ g w,?_,hr0⟩
  have:putH h id (Blk'.lst y' (List.replicate ([]:List y'.den).length y'.dflt))=h:=by
   funext i
   simp only[putH]
   split
   ·rename_i hi;subst hi;rw[hid0];simp
   ·rfl
  rw[this];exact hs
 simp only[RepV]at hv
 rcases hB with⟨e4,hl⟩ | ⟨b,cp,vs,rest,ty,e4,hb2,hL,hc2,hrs,hM⟩
 ·rcases hv with⟨_,hva⟩ | ⟨b,cp,n,e5,_⟩
  ·exact empty hl none 0 hva
  ·rw[e4]at e5;cases e5
 ·rcases hv with⟨e5,_⟩ | ⟨b3,c3,n,e5,rfl⟩
  ·rw[e4]at e5;cases e5
  ·rw[e4]at e5;cases e5
   by_cases hl:l=[]
   ·exact empty hl (some ⟨b,0,none⟩) cp (by subst hl;rfl)
   ·have hlp:0<l.length:=List.length_pos_iff.2 hl
    have hvl:=(RepL.len _ _ hL).1
    have hz2:(Builtin.zeroCells zv.cells l.length).toList=(List.replicate l.length zv.cells.toList).flatten:=by
     have:=I2 zv.cells l.length (by rw[hT.zsz];exact hT.pos)
     simp only[Builtin.zeroCells]
     rw[this]
    have hLn:=RepL.rep (hZ g.M) l.length
    have hfl:∀c∈(List.replicate l.length zv.cells.toList).flatten,flat c=true:=(RepL.len _ _ hLn).2
    have hln:=(RepL.len _ _ hLn).1
    rw[List.length_replicate]at hln
    have hst:=Bw (P:=P) _ 0 0 (vs++rest) w hfl (by rw[hln];simp[hvl]) hb2
    simp only[Nat.zero_add,List.take_zero,List.nil_append,hln,←hvl,List.drop_left]at hst
    have hrun:(execOp ρ o).run P w=.ok (.value (.tuple #[])) { w with heap:=w.heap.setIfInBounds b (.cells ((List.replicate l.length zv.cells.toList).flatten++rest).toArray ty (0,0)) }:=by
     rw[hex]
     obtain⟨n,hn⟩:∃n,l.length=n+1:=⟨l.length-1,by omega⟩
     have hzr:=Sem.pv_run P _ _ hT.zero w
     simp only[builtin,Builtin.clear_,h0,List.getElem?_toArray,List.getElem?_cons_zero,Sem.run_bind,A9 hue,Result.andThen_ok,hn]
     rw[←hn]
     simp only[Sem.run_bind,hzr,Result.andThen_ok,hz2,hst,Sem.run_pure]
    have hP:=Put.mk' (.cells ((List.replicate l.length zv.cells.toList).flatten++rest).toArray ty (0,0)) hb2
    simp only[Exec,hrun]
    have hk:RepBlk g { w with heap:=w.heap.setIfInBounds b (.cells ((List.replicate l.length zv.cells.toList).flatten++rest).toArray ty (0,0)) } id (.lst y' (List.replicate l.length y'.dflt)):=by
     refine⟨by simpa using hl0,.inr ⟨b,cp,_,rest,ty,by simpa using e4,hP.blk,hLn,by simpa using hc2,by simpa using hrs,hM⟩⟩
    obtain⟨st',hs'⟩:=Gu (wr:=[id]) (nw:=fun i=>H.length≤i∧i<(H.set id (Blk'.lst y' (List.replicate l.length y'.dflt))).length) hs hid rfl e4 hP (by simp) hM hk
    exact⟨g,st',hs',hr0⟩
theorem Ad2{c:Call}{bi:Builtin}(hop:o.op=.call c)(hcal:c.callee=.builtin bi)(h:evCall P specs L H c κ=some z):OpR P o L H κ z:=by
 simp only[evCall,hcal]at h
 obtain⟨as,has,h1⟩:=bind_some h
 clear h
 split at h1
 ·split at h1
  ·rename_i hsl;exact op_len hop hcal has hsl h1
  ·cases h1
 ·rename_i k a k2 b
  split at h1
  ·rename_i hk;subst hk
   refine Sz hop hcal has (fun g vs hr=>?_) h1
   simp only[RepVs,RepV]at hr
   obtain⟨_,_,rfl,⟨rfl,r1⟩,_,_,rfl,⟨rfl,r2⟩,rfl⟩:=hr
   refine⟨A4q r1 r2,fun cs w=>?_⟩
   simp[builtin,Builtin.min_,Builtin.min2,Ad8]
  ·cases h1
 ·rename_i k a k2 b
  split at h1
  ·rename_i hk;subst hk
   refine Sz hop hcal has (fun g vs hr=>?_) h1
   simp only[RepVs,RepV]at hr
   obtain⟨_,_,rfl,⟨rfl,r1⟩,_,_,rfl,⟨rfl,r2⟩,rfl⟩:=hr
   refine⟨Amb r1 r2,fun cs w=>?_⟩
   have:=Aln a b
   simp only[gt_iff_lt]at this
   simp[builtin,Builtin.max_,Builtin.max2,this]
  ·cases h1
 ·rename_i k a k2 b k3 d
  split at h1
  ·rename_i hk;obtain⟨rfl,rfl⟩:=hk
   refine Sz hop hcal has (fun g vs hr=>?_) h1
   simp only[RepVs,RepV]at hr
   obtain⟨_,_,rfl,⟨rfl,r1⟩,_,_,rfl,⟨rfl,r2⟩,_,_,rfl,⟨rfl,r3⟩,rfl⟩:=hr
   refine⟨A4q (A4q r1 r2) r3,fun cs w=>?_⟩
   simp[builtin,Builtin.min_,Builtin.min2,Ad8]
  ·cases h1
 ·split at h1
  ·rename_i st h0;exact op_append hop hcal has h0 h1
  ·cases h1
 ·split at h1
  ·rename_i st y l h0 hb;exact Akj hop hcal has h0 hb h1
  ·cases h1
 ·split at h1
  ·rename_i st y l h0 hb;exact Alp hop hcal has h0 hb h1
  ·cases h1
 ·cases h1
end
end Go.Proofs.YtfcnhnbnjdccfaaGreat

namespace Go.Proofs.YtfcnhnbnjdccfaaGreat
set_option linter.all false
open Go

structure Ren (f:Nat→Nat) (g g':Gh):Prop where
 ρ:∀j x,g.ρ j=some x→g'.ρ (f j)=some x
 M:∀b o,g.M b=some o→g'.M b=some o
theorem RepE.mono{M M':Nat→Option Obj}(hM:∀b o,M b=some o→M' b=some o){t:Ty}{x:t.den}{v:Value}(h:RepE M t x v):RepE M' t x v:=let ⟨us,a,b⟩:=h;⟨us,RepC.mono hM t x us a,b⟩
mutual
theorem A2u{f:Nat→Nat}{g g':Gh}(hr:Ren f g g'):∀(s:Sh) (p:s.den) (v:Value),RepV g (enc id s p) v→RepV g' (enc f s p) v
 | .i k,n,v,h=>h
 | .b,c,v,h=>h
 | .sl t,l,v,h=>by simp only[enc,RepV]at h ⊢;exact h.mono hr.M (RepC.mono hr.M t)
 | .own j base,_,v,h=>by simp only[enc,RepV,id]at h ⊢;obtain⟨b,c,n,e,h⟩:=h;exact⟨b,c,n,hr.ρ _ _ e,h⟩
 | .ols j,_,v,h=>by
  simp only[enc,RepV,id]at h ⊢
  rcases h with⟨e,h⟩ | ⟨b,c,n,e,h⟩
  ·exact .inl ⟨hr.ρ _ _ e,h⟩
  ·exact .inr ⟨b,c,n,hr.ρ _ _ e,h⟩
 | .osl j m,_,v,h=>by simp only[enc,RepV,id]at h ⊢;obtain⟨b,c,n,e,h⟩:=h;exact⟨b,c,n,hr.ρ _ _ e,h⟩
 | .mp j,_,v,h=>by simp only[enc,RepV,id]at h ⊢;obtain⟨b,c,n,e,h⟩:=h;exact⟨b,c,n,hr.ρ _ _ e,h⟩
 | .fz l,p,v,h=>by simp only[enc,RepV]at h ⊢;obtain⟨b,o,vs,ty,us,e,hm,hs,hc⟩:=h;exact⟨b,o,vs,ty,us,e,hr.M _ _ hm,hs,M9 hr l p us hc⟩
 | .fe t,x,v,h=>by simp only[enc,RepV]at h ⊢;obtain⟨b,o,vs,ty,us,e,hm,hs,hc⟩:=h;exact⟨b,o,vs,ty,us,e,hr.M _ _ hm,hs,RepC.mono hr.M _ _ _ hc⟩
 | .arr t n,l,v,h=>by simp only[enc,RepV]at h ⊢;obtain⟨vs,e,hl,h⟩:=h;exact⟨vs,e,hl,RepL.mono hr.M _ _ h⟩
 | .nilp,_,v,h=>h
 | .nilf,_,v,h=>h
 | .nils,_,v,h=>h
 | .nilm,_,v,h=>h
 | .undef,_,v,h=>h
 | .fn q a c,p,v,h=>by
  simp only[enc,RepV]at h ⊢
  obtain⟨va,vc,e,h1,h2⟩:=h
  exact⟨va,vc,e,R3 hr a p.1 va h1,R3 hr c p.2 vc h2⟩
 | .agg l,p,v,h=>by simp only[enc,RepV]at h ⊢;obtain⟨vs,e,h⟩:=h;exact⟨vs,e,M9 hr l p vs h⟩
theorem R3{f:Nat→Nat}{g g':Gh}(hr:Ren f g g'):∀(ss:List Sh) (p:Shs.den ss) (vs:List Value),RepVs g (encs id ss p) vs→RepVs g' (encs f ss p) vs
 | [],_,_,h=>h
 | s::ss,p,vs,h=>by simp only[encs,RepVs]at h ⊢;obtain⟨v,us,e,h1,h2⟩:=h;exact⟨v,us,e,A2u hr s p.1 v h1,R3 hr ss p.2 us h2⟩
theorem M9{f:Nat→Nat}{g g':Gh}(hr:Ren f g g'):∀(ss:List Sh) (p:Shs.den ss) (vs:List Value),A7 g (encs id ss p) vs→A7 g' (encs f ss p) vs
 | [],_,_,h=>h
 | s::ss,p,vs,h=>by
  simp only[encs,A7]at h ⊢
  obtain⟨v1,v2,e,h1,h2⟩:=h
  refine⟨v1,v2,e,?_,M9 hr ss p.2 v2 h2⟩
  have hR:=A2u hr s p.1
  cases s<;>simp only[enc,PartOf]at h1 hR ⊢<;>first
   | exact h1.elim
   | exact⟨h1.1,RepL.mono hr.M _ _ h1.2⟩
   | (obtain⟨v,e,r⟩:=h1;exact⟨v,e,hR v r⟩)
end
theorem Ak5{f:Nat→Nat}{g g':Gh}(hr:Ren f g g'){w:World}{j:Nat}{s:BSh}{p:s.den}(h:RepBlk g w j (encB id s p))(hn:∀b c n,g.ρ j=some (some (b,c,n))→g.M b=none→g'.M b=none):RepBlk g' w (f j) (encB f s p):=by
 cases s with
 | segs l=>
  obtain⟨b,c,n,vs,ty,e,hb,hp,hM⟩:=h
  exact⟨b,c,n,vs,ty,hr.ρ _ _ e,hb,M9 hr l p vs hp,hn _ _ _ e hM⟩
 | lst t=>
  obtain⟨hl,h⟩:=h
  refine⟨hl,?_⟩
  rcases h with⟨e,h⟩ | ⟨b,c,vs,rest,ty,e,hb,hL,hc,hrs,hM⟩
  ·exact .inl ⟨hr.ρ _ _ e,h⟩
  ·exact .inr ⟨b,c,vs,rest,ty,hr.ρ _ _ e,hb,RepL.mono hr.M p vs hL,hc,hrs,hn _ _ _ e hM⟩
 | map kt vt=>
  obtain⟨b,c,n,es,k,e,hb,hM,hR⟩:=h
  exact⟨b,c,n,es,k,hr.ρ _ _ e,hb,hn _ _ _ e hM,hR.mono hr.M⟩
 | dead=>trivial
theorem Dd(f:Nat→Nat)(s:BSh)(p:s.den)(h:s.live=true):(encB f s p).mut=true:=by cases s<;>first | rfl | cases h
theorem Gc{f:Nat→Nat}{s:BSh}{p:s.den}(h:(encB f s p).mut=true):s.live=true:=by cases s<;>first | rfl | cases h
theorem Iv(f:Nat→Nat):∀(ss:List BSh) (p:BShs.den ss) (j:Nat) (k:Blk'),(encBs f ss p)[j]?=some k→∃(s:BSh) (q:s.den),k=encB f s q∧∀f':Nat→Nat,(encBs f' ss p)[j]?=some (encB f' s q)
 | [],_,j,k,h=>by simp[encBs]at h
 | s::ss,p,0,k,h=>by simp only[encBs,List.getElem?_cons_zero,Option.some.injEq]at h;exact⟨s,p.1,h.symm,fun f'=>rfl⟩
 | s::ss,p,j+1,k,h=>by
  simp only[encBs,List.getElem?_cons_succ]at h
  obtain⟨s',q,e,h⟩:=Iv f ss p.2 j k h
  exact⟨s',q,e,fun f'=>by simpa [encBs]using h f'⟩
theorem Af(f:Nat→Nat):∀(ss:List BSh) (p:BShs.den ss),(encBs f ss p).length=ss.length
 | [],_=>rfl
 | s::ss,p=>by simp[encBs,Af f ss p.2]

structure FSE (σ σ':FS):Prop where
 m:∀(j:Nat) (x:Option Nat),σ.m[j]?=some (some x)→σ'.m[j]?=some (some x)
 fz:∀i∈σ.fz,i∈σ'.fz
 len:σ'.m.length=σ.m.length
theorem FSE.refl(σ:FS):FSE σ σ:=⟨fun _ _ h=>h,fun _ h=>h,rfl⟩
theorem FSE.trans{a b c:FS}(h:FSE a b)(k:FSE b c):FSE a c:=⟨fun _ _ x=>k.m _ _ (h.m _ _ x),fun _ x=>k.fz _ (h.fz _ x),k.len.trans h.len⟩
theorem I8{σ σ':FS}{j:Nat}{x:Option Nat}(h:σ.bind j x=some σ'):FSE σ σ'∧σ'.m[j]?=some (some x)∧σ'.fz=σ.fz:=by
 unfold FS.bind at h
 split at h
 ·rename_i hj
  simp only[Option.some.injEq]at h;subst h
  have hlt:=(List.getElem?_eq_some_iff.1 hj).1
  refine⟨⟨fun i y hi=>?_,fun _ h=>h,by simp⟩,by simp[hlt],rfl⟩
  by_cases hij:j=i
  ·subst hij;rw[hj]at hi;cases hi
  ·simpa [List.getElem?_set_ne hij]using hi
 ·rename_i y hj
  split at h
  ·rename_i hc
   simp only[Option.some.injEq]at h;subst h
   exact⟨FSE.refl _,by rw[hj,hc.1],rfl⟩
  ·cases h
 ·cases h
def rebG(σ:FS)(g:Gh):Gh:={ ρ:=fun j=>match σ.m[j]? with | some (some (some i))=>g.ρ i | some (some none)=>some none | _=>none,M:=g.M }
def Bnd(σ:FS)(g gc:Gh):Prop:=(∀(j i:Nat),σ.m[j]?=some (some (some i))→gc.ρ j=g.ρ i)∧(∀(j:Nat),σ.m[j]?=some (some none)→gc.ρ j=some none)∧gc.M=g.M
theorem A8y(σ:FS)(g:Gh):Bnd σ g (rebG σ g):=⟨fun j i h=>by simp[rebG,h],fun j h=>by simp[rebG,h],rfl⟩
theorem Bnd.sub{σ σ':FS}{g gc:Gh}(h:Bnd σ' g gc)(e:FSE σ σ'):Bnd σ g gc:=⟨fun j i x=>h.1 j i (e.m _ _ x),fun j x=>h.2.1 j (e.m _ _ x),h.2.2⟩
theorem Frz.sub{g:Gh}{w:World}{H:HH}{a b:List Nat}(h:Frz g w H b)(hs:∀i∈a,i∈b):Frz g w H a:=fun i hi=>h i (hs i hi)

section
variable {H:HH} {w:World}
mutual
theorem Akv:∀(s:Sh) (a:AV) (σ:FS) (r:s.den×FS),fit H s a σ=some r→FSE σ r.2∧∀(g gc:Gh) (v:Value),Bnd r.2 g gc→Frz g w H r.2.fz→RepV g a v→RepV gc (enc id s r.1) v
 | .i k,a,σ,r,h=>by
  cases a<;>simp only[fit,reduceCtorEq]at h
  split at h
  ·rename_i hk;subst hk;cases h;exact⟨FSE.refl _,fun g gc v _ _ hv=>hv⟩
  ·cases h
 | .b,a,σ,r,h=>by
  cases a<;>simp only[fit,reduceCtorEq]at h
  cases h;exact⟨FSE.refl _,fun g gc v _ _ hv=>hv⟩
 | .sl t,a,σ,r,h=>by
  cases a<;>simp only[fit,reduceCtorEq]at h
  ·cases h
   refine⟨FSE.refl _,fun g gc v _ _ hv=>?_⟩
   simp only[RepV]at hv;subst hv
   exact⟨by simp,none,0,rfl,Nat.le_refl _,.inl rfl⟩
  ·obtain⟨l,hl,rfl⟩:=map_some h
   obtain⟨rfl,rfl⟩:=Bb hl
   refine⟨FSE.refl _,fun g gc v hB _ hv=>?_⟩
   simp only[RepV,enc]at hv ⊢
   rw[hB.2.2];exact hv
  ·rename_i i
   obtain⟨l,hl,rfl⟩:=map_some h
   refine⟨⟨fun _ _ h=>h,fun _ h=>by simp[h],rfl⟩,fun g gc v hB hF hv=>?_⟩
   have:=S7 ((hF i (by simp)).1 t l hl) hv
   simp only[RepV,enc]
   rw[hB.2.2];exact this
  ·rename_i i n
   have key:∀ps,(H[i]?=some (.segs ps)∨H[i]?=some (.rsegs ps))→((unLf (unE H t) ps).bind fun x=>if decide (x.1.length=n∧n≤1000000)&&!x.2.contains i then some (x.1,{ σ with fz:=i::(x.2++σ.fz) })else none)=some r→FSE σ r.2∧∀(g gc:Gh) (v:Value),Bnd r.2 g gc→Frz g w H r.2.fz→RepV g (.osl i n) v→RepV gc (enc id (.sl t) r.1) v:=by
    intro ps hb h
    obtain⟨x,hx,h2⟩:=bind_some h
    split at h2
    ·rename_i hc
     simp only[Bool.and_eq_true,decide_eq_true_eq]at hc
     cases h2
     refine⟨⟨fun _ _ h=>h,fun _ h=>by simp[h],rfl⟩,fun g gc v hB hF hv=>?_⟩
     obtain⟨b,c,m,vs,ty,e,hM,hp⟩:=(hF i (by simp)).2 ps hb
     have hL:=Sa (fun a r vs=>A5r t a r vs) ps x vs hx hp (fun j hj=>hF j (by simp[hj]))
     simp only[RepV,enc]at hv ⊢
     obtain⟨b',c',m',e2,rfl⟩:=hv
     rw[e]at e2;cases e2
     rw[hB.2.2]
     refine⟨by omega,_,n,by rw[hc.1.1],by omega,.inr ⟨b,0,vs,ty,rfl,hM,fun j y hj=>?_⟩⟩
     obtain⟨us,h1,h2⟩:=RepL.get _ _ _ _ hL hj
     exact⟨us,by rw[Nat.zero_add];exact h1,h2⟩
    ·cases h2
   split at h
   ·rename_i ps hb;exact key ps (.inl hb) h
   ·rename_i ps hb;exact key ps (.inr hb) h
   ·cases h
 | .own j base,a,σ,r,h=>by
  cases a<;>simp only[fit,reduceCtorEq]at h
  split at h
  ·rename_i hb;subst hb
   obtain⟨σ',hs,rfl⟩:=map_some h
   obtain⟨h1,h2,_⟩:=I8 hs
   refine⟨h1,fun g gc v hB _ hv=>?_⟩
   simp only[RepV,enc]at hv ⊢
   rw[show id j=j from rfl,hB.1 _ _ h2];exact hv
  ·cases h
 | .ols j,a,σ,r,h=>by
  cases a<;>simp only[fit,reduceCtorEq]at h
  ·obtain⟨σ',hs,rfl⟩:=map_some h
   obtain⟨h1,h2,_⟩:=I8 hs
   refine⟨h1,fun g gc v hB _ hv=>?_⟩
   simp only[RepV,enc]at hv ⊢
   exact .inl ⟨hB.2.1 _ h2,hv⟩
  ·obtain⟨σ',hs,rfl⟩:=map_some h
   obtain⟨h1,h2,_⟩:=I8 hs
   refine⟨h1,fun g gc v hB _ hv=>?_⟩
   simp only[RepV,enc]at hv ⊢
   rw[show id j=j from rfl,hB.1 _ _ h2];exact hv
 | .osl j m,a,σ,r,h=>by
  cases a<;>simp only[fit,reduceCtorEq]at h
  split at h
  ·rename_i hm;subst hm
   obtain⟨σ',hs,rfl⟩:=map_some h
   obtain⟨h1,h2,_⟩:=I8 hs
   refine⟨h1,fun g gc v hB _ hv=>?_⟩
   simp only[RepV,enc]at hv ⊢
   rw[show id j=j from rfl,hB.1 _ _ h2];exact hv
  ·cases h
 | .mp j,a,σ,r,h=>by
  cases a<;>simp only[fit,reduceCtorEq]at h
  obtain⟨σ',hs,rfl⟩:=map_some h
  obtain⟨h1,h2,_⟩:=I8 hs
  refine⟨h1,fun g gc v hB _ hv=>?_⟩
  simp only[RepV,enc]at hv ⊢
  rw[show id j=j from rfl,hB.1 _ _ h2];exact hv
 | .arr t n,a,σ,r,h=>by
  cases a<;>simp only[fit,reduceCtorEq]at h
  split at h
  ·rename_i hn;subst hn
   obtain⟨l,hl,rfl⟩:=map_some h
   obtain⟨rfl,rfl⟩:=Bb hl
   refine⟨FSE.refl _,fun g gc v hB _ hv=>?_⟩
   simp only[RepV,enc]at hv ⊢
   rw[hB.2.2];exact hv
  ·cases h
 | .fz l,a,σ,r,h=>by
  cases a
  case fz ps j=>
   cases j with
   | succ j=>cases h
   | zero=>
    simp only[fit]at h
    obtain⟨e1,s1⟩:=Cg l ps σ r h
    refine⟨e1,fun g gc v hB hF hv=>?_⟩
    simp only[RepV,enc]at hv ⊢
    obtain⟨b,o,vs,ty,us,e,hm,hs,hc⟩:=hv
    exact⟨b,o,vs,ty,us,e,by rw[hB.2.2];exact hm,hs,(s1 g gc).2 us hB hF hc⟩
  case own i base=>
   cases base with
   | succ j=>cases h
   | zero=>
    have key:∀ps,(H[i]?=some (.segs ps)∨H[i]?=some (.rsegs ps))→((fits H l ps σ).map fun x=>(x.1,{ x.2 with fz:=i::x.2.fz }))=some r→FSE σ r.2∧∀(g gc:Gh) (v:Value),Bnd r.2 g gc→Frz g w H r.2.fz→RepV g (.own i 0) v→RepV gc (enc id (.fz l) r.1) v:=by
     intro ps hb h
     obtain⟨x,hx,rfl⟩:=map_some h
     obtain⟨e1,s1⟩:=Cg l ps σ x hx
     refine⟨⟨e1.m,fun j hj=>by simp[e1.fz j hj],e1.len⟩,fun g gc v hB hF hv=>?_⟩
     obtain⟨b,c,n,vs,ty,e,hM,hp⟩:=(hF i (by simp)).2 ps hb
     simp only[RepV,enc]at hv ⊢
     obtain⟨b',c',n',e2,rfl⟩:=hv
     rw[e]at e2;cases e2
     exact⟨b,0,vs,ty,vs,rfl,by rw[hB.2.2];exact hM,Seg.refl vs,(s1 g gc).2 vs hB (hF.sub (fun j hj=>by simp[hj])) hp⟩
    simp only[fit]at h
    split at h
    ·rename_i ps hb;exact key ps (.inl hb) h
    ·rename_i ps hb;exact key ps (.inr hb) h
    ·cases h
  all_goals cases h
 | .fe t,a,σ,r,h=>by
  cases a
  case fe a x j=>
   cases j with
   | succ j=>cases h
   | zero=>
    simp only[fit]at h
    obtain⟨l,hl,rfl⟩:=map_some h
    obtain⟨rfl,rfl⟩:=Nc hl
    refine⟨FSE.refl _,fun g gc v hB _ hv=>?_⟩
    simp only[RepV,enc]at hv ⊢
    rw[hB.2.2];exact hv
  case own i base=>
   cases base with
   | succ j=>cases h
   | zero=>
    have key:∀ps,(H[i]?=some (.segs ps)∨H[i]?=some (.rsegs ps))→((un H t ps).bind fun x=>if x.2.1.isEmpty&&!x.2.2.contains i then some (x.1,{ σ with fz:=i::(x.2.2++σ.fz) })else none)=some r→FSE σ r.2∧∀(g gc:Gh) (v:Value),Bnd r.2 g gc→Frz g w H r.2.fz→RepV g (.own i 0) v→RepV gc (enc id (.fe t) r.1) v:=by
     intro ps hb h
     obtain⟨x,hx,h2⟩:=bind_some h
     split at h2
     ·rename_i hc
      simp only[Option.some.injEq]at h2
      subst h2
      simp only[Bool.and_eq_true,List.isEmpty_iff]at hc
      refine⟨⟨fun _ _ h=>h,fun _ h=>by simp[h],rfl⟩,fun g gc v hB hF hv=>?_⟩
      obtain⟨b,c,n,vs,ty,e,hM,hp⟩:=(hF i (by simp)).2 ps hb
      obtain⟨v1,v2,rfl,hC,hp2⟩:=Mi t ps x vs hx hp (fun j hj=>hF j (by simp[hj]))
      rw[hc.1]at hp2
      simp only[A7]at hp2
      subst hp2
      simp only[RepV,enc]at hv ⊢
      obtain⟨b',c',n',e2,rfl⟩:=hv
      rw[e]at e2;cases e2
      rw[hB.2.2]
      exact⟨b,0,_,ty,v1,rfl,hM,(Seg.refl v1).left [],hC⟩
     ·cases h2
    simp only[fit]at h
    split at h
    ·rename_i ps hb;exact key ps (.inl hb) h
    ·rename_i ps hb;exact key ps (.inr hb) h
    ·cases h
  all_goals cases h
 | .nilp,a,σ,r,h=>by
  cases a<;>simp only[fit,reduceCtorEq]at h
  cases h;exact⟨FSE.refl _,fun g gc v _ _ hv=>hv⟩
 | .nilf,a,σ,r,h=>by
  cases a<;>simp only[fit,reduceCtorEq]at h
  cases h;exact⟨FSE.refl _,fun g gc v _ _ hv=>hv⟩
 | .nils,a,σ,r,h=>by
  cases a<;>simp only[fit,reduceCtorEq]at h
  cases h;exact⟨FSE.refl _,fun g gc v _ _ hv=>hv⟩
 | .nilm,a,σ,r,h=>by
  cases a<;>simp only[fit,reduceCtorEq]at h
  cases h;exact⟨FSE.refl _,fun g gc v _ _ hv=>hv⟩
 | .undef,a,σ,r,h=>by
  cases a<;>simp only[fit,reduceCtorEq]at h
  cases h;exact⟨FSE.refl _,fun g gc v _ _ hv=>hv⟩
 | .fn f x c,a,σ,r,h=>by
  cases a<;>simp only[fit,reduceCtorEq]at h
  split at h
  ·rename_i hf;subst hf
   obtain⟨y,hy,h2⟩:=bind_some h
   obtain⟨y2,hy2,rfl⟩:=map_some h2
   obtain⟨e1,s1⟩:=Cg x _ σ y hy
   obtain⟨e2,s2⟩:=Cg c _ _ y2 hy2
   refine⟨e1.trans e2,fun g gc v hB hF hv=>?_⟩
   simp only[RepV,enc]at hv ⊢
   obtain⟨va,vc,e,r1,r2⟩:=hv
   exact⟨va,vc,e,(s1 g gc).1 va (hB.sub e2) (hF.sub e2.fz) r1,(s2 g gc).1 vc hB hF r2⟩
  ·cases h
 | .agg l,a,σ,r,h=>by
  cases a<;>simp only[fit,reduceCtorEq]at h
  obtain⟨e1,s1⟩:=Cg l _ σ r h
  refine⟨e1,fun g gc v hB hF hv=>?_⟩
  simp only[RepV,enc]at hv ⊢
  obtain⟨vs,e,r1⟩:=hv
  exact⟨vs,e,(s1 g gc).2 vs hB hF r1⟩
theorem Cg:∀(ss:List Sh) (as:List AV) (σ:FS) (r:Shs.den ss×FS),fits H ss as σ=some r→FSE σ r.2∧∀(g gc:Gh),(∀vs,Bnd r.2 g gc→Frz g w H r.2.fz→RepVs g as vs→RepVs gc (encs id ss r.1) vs)∧(∀vs,Bnd r.2 g gc→Frz g w H r.2.fz→A7 g as vs→A7 gc (encs id ss r.1) vs)
 | [],as,σ,r,h=>by
  cases as<;>simp only[fits,reduceCtorEq]at h
  cases h;exact⟨FSE.refl _,fun g gc=>⟨fun vs _ _ hv=>hv,fun vs _ _ hv=>hv⟩⟩
 | s::ss,as,σ,r,h=>by
  cases as<;>simp only[fits,reduceCtorEq]at h
  rename_i a as
  obtain⟨y,hy,h2⟩:=bind_some h
  obtain⟨y2,hy2,rfl⟩:=map_some h2
  obtain⟨e1,s1⟩:=Akv s a σ y hy
  obtain⟨e2,s2⟩:=Cg ss as _ y2 hy2
  refine⟨e1.trans e2,fun g gc=>⟨fun vs hB hF hv=>?_,fun vs hB hF hv=>?_⟩⟩
  ·simp only[RepVs,encs]at hv ⊢
   obtain⟨v,us,e,r1,r2⟩:=hv
   exact⟨v,us,e,s1 g gc v (hB.sub e2) (hF.sub e2.fz) r1,(s2 g gc).1 us hB hF r2⟩
  ·simp only[A7,encs]at hv ⊢
   obtain⟨v1,v2,e,r1,r2⟩:=hv
   refine⟨v1,v2,e,?_,(s2 g gc).2 v2 hB hF r2⟩
   have hR:=fun v=>s1 g gc v (hB.sub e2) (hF.sub e2.fz)
   cases s<;>cases a<;>simp only[fit,reduceCtorEq]at hy<;>simp only[enc,PartOf]at r1 hR ⊢<;>first
    | exact r1.elim
    | (obtain⟨v,e,r⟩:=r1;exact⟨v,e,hR v r⟩)
    | (split at hy
       ·rename_i hn;subst hn
        obtain⟨l,hl,rfl⟩:=map_some hy
        obtain⟨rfl,rfl⟩:=Bb hl
        rw[hB.2.2];exact r1
       ·cases hy)
end
end
end Go.Proofs.YtfcnhnbnjdccfaaGreat

namespace Go.Proofs.YtfcnhnbnjdccfaaGreat
set_option linter.all false
open Go

section
variable {H:HH} {w:World}
theorem Ah8{s:BSh}{b:Blk'}{σ:FS}{r:s.den×FS}(h:fitB H s b σ=some r):FSE σ r.2∧(s.live=true→b.mut=true)∧∀(g gc:Gh) (i j:Nat),Bnd r.2 g gc→Frz g w H r.2.fz→gc.ρ j=g.ρ i→RepBlk g w i b→RepBlk gc w j (encB id s r.1):=by
 cases s
 case dead=>simp only[fitB,Option.some.injEq]at h;subst h;exact⟨FSE.refl _,(fun hq=>by cases hq),fun _ _ _ _ _ _ _ _=>trivial⟩
 all_goals cases b<;>simp only[fitB,reduceCtorEq]at h
 ·obtain⟨e1,s1⟩:=Cg _ _ σ r h
  refine⟨e1,fun _=>rfl,fun g gc i j hB hF e hb=>?_⟩
  obtain⟨b,c,n,vs,ty,e2,hb2,hp,hM⟩:=hb
  exact⟨b,c,n,vs,ty,by rw[e];exact e2,hb2,(s1 g gc).2 vs hB hF hp,by rw[hB.2.2];exact hM⟩
 ·obtain⟨l,hl,rfl⟩:=map_some h
  obtain⟨rfl,rfl⟩:=Bb hl
  refine⟨FSE.refl _,fun _=>rfl,fun g gc i j hB hF e hb=>?_⟩
  obtain⟨hl,hb⟩:=hb
  refine⟨hl,?_⟩
  rcases hb with⟨e2,h⟩ | ⟨b,c,vs,rest,ty,e2,hb2,hL,hc,hrs,hM⟩
  ·exact .inl ⟨by rw[e];exact e2,h⟩
  ·exact .inr ⟨b,c,vs,rest,ty,by rw[e];exact e2,hb2,by rw[hB.2.2];exact hL,hc,hrs,by rw[hB.2.2];exact hM⟩
 ·split at h
  ·rename_i hc
   obtain⟨rfl,rfl⟩:=hc
   cases h
   refine⟨FSE.refl _,fun _=>rfl,fun g gc i j hB hF e hb=>?_⟩
   obtain⟨b,c,n,es,k,e2,hb2,hM,hR⟩:=hb
   exact⟨b,c,n,es,k,by rw[e];exact e2,hb2,by rw[hB.2.2];exact hM,by rw[hB.2.2];exact hR⟩
  ·cases h
theorem H5:∀(ss:List BSh) (j:Nat) (σ:FS) (r:BShs.den ss×FS),fitBs H ss j σ=some r→FSE σ r.2∧∀(k:Nat) (b:Blk'),(encBs id ss r.1)[k]?=some b→∃x,r.2.m[j+k]?=some (some x)∧(∀i,x=some i→∃b0,H[i]?=some b0∧(b.mut=true→b0.mut=true)) ∧
  ∀(g gc:Gh),Bnd r.2 g gc→Frz g w H r.2.fz→(∀i b0,x=some i→H[i]?=some b0→RepBlk g w i b0)→RepBlk gc w (j+k) b
 | [],j,σ,r,h=>by
  simp only[fitBs,Option.some.injEq]at h;subst h
  exact⟨FSE.refl _,fun k b hk=>by simp[encBs]at hk⟩
 | s::ss,j,σ,r,h=>by
  simp only[fitBs]at h
  split at h
  ·rename_i i hj
   split at h
   ·rename_i b0 hb0
    obtain⟨x,hx,h2⟩:=bind_some h
    obtain⟨y,hy,rfl⟩:=map_some h2
    obtain⟨e1,hm,s1⟩:=Ah8 (w:=w) hx
    obtain⟨e2,s2⟩:=H5 ss (j+1) x.2 y hy
    refine⟨e1.trans e2,fun k b hk=>?_⟩
    cases k with
    | zero=>
     simp only[encBs,List.getElem?_cons_zero,Option.some.injEq]at hk
     subst hk
     have hj':=(e1.trans e2).m _ _ hj
     refine⟨some i,by simpa using hj',fun i' hi'=>by cases hi';exact⟨b0,hb0,fun hq=>hm (Gc hq)⟩,fun g gc hB hF hblk=>?_⟩
     exact s1 g gc i j (hB.sub e2) (hF.sub e2.fz) (hB.1 _ _ hj') (hblk i b0 rfl hb0)
    | succ k=>
     simp only[encBs,List.getElem?_cons_succ]at hk
     obtain⟨x',q1,q2,q3⟩:=s2 k b hk
     have e:j+1+k=j+(k+1):=by omega
     rw[e]at q1 q3
     exact⟨x',q1,q2,q3⟩
   ·cases h
  ·rename_i hj
   cases s with
   | segs l=>cases h
   | map kt vt=>cases h
   | dead=>cases h
   | lst t=>
    simp only at h
    obtain⟨y,hy,rfl⟩:=map_some h
    obtain⟨e2,s2⟩:=H5 ss (j+1) σ y hy
    refine⟨e2,fun k b hk=>?_⟩
    cases k with
    | zero=>
     simp only[encBs,List.getElem?_cons_zero,Option.some.injEq]at hk
     subst hk
     have hj':=e2.m _ _ hj
     refine⟨none,by simpa using hj',by simp,fun g gc hB hF hblk=>?_⟩
     exact⟨by simp,.inl ⟨hB.2.1 _ (by simpa using hj'),rfl⟩⟩
    | succ k=>
     simp only[encBs,List.getElem?_cons_succ]at hk
     obtain⟨x',q1,q2,q3⟩:=s2 k b hk
     have e:j+1+k=j+(k+1):=by omega
     rw[e]at q1 q3
     exact⟨x',q1,q2,q3⟩
  ·cases h
theorem V6:∀ {l:List Nat},nodupB l=true→l.Nodup
 | [],_=>List.nodup_nil
 | x::xs,h=>by
  simp only[nodupB,Bool.and_eq_true,Bool.not_eq_true',List.contains_eq_mem,decide_eq_false_iff_not]at h
  exact List.nodup_cons.2 ⟨h.1,V6 h.2⟩
theorem W0{σ:FS}{j i:Nat}(h:σ.m[j]?=some (some (some i))):i∈σ.ids:=by
 simp only[FS.ids,List.mem_filterMap]
 exact⟨some (some i),List.mem_of_getElem? h,rfl⟩
theorem A3i{σ:FS}{i:Nat}(h:i∈σ.ids):∃j:Nat,σ.m[j]?=some (some (some i)):=by
 simp only[FS.ids,List.mem_filterMap]at h
 obtain⟨x,hx,e⟩:=h
 obtain⟨j,hj⟩:=List.mem_iff_getElem?.1 hx
 cases x with
 | none=>cases e
 | some x=>cases x with
  | none=>cases e
  | some x=>cases e;exact⟨j,hj⟩
theorem Amm{m:List (Option (Option Nat))}(h:(m.filterMap fun x=>x.bind (·)).Nodup):∀(j k i:Nat),m[j]?=some (some (some i))→m[k]?=some (some (some i))→j=k:=by
 induction m with
 | nil=>intro j k i h1;simp at h1
 | cons a m ih=>
  intro j k i h1 h2
  have hn:(m.filterMap fun x=>x.bind (·)).Nodup:=by
   rw[List.filterMap_cons]at h
   split at h
   ·exact h
   ·exact(List.nodup_cons.1 h).2
  have key:∀q:Nat,a=some (some i)→m[q]?=some (some (some i))→False:=by
   intro q ha hq
   subst ha
   rw[List.filterMap_cons]at h
   simp only[Option.bind_some]at h
   refine(List.nodup_cons.1 h).1 ?_
   simp only[List.mem_filterMap]
   exact⟨some (some i),List.mem_of_getElem? hq,rfl⟩
  cases j with
  | zero=>
   cases k with
   | zero=>rfl
   | succ k=>exact(key k (by simpa using h1) (by simpa using h2)).elim
  | succ j=>
   cases k with
   | zero=>exact(key j (by simpa using h2) (by simpa using h1)).elim
   | succ k=>rw[ih hn j k i (by simpa using h1) (by simpa using h2)]
theorem Lv(f:Nat→Nat):∀(ss:List BSh) (p:BShs.den ss) (j:Nat) (k:Blk'),(encBs f ss p)[j]?=some k→∃(s:BSh) (q:s.den),ss[j]?=some s∧k=encB f s q
 | [],_,j,k,h=>by simp[encBs]at h
 | s::ss,p,0,k,h=>by simp only[encBs,List.getElem?_cons_zero,Option.some.injEq]at h;exact⟨s,p.1,rfl,h.symm⟩
 | s::ss,p,j+1,k,h=>by
  simp only[encBs,List.getElem?_cons_succ]at h
  simpa using Lv f ss p.2 j k h
theorem A7b:∀(bs:List BSh) (m:List (Option (Option Nat))) (j i:Nat) (b:BSh),bs[j]?=some b→b.live=true→m[j]?=some (some (some i))→i∈lids bs m
 | [],_,j,_,_,h,_,_=>by simp at h
 | _::_,[],j,_,_,_,_,h=>by simp at h
 | b::bs,x::xs,0,i,b',h,hl,hm=>by
  simp only[List.getElem?_cons_zero,Option.some.injEq]at h hm
  subst h hm
  simp[lids,hl]
 | b::bs,x::xs,j+1,i,b',h,hl,hm=>by
  simp only[List.getElem?_cons_succ]at h hm
  have:=A7b bs xs j i b' h hl hm
  simp only[lids]
  split
  ·exact List.mem_cons_of_mem _ this
  ·exact this
structure FitA (s:StSh) (pre:List (Option (Option Nat))) (as:List AV) (H:HH) (p:s.den) (σ:FS):Prop where
 pr:∀(j:Nat) (x:Option Nat),pre[j]?=some (some x)→σ.m[j]?=some (some x)
 len:σ.m.length=s.blks.length
 ple:pre.length≤s.blks.length
 inj:∀(j k i:Nat),σ.m[j]?=some (some (some i))→σ.m[k]?=some (some (some i))→j=k
 dis:∀i∈σ.fz,(∀(j:Nat) (b:Blk'),σ.m[j]?=some (some (some i))→(encBs id s.blks p.2)[j]?=some b→b.mut=false)∧i<H.length
 hv:∀(g gc:Gh) (w:World) (vs:List Value),Bnd σ g gc→Frz g w H σ.fz→RepVs g as vs→RepVs gc (encs id s.avs p.1) vs
 hb:∀(k:Nat) (b:Blk'),(encBs id s.blks p.2)[k]?=some b→∃x,σ.m[k]?=some (some x)∧(∀i,x=some i→∃b0,H[i]?=some b0∧(b.mut=true→b0.mut=true)) ∧
  ∀(g gc:Gh) (w:World),Bnd σ g gc→Frz g w H σ.fz→(∀i b0,x=some i→H[i]?=some b0→RepBlk g w i b0)→RepBlk gc w k b
theorem Ho{s:StSh}{pre:List (Option (Option Nat))}{as:List AV}{p:s.den}{σ:FS}(h:fitAll s pre as H=some (p,σ)):FitA s pre as H p σ:=by
 unfold fitAll at h
 obtain⟨x,hx,h2⟩:=bind_some h
 obtain⟨y,hy,h3⟩:=bind_some h2
 clear h h2
 split at h3
 rotate_left
 ·cases h3
 rename_i hc
 simp only[Bool.and_eq_true,List.all_eq_true,Bool.not_eq_true',List.contains_eq_mem,decide_eq_false_iff_not]at hc
 replace hc:=And.intro hc.1 (of_decide_eq_true hc.2)
 cases h3
 have e1:=(Cg (w:=default) _ _ _ x hx).1
 have e2:=(H5 (w:=default) _ _ _ y hy).1
 have e3:=e1.trans e2
 refine⟨fun j x hj=>e3.m j x ?_,?_,hc.2,Amm (V6 hc.1.1),fun i hi=>⟨fun j b hj hb=>by
   obtain⟨s',q,h1,rfl⟩:=Lv _ _ _ _ _ hb
   cases hl:s'.live with
   | true=>exact absurd (A7b _ _ j i s' h1 hl hj) (hc.1.2 i hi).1
   | false=>cases s'<;>first | rfl | (cases hl),by simpa using (hc.1.2 i hi).2⟩,fun g gc w vs hB hF hv=>?_,fun k b hk=>?_⟩
 ·rw[List.getElem?_append_left (List.getElem?_eq_some_iff.1 hj).1];exact hj
 ·rw[e3.len];simp;omega
 ·exact((Cg (w:=w) _ _ _ x hx).2 g gc).1 vs (hB.sub e2) (hF.sub e2.fz) hv
 ·obtain⟨x',q1,q2,_⟩:=(H5 (w:=default) _ _ _ y hy).2 k b hk
  rw[Nat.zero_add]at q1
  refine⟨x',q1,q2,fun g gc w hB hF hblk=>?_⟩
  obtain⟨x2,q4,_,q5⟩:=(H5 (w:=w) _ _ _ y hy).2 k b hk
  rw[Nat.zero_add]at q4 q5
  rw[q1]at q4
  cases q4
  exact q5 g gc hB hF hblk
end
theorem FitA.out{s:StSh}{pre:List (Option (Option Nat))}{as:List AV}{H:HH}{p:s.den}{σ:FS}(hf:FitA s pre as H p σ)(hlv:s.blks.all BSh.live=true){i:Nat}(hi:i∈σ.fz):i∉σ.ids:=fun h=>by
 obtain⟨j,hj⟩:=A3i h
 have hjl:j<s.blks.length:=by rw[←hf.len];exact(List.getElem?_eq_some_iff.1 hj).1
 have hb:(encBs id s.blks p.2)[j]?=some ((encBs id s.blks p.2)[j]'(by rw[Af];exact hjl)):=List.getElem?_eq_getElem _
 have h1:=(hf.dis i hi).1 j _ hj hb
 obtain⟨s',q,h2,e⟩:=Lv _ _ _ _ _ hb
 rw[e,Dd id s' q (List.all_eq_true.1 hlv s' (List.mem_of_getElem? h2))]at h1
 cases h1
theorem Yn{s:StSh}{pre:List (Option (Option Nat))}{as:List AV}{H:HH}{p:s.den}{σ:FS}(hf:FitA s pre as H p σ){g:Gh}{h:Nat→Option Blk'}{w:World}(hs:Sim g h w)(hh:∀(j i:Nat) (b:Blk'),σ.m[j]?=some (some (some i))→(encBs id s.blks p.2)[j]?=some b→b.mut=true→∀k,H[i]?=some k→h i=some k)(hF:Frz g w H σ.fz) :
  Sim (rebG σ g) (fun j=>(encBs id s.blks p.2)[j]?) w:=by
 refine⟨hs.mem,fun j b hb=>?_,fun i j ki kj b ci ni cj nj h1 h2 m1 m2 e1 e2=>?_⟩
 ·cases hm:b.mut with
  | false=>
   obtain⟨s',q,_,rfl⟩:=Lv _ _ _ _ _ hb
   cases s'<;>first | trivial | cases hm
  | true=>
  obtain⟨x,q1,q2,q3⟩:=hf.hb j b hb
  refine q3 g _ w (A8y σ g) hF (fun i b0 hi hb0=>?_)
  subst hi
  exact hs.blk i b0 (hh j i b q1 hb hm b0 hb0)
 ·obtain⟨x,q1,q2,q3⟩:=hf.hb i ki h1
  obtain⟨y,r1,r2,r3⟩:=hf.hb j kj h2
  cases x with
  | none=>simp only[rebG,q1]at e1;cases e1
  | some i'=>
   cases y with
   | none=>simp only[rebG,r1]at e2;cases e2
   | some j'=>
    simp only[rebG,q1,r1]at e1 e2
    obtain⟨b1,hb1,mb1⟩:=q2 i' rfl
    obtain⟨b2,hb2,mb2⟩:=r2 j' rfl
    have:=hs.inj i' j' b1 b2 b ci ni cj nj (hh i i' ki q1 h1 m1 b1 hb1) (hh j j' kj r1 h2 m2 b2 hb2) (mb1 m1) (mb2 m2) e1 e2
    subst this
    exact hf.inj i j i' q1 r1
theorem Aho{s:StSh}{pre:List (Option (Option Nat))}{as:List AV}{H:HH}{p:s.den}{σ:FS}(hf:FitA s pre as H p σ){g:Gh}{h:Nat→Option Blk'}{w:World}{vs:List Value}(hs:Sim g h w)(hh:∀(j i:Nat) (b:Blk'),σ.m[j]?=some (some (some i))→(encBs id s.blks p.2)[j]?=some b→b.mut=true→∀k,H[i]?=some k→h i=some k)(hF:Frz g w H σ.fz)(hr:RepVs g as vs) :
  RepVs (rebG σ g) (encs id s.avs p.1) vs∧Sim (rebG σ g) (fun j=>(encBs id s.blks p.2)[j]?) w:=⟨hf.hv g _ w vs (A8y σ g) hF hr,Yn hf hs hh hF⟩
end Go.Proofs.YtfcnhnbnjdccfaaGreat

namespace Go.Proofs.YtfcnhnbnjdccfaaGreat
set_option linter.all false
open Go

def hOf{ss:List BSh}(p:BShs.den ss):Nat→Option Blk':=fun j=>(encBs id ss p)[j]?
def altOf:(os:List StSh)→altD os→((o:StSh)×o.den)
 | [],r=>nomatch r
 | [s],r=>⟨s,r⟩
 | s::_::_,.inl r=>⟨s,r⟩
 | _::t::ss,.inr r=>altOf (t::ss) r
theorem A8f{Z:Type}:∀(os:List StSh) (r:altD os) (k:(o:StSh)→o.den→Option Z),Aid os r k=k (altOf os r).1 (altOf os r).2
 | [],r,_=>nomatch r
 | [_],_,_=>rfl
 | _::_::_,.inl _,_=>rfl
 | _::t::ss,.inr r,k=>A8f (t::ss) r k
theorem A0x:∀(os:List StSh) (r:altD os),(altOf os r).1∈os
 | [],r=>nomatch r
 | [_],_=>by simp[altOf]
 | _::_::_,.inl _=>by simp[altOf]
 | _::t::ss,.inr r=>by have:=A0x (t::ss) r;simp only[altOf,List.mem_cons]at this ⊢;exact .inr this
def Post(s:Spec)(p:s.ins.den)(o:StSh)(r:o.den)(g:Gh)(w:World)(v:Value)(w':World):Prop:=
 ∃g',Stp (Sw g (hOf p.2) (List.range s.ins.blks.length)) (fun i=>s.ins.blks.length≤i∧i<o.blks.length) g w g' w'∧Sim g' (hOf r.2) w'∧RepV g' (resVal (encs id o.avs r.1)) v
structure A2 (P:Program) (s:Spec):Prop where
 nat:∀(Z:Type) (p:s.ins.den) (κ:altD s.outs→Option Z),s.run p κ=(s.run p some).bind κ
 call:∀args w,(callFunc s.f args).run P w=.ok (.enter s.f args) w
 fn:∀(p:s.ins.den) (r:altD s.outs),s.run p some=some r→∀(g:Gh) (w:World) (vs:List Value),RepVs g (encs id s.ins.avs p.1) vs→Sim g (hOf p.2) w→(∀i,s.ins.blks.length≤i→g.ρ i=none)→Fn P s.f vs.toArray w (Post s p (altOf s.outs r).1 (altOf s.outs r).2 g w)

theorem RepVs.append{g:Gh}:∀(as bs:List AV) (vs us:List Value),RepVs g as vs→RepVs g bs us→RepVs g (as++bs) (vs++us)
 | [],_,_,_,h,h2=>by simp only[RepVs]at h;subst h;simpa using h2
 | a::as,bs,_,us,h,h2=>by
  simp only[RepVs]at h
  obtain⟨v,ws,e,h1,h⟩:=h
  subst e
  simp only[List.cons_append,RepVs]
  exact⟨v,ws++us,rfl,h1,RepVs.append as bs _ _ h h2⟩
mutual
theorem Wj{g g':Gh}{f f':Nat→Nat}:∀(s:Sh) (p:s.den) (v:Value),s.flat=true→RepV g (enc f s p) v→RepV g' (enc f' s p) v
 | .i k,n,v,_,h=>h
 | .b,c,v,_,h=>h
 | .nilp,_,v,_,h=>h
 | .nilf,_,v,_,h=>h
 | .nils,_,v,_,h=>h
 | .nilm,_,v,_,h=>h
 | .undef,_,v,_,h=>h
 | .agg l,p,v,hf,h=>by simp only[enc,RepV]at h ⊢;obtain⟨vs,e,h⟩:=h;exact⟨vs,e,A2d l p vs hf h⟩
 | .sl _,_,_,hf,_=>by simp[Sh.flat]at hf
 | .own _ _,_,_,hf,_=>by simp[Sh.flat]at hf
 | .ols _,_,_,hf,_=>by simp[Sh.flat]at hf
 | .osl _ _,_,_,hf,_=>by simp[Sh.flat]at hf
 | .mp _,_,_,hf,_=>by simp[Sh.flat]at hf
 | .arr _ _,_,_,hf,_=>by simp[Sh.flat]at hf
 | .fe _,_,_,hf,_=>by simp[Sh.flat]at hf
 | .fz _,_,_,hf,_=>by simp[Sh.flat]at hf
 | .fn _ _ _,_,_,hf,_=>by simp[Sh.flat]at hf
theorem S1{g g':Gh}{f f':Nat→Nat}:∀(ss:List Sh) (p:Shs.den ss) (vs:List Value),Shs.flat ss=true→RepVs g (encs f ss p) vs→RepVs g' (encs f' ss p) vs
 | [],_,_,_,h=>h
 | s::ss,p,vs,hf,h=>by
  simp only[Shs.flat,Bool.and_eq_true]at hf
  simp only[encs,RepVs]at h ⊢
  obtain⟨v,us,e,h1,h2⟩:=h
  exact⟨v,us,e,Wj s p.1 v hf.1 h1,S1 ss p.2 us hf.2 h2⟩
theorem A2d{g g':Gh}{f f':Nat→Nat}:∀(ss:List Sh) (p:Shs.den ss) (vs:List Value),Shs.flat ss=true→A7 g (encs f ss p) vs→A7 g' (encs f' ss p) vs
 | [],_,_,_,h=>h
 | s::ss,p,vs,hf,h=>by
  simp only[Shs.flat,Bool.and_eq_true]at hf
  simp only[encs,A7]at h ⊢
  obtain⟨v1,v2,e,h1,h2⟩:=h
  refine⟨v1,v2,e,?_,A2d ss p.2 v2 hf.2 h2⟩
  have hR:=fun v=>Wj (g:=g) (g':=g') (f:=f) (f':=f') s p.1 v hf.1
  have hfl:=hf.1
  cases s<;>simp only[Sh.flat,Bool.false_eq_true]at hfl<;>simp only[enc,PartOf]at h1 hR ⊢<;>first
   | exact h1.elim
   | (obtain⟨v,e,r⟩:=h1;exact⟨v,e,hR v r⟩)
end
theorem A6k{g g':Gh}{f f':Nat→Nat}{ss:List Sh}{p:Shs.den ss}{v:Value}(hf:Shs.flat ss=true)(h:RepV g (resVal (encs f ss p)) v):RepV g' (resVal (encs f' ss p)) v:=by
 match ss,p,hf,h with
 | [],p,_,h=>exact h
 | [s],p,hf,h=>simp only[Shs.flat,Bool.and_true]at hf;exact Wj s p.1 v hf h
 | s::t::ss,p,hf,h=>
  simp only[encs,resVal,RepV]at h ⊢
  obtain⟨vs,e,h⟩:=h
  exact⟨vs,e,S1 (s::t::ss) p vs hf h⟩
theorem Aax{g g':Gh}{f:Nat→Nat}(hr:Ren f g g'){ss:List Sh}{p:Shs.den ss}{v:Value}(h:RepV g (resVal (encs id ss p)) v):RepV g' (resVal (encs f ss p)) v:=by
 match ss,p,h with
 | [],p,h=>exact h
 | [s],p,h=>exact A2u hr s p.1 v h
 | s::t::ss,p,h=>
  simp only[encs,resVal,RepV]at h ⊢
  obtain⟨vs,e,h⟩:=h
  exact⟨vs,e,R3 hr (s::t::ss) p vs h⟩

theorem Cf:∀(ids:List Nat) (bs:List Blk') (H:HH),(setIds ids bs H).length=H.length
 | [],_,_=>rfl
 | _::_,[],_=>rfl
 | i::ids,b::bs,H=>by simp[setIds,Cf ids bs]
theorem Lz:∀(ids:List Nat) (bs:List Blk') (H:HH) (i:Nat),i∉ids→(setIds ids bs H)[i]?=H[i]?
 | [],_,_,_,_=>rfl
 | _::_,[],_,_,_=>rfl
 | j::ids,b::bs,H,i,h=>by
  simp only[List.mem_cons,not_or]at h
  simp only[setIds,Lz ids bs _ i h.2]
  rw[List.getElem?_set_ne (fun e=>h.1 e.symm)]
theorem Y5:∀(ids:List Nat) (bs:List Blk') (H:HH) (k i:Nat),ids.Nodup→ids[k]?=some i→i<H.length→k<bs.length→(setIds ids bs H)[i]?=bs[k]?
 | [],_,_,k,i,_,h,_,_=>by simp at h
 | _::_,[],_,k,i,_,_,_,h=>by simp at h
 | j::ids,b::bs,H,0,i,hn,h,hl,_=>by
  simp only[List.getElem?_cons_zero,Option.some.injEq]at h;subst h
  have:=(List.nodup_cons.1 hn).1
  simp only[setIds,Lz ids bs _ j this,List.getElem?_cons_zero]
  simp[hl]
 | j::ids,b::bs,H,k+1,i,hn,h,hl,hk=>by
  simp only[List.getElem?_cons_succ]at h ⊢
  simp only[setIds]
  exact Y5 ids bs _ k i (List.nodup_cons.1 hn).2 h (by simpa using hl) (by simpa using hk)
theorem A1y:∀(m:List (Option (Option Nat))),m.all (fun x=>(x.bind (fun y=>y)).isSome)=true→m=(m.filterMap fun x=>x.bind (·)).map fun i=>some (some i)
 | [],_=>rfl
 | x::m,h=>by
  simp only[List.all_cons,Bool.and_eq_true]at h
  have ih:=A1y m h.2
  cases x with
  | none=>simp at h
  | some x=>
   cases x with
   | none=>simp at h
   | some i=>
    rw[List.filterMap_cons]
    simp only[Option.bind_some,List.map_cons]
    exact congrArg (some (some i)::·) ih
theorem A44{l:List Nat}(h:∀(j k i:Nat),l[j]?=some i→l[k]?=some i→j=k):l.Nodup:=by
 induction l with
 | nil=>exact List.nodup_nil
 | cons a l ih=>
  refine List.nodup_cons.2 ⟨fun ha=>?_,ih fun j k i h1 h2=>?_⟩
  ·obtain⟨k,hk⟩:=List.mem_iff_getElem?.1 ha
   have:=h 0 (k+1) a rfl (by simpa using hk)
   omega
  ·have:=h (j+1) (k+1) i (by simpa using h1) (by simpa using h2)
   omega
theorem Stp.ρ_eq{S:Nat→Prop}{g g':Gh}{w w':World}(h:Stp S (fun _=>False) g w g' w')(i:Nat):g'.ρ i=g.ρ i:=by
 cases e:g.ρ i with
 | some x=>exact h.ge.ρ i x e
 | none=>
  cases e2:g'.ρ i with
  | none=>rfl
  | some x=>exact(h.ρn i e (by rw[e2];simp)).elim

section
variable {P:Program} {specs:List Spec} {o:Oper} {L:LL} {H:HH} {Z:Type} {κ:AV→HH→List Nat→List Nat→Option Z} {z:Z}

theorem Zn(as:List AV)(f:FuncId):∀(ss:List Spec),(∀s∈ss,A2 P s)→callC as f H κ ss=some z→∃s∈ss,∃(p:s.ins.den) (σ:FS) (r0:altD s.outs) (o:StSh) (r:o.den),s.f=f∧fitAll s.ins [] as H=some (p,σ)∧σ.m.all (fun x=>(x.bind id).isSome)=true∧s.ins.blks.all BSh.live=true∧s.ins.blks.length≤o.blks.length ∧
  s.run p some=some r0∧altOf s.outs r0=⟨o,r⟩∧κ (resVal (encs (Is σ s.ins.blks.length H.length) o.avs r.1)) (setIds σ.ids (encBs (Is σ s.ins.blks.length H.length) o.blks r.2) (frzs (lend o σ) H)++(encBs (Is σ s.ins.blks.length H.length) o.blks r.2).drop s.ins.blks.length) (σ.ids++σ.fz)
   (σ.ids++lend o σ++List.range' H.length (o.blks.length-s.ins.blks.length))=some z
 | [],_,h=>by simp[callC]at h
 | s::ss,hall,h=>by
  have next:callC as f H κ ss=some z→_:=fun h=>Zn as f ss (fun s hs=>hall s (by simp[hs])) h
  simp only[callC]at h
  split at h
  ·rename_i hf
   split at h
   ·rename_i p σ hfit
    split at h
    ·rename_i hc
     simp only[Bool.and_eq_true,List.all_eq_true (l:=s.outs),decide_eq_true_eq]at hc
     rw[(hall s (by simp)).nat]at h
     obtain⟨r,hr,h2⟩:=bind_some h
     rw[A8f]at h2
     exact⟨s,by simp,p,σ,r,_,_,hf,hfit,hc.1.1,hc.1.2,hc.2 _ (A0x _ r),hr,rfl,h2⟩
    ·cases h
   ·obtain⟨s',hs',x⟩:=next h
    exact⟨s',by simp[hs'],x⟩
  ·obtain⟨s',hs',x⟩:=next h
   exact⟨s',by simp[hs'],x⟩
end
end Go.Proofs.YtfcnhnbnjdccfaaGreat

namespace Go.Proofs.YtfcnhnbnjdccfaaGreat
set_option linter.all false
open Go

theorem A1d(f:Nat→Nat):∀(ss:List BSh) (p:BShs.den ss) (j:Nat) (k:Blk'),(encBs f ss p)[j]?=some k→∃(s:BSh) (q:s.den),ss[j]?=some s∧k=encB f s q
 | [],_,j,k,h=>by simp[encBs]at h
 | s::ss,p,0,k,h=>by simp only[encBs,List.getElem?_cons_zero,Option.some.injEq]at h;exact⟨s,p.1,rfl,h.symm⟩
 | s::ss,p,j+1,k,h=>by
  simp only[encBs,List.getElem?_cons_succ]at h
  simpa using A1d f ss p.2 j k h
section
variable {P:Program} {H:HH}
def Akg(g gc':Gh)(n n' m:Nat):Gh:={ ρ:=fun i=>if n≤i∧i<n' then gc'.ρ (m+(i-n))else g.ρ i,M:=gc'.M }
theorem Afx{s:Spec}{as:List AV}{p:s.ins.den}{σ:FS}{r0:altD s.outs}{o:StSh}{r:o.den}{vs:List Value}(hok:A2 P s)(hfit:fitAll s.ins [] as H=some (p,σ))(hall:σ.m.all (fun x=>(x.bind id).isSome)=true)(hlv:s.ins.blks.all BSh.live=true)(hle:s.ins.blks.length≤o.blks.length)
  (hrun:s.run p some=some r0) (halt:altOf s.outs r0=⟨o,r⟩) {g:Gh} {h:Nat→Option Blk'} {w:World} (hs:Sim g h w) (hh:∀i,i∈σ.ids++σ.fz→h i=H[i]?) (hnew:∀i,H.length≤i→i<H.length+(o.blks.length-s.ins.blks.length)→g.ρ i=none∧h i=none) (hr:RepVs g as vs)
  {H':HH} {wr:List Nat} {v:AV} (hH':H'=setIds σ.ids (encBs (Is σ s.ins.blks.length H.length) o.blks r.2) (frzs (lend o σ) H)++(encBs (Is σ s.ins.blks.length H.length) o.blks r.2).drop s.ins.blks.length)
  (hwr:wr=σ.ids++lend o σ++List.range' H.length (o.blks.length-s.ins.blks.length)) (hv:v=resVal (encs (Is σ s.ins.blks.length H.length) o.avs r.1)) :
  H.length≤H'.length∧(∀i∈wr,i<H'.length)∧Fn P s.f vs.toArray w fun v' w'=>∃g',Stp (Sw g h wr) (fun i=>H.length≤i∧i<H'.length) g w g' w'∧Sim g' (updH h H H' wr) w'∧RepV g' v v':=by
 have hA:=Ho hfit
 have hml:σ.m.length=s.ins.blks.length:=by have:=hA.len;simpa using this
 have hm:=A1y σ.m hall
 have hil:σ.ids.length=s.ins.blks.length:=by
  have:=congrArg List.length hm
  rw[List.length_map,hml]at this
  exact this.symm
 have hget:∀(k i:Nat),σ.ids[k]?=some i↔σ.m[k]?=some (some (some i)):=by
  intro k i
  rw[hm,List.getElem?_map]
  show _↔Option.map (fun i=>some (some i)) (σ.ids[k]?)=_
  cases σ.ids[k]? with
  | none=>simp
  | some x=>simp
 have hnd:σ.ids.Nodup:=A44 fun j k i h1 h2=>hA.inj j k i ((hget j i).1 h1) ((hget k i).1 h2)
 have hidb:∀i∈σ.ids,∃b0,H[i]?=some b0∧b0.mut=true:=by
  intro i hi
  obtain⟨k,hk⟩:=List.mem_iff_getElem?.1 hi
  have hk':=(hget k i).1 hk
  have hlt:k<s.ins.blks.length:=by rw[←hml];exact(List.getElem?_eq_some_iff.1 hk').1
  have hb:(encBs id s.ins.blks p.2)[k]?=some ((encBs id s.ins.blks p.2)[k]'(by rw[Af];exact hlt)):=List.getElem?_eq_getElem _
  obtain⟨x,q1,q2,_⟩:=hA.hb k _ hb
  rw[hk']at q1;cases q1
  obtain⟨b0,hb0,hm0⟩:=q2 i rfl
  refine⟨b0,hb0,hm0 ?_⟩
  obtain⟨s0,q0,e0,_⟩:=Iv id s.ins.blks p.2 k _ hb
  rw[e0]
  refine Dd _ _ _ ?_
  obtain⟨s1,q1',h1,e1⟩:=A1d id s.ins.blks p.2 k _ hb
  have hl:=List.all_eq_true.1 hlv s1 (List.mem_of_getElem? h1)
  rw[e0]at e1
  exact Gc (f:=id) (by rw[e1];exact Dd id s1 q1' hl)
 have hidlt:∀i∈σ.ids,i<H.length:=fun i hi=>let ⟨b0,hb0,_⟩:=hidb i hi;(List.getElem?_eq_some_iff.1 hb0).1
 have hlendsub:∀i∈lend o σ,i∈σ.fz:=by
  intro i hi
  unfold lend at hi
  split at hi
  ·cases hi
  ·exact hi
 have hlenH:H'.length=H.length+(o.blks.length-s.ins.blks.length):=by
  rw[hH',List.length_append,Cf,Ah,List.length_drop,Af]
 refine⟨by omega,fun i hi=>?_,?_⟩
 ·rw[hwr]at hi
  rcases List.mem_append.1 hi with hi | hi
  ·rcases List.mem_append.1 hi with hi | hi
   ·have:=hidlt i hi;omega
   ·have:=(hA.dis i (hlendsub i hi)).2;omega
  ·rw[List.mem_range'_1]at hi;omega
 -- into the callee's numbers
 obtain⟨g1,st1,hs1⟩:=Mc σ.fz hs
 have hF:Frz g1 w H σ.fz:=K8 hs1 (fun i hi _=>hh i (by simp[hi]))
 have hh1:∀i∈σ.ids,frzF σ.fz h i=H[i]?:=fun i hi=>by
  have:i∉σ.fz:=fun hf=>hA.out hlv hf hi
  simp only[frzF,if_neg this]
  exact hh i (by simp[hi])
 obtain⟨hr1,hsc⟩:=Aho hA hs1 (fun j i b hj _ _ k hk=>by rw[hh1 i (W0 hj)];exact hk) hF (RepVs.mono st1.ge _ _ hr)
 have hρc:∀i,s.ins.blks.length≤i→(rebG σ g1).ρ i=none:=by
  intro i hi
  have:σ.m[i]?=none:=List.getElem?_eq_none (by omega)
  simp[rebG,this]
 have hfn:=hok.fn p r0 hrun _ w vs hr1 hsc hρc
 rw[halt]at hfn
 dsimp only at hfn
 refine hfn.mono fun v' w' hpost=>?_
 obtain⟨gc,stc,hsc',hvc⟩:=hpost
 have hsub:∀b,Sw (rebG σ g1) (hOf p.2) (List.range s.ins.blks.length) b→Sw g1 (frzF σ.fz h) σ.ids b:=by
  rintro b ⟨j,hj,k,c,n,hk,hkm,e⟩
  obtain⟨x,q1,q2,_⟩:=hA.hb j k hk
  cases x with
  | none=>simp only[rebG,q1]at e;cases e
  | some i=>
   simp only[rebG,q1]at e
   obtain⟨b0,hb0,hm0⟩:=q2 i rfl
   exact⟨i,W0 q1,b0,c,n,by rw[hh1 i (W0 q1)];exact hb0,hm0 hkm,e⟩
 by_cases hbor:(Shs.flat o.avs&&o.blks.isEmpty)=true
 ·-- nothing but numbers comes back
  simp only[Bool.and_eq_true,List.isEmpty_iff]at hbor
  obtain⟨hfl,hob⟩:=hbor
  have hm0:s.ins.blks.length=0:=by rw[hob]at hle;simpa using hle
  have hids:σ.ids=[]:=List.eq_nil_of_length_eq_zero (by omega)
  have hlend:lend o σ=[]:=by simp[lend,hfl,hob]
  have hwr0:wr=[]:=by rw[hwr,hids,hlend,hob];simp
  have hH0:H'=H:=by
   rw[hH',hids,hlend,hm0]
   have:(encBs (Is σ 0 H.length) o.blks r.2)=[]:=List.eq_nil_of_length_eq_zero (by rw[Af,hob];rfl)
   rw[this];simp[setIds,frzs]
  have hnoS:∀b,¬Sw (rebG σ g1) (hOf p.2) (List.range s.ins.blks.length) b:=by
   rintro b ⟨j,hj,_⟩;rw[hm0]at hj;simp at hj
  have hsame:∀b,b<w.heap.size→w'.heap[b]?=w.heap[b]?:=fun b hb=>stc.same b hb (hnoS b)
  have st:∀S nw,Stp S nw g w g w':=fun S nw=>⟨stc.os,stc.tape,stc.output,stc.size,fun b hb _=>hsame b hb,GE.refl g,fun _ a b=>absurd a b,fun _ _ _ _ a b=>(by rw[a]at b;cases b),fun _ _ a=>.inl a⟩
  refine⟨g,st _ _,?_,by rw[hv];exact A6k hfl hvc⟩
  rw[hH0,hwr0,A91]
  exact hs.step (wr:=[]) (st _ (fun _=>True)) (fun b o hb=>by rw[hsame b (A8 (hs.mem b o hb))];exact hs.mem b o hb) (fun _=>False) (fun _ _=>rfl) (by simp) (fun _ _ h=>h.elim) (fun _ _ _ _ _ _ _ _ _ h=>h.elim)
 ·have hlend:lend o σ=σ.fz:=by simp only[lend,hbor];rfl
  let f:=Is σ s.ins.blks.length H.length
  let g':=Akg g gc H.length H'.length s.ins.blks.length
  have hg1:∀i,g1.ρ i=g.ρ i:=st1.ρ_eq
  have hg':∀i,H.length≤i→i<H'.length→g'.ρ i=gc.ρ (s.ins.blks.length+(i-H.length)):=fun i h1 h2=>by simp only[g',Akg];rw[if_pos ⟨h1,h2⟩]
  have hg'':∀i,¬(H.length≤i∧i<H'.length)→g'.ρ i=g.ρ i:=fun i h1=>by simp only[g',Akg];rw[if_neg h1]
  have hnewρ:∀i,H.length≤i→i<H'.length→g.ρ i=none:=fun i h1 h2=>(hnew i h1 (by omega)).1
  have hfold:∀j,j<s.ins.blks.length→∃i,σ.m[j]?=some (some (some i))∧f j=i∧i∈σ.ids:=by
   intro j hj
   have hk:σ.ids[j]?=some (σ.ids[j]'(by omega)):=List.getElem?_eq_getElem _
   have hm:=(hget j _).1 hk
   exact⟨_,hm,by simp only[f,Is,hm],W0 hm⟩
  have hfnew:∀j,s.ins.blks.length≤j→f j=H.length+(j-s.ins.blks.length):=by
   intro j hj
   have:σ.m[j]?=none:=List.getElem?_eq_none (by omega)
   simp only[f,Is,this]
  have hren:Ren f gc g':=by
   refine⟨fun j x hx=>?_,fun b o h=>h⟩
   by_cases hj:j<s.ins.blks.length
   ·obtain⟨i,hm,hf,hi⟩:=hfold j hj
    have hlt:=hidlt i hi
    rw[hf,hg'' i (by omega)]
    have hc:(rebG σ g1).ρ j=g.ρ i:=by simp only[rebG,hm,hg1]
    cases e:g.ρ i with
    | none=>
     rw[e]at hc
     have:=stc.ρn j hc (by rw[hx];simp)
     omega
    | some y=>
     rw[e]at hc
     have:=stc.ge.ρ j y hc
     rw[hx]at this;exact this.symm
   ·have hj':s.ins.blks.length≤j:=by omega
    have:=stc.ρn j (hρc j hj') (by rw[hx];simp)
    rw[hfnew j hj',hg' _ (by omega) (by omega)]
    rw[show s.ins.blks.length+(H.length+(j-s.ins.blks.length)-H.length)=j by omega]
    exact hx
  have st2:Stp (Sw g1 (frzF σ.fz h) σ.ids) (fun i=>H.length≤i∧i<H'.length) g1 w g' w':=by
   refine⟨stc.os,stc.tape,stc.output,stc.size,fun b hb hS=>stc.same b hb (fun hx=>hS (hsub b hx)),⟨fun i x hx=>?_,fun b o hb=>stc.ge.M b o hb⟩,fun i h0 h1=>?_,fun i b c n h0 h1=>?_,fun b o hb=>?_⟩
   ·rw[hg1]at hx
    by_cases hi:H.length≤i∧i<H'.length
    ·rw[hnewρ i hi.1 hi.2]at hx;cases hx
    ·rw[hg'' i hi];exact hx
   ·by_cases hi:H.length≤i∧i<H'.length
    ·exact hi
    ·rw[hg'' i hi]at h1;rw[hg1]at h0;exact absurd h0 h1
   ·by_cases hi:H.length≤i∧i<H'.length
    ·rw[hg' i hi.1 hi.2]at h1
     exact(stc.ρb _ b c n (hρc _ (by omega)) h1).imp (fun h=>h) (hsub b)
    ·rw[hg'' i hi]at h1;rw[hg1]at h0;rw[h0]at h1;cases h1
   ·rcases stc.Mn b o hb with h1 | ⟨h1,h2,h3⟩
    ·exact .inl h1
    ·exact .inr ⟨h1,h2.imp (fun h=>h) (hsub b),h3⟩
  -- what stands where
  have hH1:∀i,i∉σ.ids→i<H.length→H'[i]?=(frzs σ.fz H)[i]?:=by
   intro i hi hl
   rw[hH',List.getElem?_append_left (by rw[Cf,Ah];exact hl),Lz _ _ _ _ hi,hlend]
  have hHold:∀j,j<s.ins.blks.length→H'[f j]?=(encBs f o.blks r.2)[j]?:=by
   intro j hj
   obtain⟨i,hm,hf,hi⟩:=hfold j hj
   have hlt:=hidlt i hi
   rw[hf,hH',List.getElem?_append_left (by rw[Cf,Ah];exact hlt)]
   exact Y5 _ _ _ j i hnd ((hget j i).2 hm) (by rw[Ah];exact hlt) (by rw[Af];omega)
  have hHnew:∀j,s.ins.blks.length≤j→H'[f j]?=(encBs f o.blks r.2)[j]?:=by
   intro j hj
   rw[hfnew j hj,hH',List.getElem?_append_right (by rw[Cf,Ah];omega),Cf,Ah,List.getElem?_drop]
   congr 1;omega
  have hHf:∀j,H'[f j]?=(encBs f o.blks r.2)[j]?:=fun j=>by
   by_cases hj:j<s.ins.blks.length
   ·exact hHold j hj
   ·exact hHnew j (by omega)
  have hch:∀i,(i∈σ.ids∨(H.length≤i∧i<H'.length))→∃j,j<o.blks.length∧f j=i:=by
   rintro i (hi | hi)
   ·obtain⟨k,hk⟩:=List.mem_iff_getElem?.1 hi
    have hk':=(hget k i).1 hk
    have hlt:k<s.ins.blks.length:=by rw[←hml];exact(List.getElem?_eq_some_iff.1 hk').1
    exact⟨k,by omega,by simp only[f,Is,hk']⟩
   ·exact⟨s.ins.blks.length+(i-H.length),by omega,by rw[hfnew _ (by omega)];omega⟩
  have hupd:∀i,updH h H H' wr i=if i∈σ.ids∨(H.length≤i∧i<H'.length)then H'[i]? else frzF σ.fz h i:=by
   intro i
   simp only[updH,chg,hwr,hlend,List.mem_append,List.mem_range'_1,frzF]
   by_cases h1:i∈σ.ids∨(H.length≤i∧i<H'.length)
   ·rw[if_pos h1,if_pos (by rcases h1 with h1 | h1<;>simp[h1])]
   ·simp only[not_or]at h1
    by_cases h2:i∈σ.fz
    ·have hlt:=(hA.dis i h2).2
     rw[if_pos (.inl (.inl (.inr h2))),if_neg (by simp[h1.1];omega),if_pos h2,hH1 i h1.1 hlt,Cp,if_pos h2,hh i (by simp[h2])]
    ·rw[if_neg (by simp[h1.1,h2];omega),if_neg (by simp[h1.1];omega),if_neg h2]
  have hupd':updH h H H' wr=fun i=>if i∈σ.ids∨(H.length≤i∧i<H'.length)then H'[i]? else frzF σ.fz h i:=funext hupd
  refine⟨g',(st1.mono (fun b hb=>Sw.sub (fun i hi=>by rw[hwr,hlend];simp[hi]) hb) (fun _ h=>h.elim)).trans st2 (fun b hb=>.inl (Sw.frz hs st1.ge (Sw.sub (fun i hi=>by rw[hwr];simp[hi]) hb))) (fun _ h=>h),?_,by rw[hv];exact Aax hren hvc⟩
  rw[hupd']
  refine hs1.step (wr:=σ.ids) st2 (fun b o hb=>hsc'.mem b o hb) (fun i=>i∈σ.ids∨(H.length≤i∧i<H'.length)) (fun i hi=>by rw[if_neg hi]) (fun i hi=>.inl hi) (fun i k hi hk=>?_) (fun i i2 ki kj b ci ni cj nj hi h1 h2 m1 m2 e1 e2=>?_)
  ·skip
   rw[if_pos hi]at hk
   obtain⟨j,hj,rfl⟩:=hch i hi
   rw[hHf j]at hk
   obtain⟨s0,q,rfl,hq⟩:=Iv f o.blks r.2 j k hk
   exact Ak5 hren (hsc'.blk j _ (hq id)) (fun _ _ _ _ h=>h)
  ·skip
   rw[if_pos hi]at h1
   obtain⟨j,hj,rfl⟩:=hch i hi
   rw[hHf j]at h1
   obtain⟨s0,q,rfl,hq⟩:=Iv f o.blks r.2 j _ h1
   obtain⟨y,hy⟩:=(hsc'.blk j _ (hq id)).known (Dd _ _ _ (Gc m1))
   have hy':=hren.ρ j y hy
   rw[hy']at e1;cases e1
   by_cases hi2:i2∈σ.ids∨(H.length≤i2∧i2<H'.length)
   ·rw[if_pos hi2]at h2
    obtain⟨j2,hj2,rfl⟩:=hch i2 hi2
    rw[hHf j2]at h2
    obtain⟨s2,q2,rfl,hq2⟩:=Iv f o.blks r.2 j2 _ h2
    obtain⟨y2,hy2⟩:=(hsc'.blk j2 _ (hq2 id)).known (Dd _ _ _ (Gc m2))
    have hy2':=hren.ρ j2 y2 hy2
    rw[hy2']at e2;cases e2
    rw[hsc'.inj j j2 _ _ b ci ni cj nj (hq id) (hq2 id) (Dd _ _ _ (Gc m1)) (Dd _ _ _ (Gc m2)) hy hy2]
   ·rw[if_neg hi2]at h2
    simp only[not_or]at hi2
    exfalso
    rw[hg'' i2 hi2.2,←hg1]at e2
    -- i2's block is an old one
    have hold:∀b',b'=b→Sw g1 (frzF σ.fz h) σ.ids b'→False:=by
     rintro b' rfl ⟨i3,hi3,k3,c3,n3,q1,q2,q3⟩
     have:=hs1.inj i2 i3 kj k3 b' cj nj c3 n3 h2 q1 m2 q2 e2 q3
     subst this
     exact hi2.1 hi3
    by_cases hjm:j<s.ins.blks.length
    ·obtain⟨i3,hm3,hf3,hi3⟩:=hfold j hjm
     obtain⟨b0,hb0,hm0⟩:=hidb i3 hi3
     have hc:(rebG σ g1).ρ j=g1.ρ i3:=by simp only[rebG,hm3]
     obtain⟨y3,hy3⟩:=(hs1.blk i3 b0 (by rw[hh1 i3 hi3];exact hb0)).known hm0
     rw[hy3]at hc
     have:=stc.ge.ρ j y3 hc
     rw[hy]at this;cases this
     exact hold b rfl ⟨i3,hi3,b0,ci,ni,by rw[hh1 i3 hi3];exact hb0,hm0,hy3⟩
    ·rcases stc.ρb j b ci ni (hρc j (by omega)) hy with h3 | h3
     ·have:=(hs1.lt h2 m2 e2).1;omega
     ·exact hold b rfl (hsub b h3)
end
end Go.Proofs.YtfcnhnbnjdccfaaGreat
